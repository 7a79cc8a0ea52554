/- The code of the functions, turned. Printed by a program (mkc.py). -/
import Derived.Test.YtgkkffhoflgpoaaGD
import Derived.Test.YtgkkffhoflgpoaaChecked
import Derived.KernelRfl
set_option maxRecDepth 100000
namespace Go.Vx
open Go
open Go.Proofs

theorem mixed : Try.prog.follows .mixedOrders = true := Try.checked.mixed

/-- regesta/regestalaw22.TxnFree -/
def c3 : XCode :=
  .seq (.reg [⟨(some 4), .mv (.c (.bool false)), none, 0, true, false⟩])
  (.seq (.reg [⟨(some 14), .call 9 [(.c (.int .i64 0))], none, 0, true, false⟩,
      ⟨(some 5), .mv (.t 14), none, 0, true, false⟩])
  (.seq (.seq (.reg [⟨(some 15), .call 10 [], none, 0, true, false⟩,
        ⟨(some 16), .not (.t 15), none, 0, true, false⟩,
        ⟨(some 17), .mv (.t 16), none, 0, true, false⟩,
        ⟨(some 18), .mv (.t 5), (some (17, false)), 0, true, false⟩,
        ⟨(some 19), .eqp false (.t 18) (.c .nilp), (some (17, false)), 0, true, false⟩,
        ⟨(some 20), .pick (.t 17) (.c (.bool true)) (.t 19), none, 0, true, false⟩])
    (.cond (.t 20)
      (.seq (.reg [⟨(some 4), .mv (.c (.bool false)), none, 0, true, false⟩])
      (.ret))
      (.skip)))
  (.seq (.seq (.reg [⟨(some 22), .mv (.t 5), none, 0, true, false⟩,
        ⟨(some 23), .call 11 [(.t 22), (.c (.int .i64 0))], none, 0, true, false⟩,
        ⟨(some 21), .mv (.t 23), none, 0, true, false⟩,
        ⟨(some 24), .ext 0 (.t 21), none, 0, true, false⟩,
        ⟨(some 25), .ext 1 (.t 21), none, 0, true, false⟩,
        ⟨(some 6), .mv (.t 24), none, 0, true, false⟩,
        ⟨(some 7), .mv (.t 25), none, 0, true, false⟩])
    (.seq (.reg [⟨(some 26), .mv (.t 7), none, 0, true, false⟩,
        ⟨(some 27), .bin .neq (.t 26) (.c (.int .i64 0)), none, 0, true, false⟩])
    (.cond (.t 27)
      (.seq (.reg [⟨(some 4), .mv (.c (.bool false)), none, 0, true, false⟩])
      (.ret))
      (.skip))))
  (.seq (.seq (.reg [⟨(some 8), .mv (.c (.int .i64 0)), none, 0, true, false⟩])
    (.block 0 (
      .loop (
        .seq (.seq (.reg [⟨(some 28), .mv (.t 8), none, 0, true, false⟩,
              ⟨(some 29), .mv (.t 1), none, 0, true, false⟩,
              ⟨(some 30), .lenS (.t 29), none, 0, true, false⟩,
              ⟨(some 31), .bin .lss (.t 28) (.t 30), none, 0, true, false⟩,
              ⟨(some 32), .mv (.t 31), none, 0, true, false⟩,
              ⟨(some 33), .mv (.t 8), (some (32, true)), 0, true, false⟩,
              ⟨(some 34), .bin .lss (.t 33) (.c (.int .i64 8)), (some (32, true)), 0, true, false⟩,
              ⟨(some 35), .pick (.t 32) (.t 34) (.c (.bool false)), none, 0, true, false⟩])
          (.cond (.t 35)
            (.skip)
            (.exit 0)))
        (.seq (.block 1 (
            .seq (.reg [⟨(some 38), .mv (.t 5), none, 0, true, false⟩,
                ⟨(some 39), .mv (.t 1), none, 0, true, false⟩,
                ⟨(some 40), .mv (.t 8), none, 0, true, false⟩,
                ⟨(some 41), .indexS 1 (.t 39) (.t 40), none, 0, true, false⟩,
                ⟨(some 42), .load1 (.t 41), none, 0, true, false⟩,
                ⟨(some 43), .bin .add (.c (.str [111, 119, 110, 32])) (.t 42), none, 0, true, false⟩,
                ⟨(some 44), .call 12 [(.t 38), (.c (.int .i64 0)), (.t 43)], none, 0, true, false⟩,
                ⟨(some 45), .bin .neq (.t 44) (.c (.int .i64 0)), none, 0, true, false⟩])
            (.cond (.t 45)
              (.seq (.reg [⟨(some 4), .mv (.c (.bool false)), none, 0, true, false⟩])
              (.ret))
              (.skip))))
        (.reg [⟨(some 36), .mv (.t 8), none, 0, true, false⟩,
          ⟨(some 37), .bin .add (.t 36) (.c (.int .i64 1)), none, 0, true, false⟩,
          ⟨(some 8), .mv (.t 37), none, 0, true, false⟩]))))))
  (.seq (.seq (.reg [⟨(some 9), .mv (.c (.int .i64 0)), none, 0, true, false⟩])
    (.block 2 (
      .loop (
        .seq (.seq (.reg [⟨(some 46), .mv (.t 9), none, 0, true, false⟩,
              ⟨(some 47), .mv (.t 0), none, 0, true, false⟩,
              ⟨(some 48), .lenS (.t 47), none, 0, true, false⟩,
              ⟨(some 49), .bin .lss (.t 46) (.t 48), none, 0, true, false⟩,
              ⟨(some 50), .mv (.t 49), none, 0, true, false⟩,
              ⟨(some 51), .mv (.t 9), (some (50, true)), 0, true, false⟩,
              ⟨(some 52), .bin .lss (.t 51) (.c (.int .i64 40)), (some (50, true)), 0, true, false⟩,
              ⟨(some 53), .pick (.t 50) (.t 52) (.c (.bool false)), none, 0, true, false⟩])
          (.cond (.t 53)
            (.skip)
            (.exit 2)))
        (.seq (.block 3 (
            .seq (.reg [⟨(some 56), .mv (.t 0), none, 0, true, false⟩,
                ⟨(some 57), .mv (.t 9), none, 0, true, false⟩,
                ⟨(some 58), .indexS 4 (.t 56) (.t 57), none, 0, true, false⟩,
                ⟨(some 59), .loadn 4 (.t 58), none, 0, true, false⟩,
                ⟨(some 10), .alloc 32 [(.int .i64 0), (.int .i64 0), (.str []), (.int .i64 0)], none, 0, true, false⟩,
                ⟨none, .store 4 (.t 10) (.t 59), none, 0, true, false⟩])
            (.seq (.reg [⟨(some 60), .fieldA 1 (.t 10), none, 0, true, false⟩,
                ⟨(some 61), .load1 (.t 60), none, 0, true, false⟩,
                ⟨(some 62), .bin .and (.t 61) (.c (.int .i64 1)), none, 0, true, false⟩,
                ⟨(some 63), .bin .add (.c (.int .i64 1)) (.t 62), none, 0, true, false⟩,
                ⟨(some 11), .mv (.t 63), none, 0, true, false⟩])
            (.seq (.reg [⟨(some 64), .fieldA 0 (.t 10), none, 0, true, false⟩,
                ⟨(some 65), .load1 (.t 64), none, 0, true, false⟩])
            (.block 4 (
              .seq (.reg [⟨(some 67), .bin .eql (.t 65) (.c (.int .i64 0)), none, 0, true, false⟩,
                  ⟨(some 66), .mv (.t 67), none, 0, true, false⟩])
              (.cond (.t 66)
                (.reg [⟨(some 68), .mv (.t 5), none, 0, true, false⟩,
                  ⟨(some 69), .mv (.t 11), none, 0, true, false⟩,
                  ⟨(some 70), .call 11 [(.t 68), (.t 69)], none, 0, true, false⟩])
                (.seq (.reg [⟨(some 72), .bin .eql (.t 65) (.c (.int .i64 1)), none, 0, true, false⟩,
                    ⟨(some 71), .mv (.t 72), none, 0, true, false⟩])
                (.cond (.t 71)
                  (.reg [⟨(some 73), .mv (.t 5), none, 0, true, false⟩,
                    ⟨(some 74), .mv (.t 11), none, 0, true, false⟩,
                    ⟨(some 75), .fieldA 2 (.t 10), none, 0, true, false⟩,
                    ⟨(some 76), .load1 (.t 75), none, 0, true, false⟩,
                    ⟨(some 77), .bin .add (.c (.str [111, 116, 104, 101, 114, 32])) (.t 76), none, 0, true, false⟩,
                    ⟨(some 78), .call 12 [(.t 73), (.t 74), (.t 77)], none, 0, true, false⟩])
                  (.seq (.reg [⟨(some 80), .bin .eql (.t 65) (.c (.int .i64 2)), none, 0, true, false⟩,
                      ⟨(some 79), .mv (.t 80), none, 0, true, false⟩])
                  (.cond (.t 79)
                    (.reg [⟨(some 81), .mv (.t 5), none, 0, true, false⟩,
                      ⟨(some 82), .mv (.t 11), none, 0, true, false⟩,
                      ⟨(some 83), .call 13 [(.t 81), (.t 82)], none, 0, true, false⟩])
                    (.seq (.reg [⟨(some 85), .bin .eql (.t 65) (.c (.int .i64 3)), none, 0, true, false⟩,
                        ⟨(some 84), .mv (.t 85), none, 0, true, false⟩])
                    (.cond (.t 84)
                      (.reg [⟨(some 86), .mv (.t 5), none, 0, true, false⟩,
                        ⟨(some 87), .mv (.t 11), none, 0, true, false⟩,
                        ⟨(some 88), .call 14 [(.t 86), (.t 87)], none, 0, true, false⟩])
                      (.skip))))))))))))))
        (.reg [⟨(some 54), .mv (.t 9), none, 0, true, false⟩,
          ⟨(some 55), .bin .add (.t 54) (.c (.int .i64 1)), none, 0, true, false⟩,
          ⟨(some 9), .mv (.t 55), none, 0, true, false⟩]))))))
  (.seq (.reg [⟨(some 90), .mv (.t 5), none, 0, true, false⟩,
      ⟨(some 91), .call 13 [(.t 90), (.c (.int .i64 0))], none, 0, true, false⟩,
      ⟨(some 89), .mv (.t 91), none, 0, true, false⟩,
      ⟨(some 92), .ext 0 (.t 89), none, 0, true, false⟩,
      ⟨(some 93), .ext 1 (.t 89), none, 0, true, false⟩,
      ⟨(some 12), .mv (.t 92), none, 0, true, false⟩,
      ⟨(some 13), .mv (.t 93), none, 0, true, false⟩])
  (.seq (.reg [⟨(some 94), .mv (.t 13), none, 0, true, false⟩,
      ⟨(some 95), .bin .eql (.t 94) (.c (.int .i64 0)), none, 0, true, false⟩,
      ⟨(some 4), .mv (.t 95), none, 0, true, false⟩])
  (.ret))))))))
theorem k3 : codeOf Try.prog 3 = some (c3, [.tmp 4], 96, false) := by kernel_rfl

/-- regesta/regestalaw22.TxnFirst -/
def c4 : XCode :=
  .seq (.reg [⟨(some 6), .mv (.c (.bool false)), none, 0, true, false⟩])
  (.seq (.reg [⟨(some 16), .call 9 [(.c (.int .i64 0))], none, 0, true, false⟩,
      ⟨(some 7), .mv (.t 16), none, 0, true, false⟩])
  (.seq (.seq (.reg [⟨(some 17), .call 10 [], none, 0, true, false⟩,
        ⟨(some 18), .not (.t 17), none, 0, true, false⟩,
        ⟨(some 19), .mv (.t 18), none, 0, true, false⟩,
        ⟨(some 20), .mv (.t 7), (some (19, false)), 0, true, false⟩,
        ⟨(some 21), .eqp false (.t 20) (.c .nilp), (some (19, false)), 0, true, false⟩,
        ⟨(some 22), .pick (.t 19) (.c (.bool true)) (.t 21), none, 0, true, false⟩])
    (.cond (.t 22)
      (.seq (.reg [⟨(some 6), .mv (.c (.bool false)), none, 0, true, false⟩])
      (.ret))
      (.skip)))
  (.seq (.seq (.reg [⟨(some 8), .mv (.c (.int .i64 0)), none, 0, true, false⟩])
    (.block 0 (
      .loop (
        .seq (.seq (.reg [⟨(some 23), .mv (.t 8), none, 0, true, false⟩,
              ⟨(some 24), .mv (.t 0), none, 0, true, false⟩,
              ⟨(some 25), .lenS (.t 24), none, 0, true, false⟩,
              ⟨(some 26), .bin .lss (.t 23) (.t 25), none, 0, true, false⟩,
              ⟨(some 27), .mv (.t 26), none, 0, true, false⟩,
              ⟨(some 28), .mv (.t 8), (some (27, true)), 0, true, false⟩,
              ⟨(some 29), .bin .lss (.t 28) (.c (.int .i64 20)), (some (27, true)), 0, true, false⟩,
              ⟨(some 30), .pick (.t 27) (.t 29) (.c (.bool false)), none, 0, true, false⟩])
          (.cond (.t 30)
            (.skip)
            (.exit 0)))
        (.seq (.block 1 (
            .reg [⟨(some 33), .mv (.t 7), none, 0, true, false⟩,
              ⟨(some 34), .mv (.t 0), none, 0, true, false⟩,
              ⟨(some 35), .mv (.t 8), none, 0, true, false⟩,
              ⟨(some 36), .indexS 4 (.t 34) (.t 35), none, 0, true, false⟩,
              ⟨(some 37), .fieldA 3 (.t 36), none, 0, true, false⟩,
              ⟨(some 38), .load1 (.t 37), none, 0, true, false⟩,
              ⟨(some 39), .bin .rem (.t 38) (.c (.int .i64 5)), none, 0, true, false⟩,
              ⟨(some 40), .call 15 [(.t 33), (.t 39)], none, 0, true, false⟩]))
        (.reg [⟨(some 31), .mv (.t 8), none, 0, true, false⟩,
          ⟨(some 32), .bin .add (.t 31) (.c (.int .i64 1)), none, 0, true, false⟩,
          ⟨(some 8), .mv (.t 32), none, 0, true, false⟩]))))))
  (.seq (.reg [⟨(some 9), .mv (.c (.int .i64 0)), none, 0, true, false⟩,
      ⟨(some 10), .mv (.c (.int .i64 1)), none, 0, true, false⟩])
  (.seq (.seq (.reg [⟨(some 41), .mv (.t 2), none, 0, true, false⟩])
    (.cond (.t 41)
      (.reg [⟨(some 9), .mv (.c (.int .i64 1)), none, 0, true, false⟩,
        ⟨(some 10), .mv (.c (.int .i64 0)), none, 0, true, false⟩])
      (.skip)))
  (.seq (.reg [⟨(some 42), .mv (.t 7), none, 0, true, false⟩,
      ⟨(some 43), .call 11 [(.t 42), (.c (.int .i64 0))], none, 0, true, false⟩])
  (.seq (.reg [⟨(some 44), .mv (.t 7), none, 0, true, false⟩,
      ⟨(some 45), .call 11 [(.t 44), (.c (.int .i64 1))], none, 0, true, false⟩])
  (.seq (.reg [⟨(some 46), .mv (.t 7), none, 0, true, false⟩,
      ⟨(some 47), .mv (.t 1), none, 0, true, false⟩,
      ⟨(some 48), .call 12 [(.t 46), (.c (.int .i64 0)), (.t 47)], none, 0, true, false⟩])
  (.seq (.reg [⟨(some 49), .mv (.t 7), none, 0, true, false⟩,
      ⟨(some 50), .mv (.t 1), none, 0, true, false⟩,
      ⟨(some 51), .call 12 [(.t 49), (.c (.int .i64 1)), (.t 50)], none, 0, true, false⟩])
  (.seq (.seq (.reg [⟨(some 11), .mv (.c (.int .i64 0)), none, 0, true, false⟩])
    (.block 2 (
      .loop (
        .seq (.seq (.reg [⟨(some 52), .mv (.t 11), none, 0, true, false⟩,
              ⟨(some 53), .mv (.t 0), none, 0, true, false⟩,
              ⟨(some 54), .lenS (.t 53), none, 0, true, false⟩,
              ⟨(some 55), .bin .lss (.t 52) (.t 54), none, 0, true, false⟩,
              ⟨(some 56), .mv (.t 55), none, 0, true, false⟩,
              ⟨(some 57), .mv (.t 11), (some (56, true)), 0, true, false⟩,
              ⟨(some 58), .bin .lss (.t 57) (.c (.int .i64 20)), (some (56, true)), 0, true, false⟩,
              ⟨(some 59), .pick (.t 56) (.t 58) (.c (.bool false)), none, 0, true, false⟩])
          (.cond (.t 59)
            (.skip)
            (.exit 2)))
        (.seq (.block 3 (
            .seq (.reg [⟨(some 62), .mv (.t 7), none, 0, true, false⟩,
                ⟨(some 63), .mv (.t 0), none, 0, true, false⟩,
                ⟨(some 64), .mv (.t 11), none, 0, true, false⟩,
                ⟨(some 65), .indexS 4 (.t 63) (.t 64), none, 0, true, false⟩,
                ⟨(some 66), .fieldA 1 (.t 65), none, 0, true, false⟩,
                ⟨(some 67), .load1 (.t 66), none, 0, true, false⟩,
                ⟨(some 68), .bin .and (.t 67) (.c (.int .i64 1)), none, 0, true, false⟩,
                ⟨(some 69), .bin .add (.c (.int .i64 2)) (.t 68), none, 0, true, false⟩,
                ⟨(some 70), .call 11 [(.t 62), (.t 69)], none, 0, true, false⟩])
            (.regD [⟨(some 71), .mv (.t 7), none, 0, false, false⟩,
              ⟨(some 72), .mv (.t 0), none, 0, false, false⟩,
              ⟨(some 73), .mv (.t 11), none, 0, false, false⟩,
              ⟨(some 74), .indexS 4 (.t 72) (.t 73), none, 6, false, false⟩,
              ⟨(some 75), .fieldA 1 (.t 74), none, 14, false, false⟩,
              ⟨(some 76), .load1 (.t 75), none, 30, false, false⟩,
              ⟨(some 77), .bin .and (.t 76) (.c (.int .i64 1)), none, 62, false, false⟩,
              ⟨(some 78), .bin .add (.c (.int .i64 2)) (.t 77), none, 126, false, false⟩,
              ⟨(some 79), .mv (.t 0), none, 0, false, false⟩,
              ⟨(some 80), .mv (.t 11), none, 0, false, false⟩,
              ⟨(some 81), .indexS 4 (.t 79) (.t 80), none, 768, false, false⟩,
              ⟨(some 82), .fieldA 2 (.t 81), none, 1792, false, false⟩,
              ⟨(some 83), .load1 (.t 82), none, 3840, false, false⟩,
              ⟨(some 84), .bin .add (.t 83) (.c (.str [120])), none, 7936, false, false⟩,
              ⟨(some 85), .call 12 [(.t 71), (.t 78), (.t 84)], none, 16383, true, false⟩])))
        (.reg [⟨(some 60), .mv (.t 11), none, 0, true, false⟩,
          ⟨(some 61), .bin .add (.t 60) (.c (.int .i64 1)), none, 0, true, false⟩,
          ⟨(some 11), .mv (.t 61), none, 0, true, false⟩]))))))
  (.seq (.reg [⟨(some 87), .mv (.t 7), none, 0, true, false⟩,
      ⟨(some 88), .mv (.t 9), none, 0, true, false⟩,
      ⟨(some 89), .call 13 [(.t 87), (.t 88)], none, 0, true, false⟩,
      ⟨(some 86), .mv (.t 89), none, 0, true, false⟩,
      ⟨(some 90), .ext 0 (.t 86), none, 0, true, false⟩,
      ⟨(some 91), .ext 1 (.t 86), none, 0, true, false⟩,
      ⟨(some 12), .mv (.t 90), none, 0, true, false⟩,
      ⟨(some 13), .mv (.t 91), none, 0, true, false⟩])
  (.seq (.reg [⟨(some 93), .mv (.t 7), none, 0, true, false⟩,
      ⟨(some 94), .mv (.t 10), none, 0, true, false⟩,
      ⟨(some 95), .call 13 [(.t 93), (.t 94)], none, 0, true, false⟩,
      ⟨(some 92), .mv (.t 95), none, 0, true, false⟩,
      ⟨(some 96), .ext 0 (.t 92), none, 0, true, false⟩,
      ⟨(some 97), .ext 1 (.t 92), none, 0, true, false⟩,
      ⟨(some 14), .mv (.t 96), none, 0, true, false⟩,
      ⟨(some 15), .mv (.t 97), none, 0, true, false⟩])
  (.seq (.reg [⟨(some 98), .mv (.t 13), none, 0, true, false⟩,
      ⟨(some 99), .bin .eql (.t 98) (.c (.int .i64 0)), none, 0, true, false⟩,
      ⟨(some 100), .mv (.t 99), none, 0, true, false⟩,
      ⟨(some 101), .mv (.t 15), (some (100, true)), 0, true, false⟩,
      ⟨(some 102), .bin .eql (.t 101) (.c (.int .i64 13)), (some (100, true)), 0, true, false⟩,
      ⟨(some 103), .pick (.t 100) (.t 102) (.c (.bool false)), none, 0, true, false⟩,
      ⟨(some 104), .mv (.t 103), none, 0, true, false⟩,
      ⟨(some 105), .mv (.t 7), (some (104, true)), 0, true, false⟩,
      ⟨(some 106), .mv (.t 10), (some (104, true)), 0, true, false⟩,
      ⟨(some 107), .call 16 [(.t 105), (.t 106)], (some (104, true)), 0, true, false⟩,
      ⟨(some 108), .pick (.t 104) (.t 107) (.c (.bool false)), none, 0, true, false⟩,
      ⟨(some 109), .mv (.t 108), none, 0, true, false⟩,
      ⟨(some 110), .mv (.t 7), (some (109, true)), 0, true, false⟩,
      ⟨(some 111), .mv (.t 9), (some (109, true)), 0, true, false⟩,
      ⟨(some 112), .call 16 [(.t 110), (.t 111)], (some (109, true)), 0, true, false⟩,
      ⟨(some 113), .not (.t 112), (some (109, true)), 0, true, false⟩,
      ⟨(some 114), .pick (.t 109) (.t 113) (.c (.bool false)), none, 0, true, false⟩,
      ⟨(some 6), .mv (.t 114), none, 0, true, false⟩])
  (.ret))))))))))))))
theorem k4 : codeOf Try.prog 4 = some (c4, [.tmp 6], 115, false) := by kernel_rfl

/-- regesta/regestalaw22.TxnRises -/
def c5 : XCode :=
  .seq (.reg [⟨(some 2), .mv (.c (.bool false)), none, 0, true, false⟩])
  (.seq (.reg [⟨(some 11), .call 9 [(.c (.int .i64 0))], none, 0, true, false⟩,
      ⟨(some 3), .mv (.t 11), none, 0, true, false⟩])
  (.seq (.seq (.reg [⟨(some 12), .call 10 [], none, 0, true, false⟩,
        ⟨(some 13), .not (.t 12), none, 0, true, false⟩,
        ⟨(some 14), .mv (.t 13), none, 0, true, false⟩,
        ⟨(some 15), .mv (.t 3), (some (14, false)), 0, true, false⟩,
        ⟨(some 16), .eqp false (.t 15) (.c .nilp), (some (14, false)), 0, true, false⟩,
        ⟨(some 17), .pick (.t 14) (.c (.bool true)) (.t 16), none, 0, true, false⟩])
    (.cond (.t 17)
      (.seq (.reg [⟨(some 2), .mv (.c (.bool false)), none, 0, true, false⟩])
      (.ret))
      (.skip)))
  (.seq (.reg [⟨(some 4), .mv (.c (.int .i64 (-1))), none, 0, true, false⟩])
  (.seq (.seq (.reg [⟨(some 5), .mv (.c (.int .i64 0)), none, 0, true, false⟩])
    (.block 0 (
      .loop (
        .seq (.seq (.reg [⟨(some 18), .mv (.t 5), none, 0, true, false⟩,
              ⟨(some 19), .mv (.t 0), none, 0, true, false⟩,
              ⟨(some 20), .lenS (.t 19), none, 0, true, false⟩,
              ⟨(some 21), .bin .lss (.t 18) (.t 20), none, 0, true, false⟩,
              ⟨(some 22), .mv (.t 21), none, 0, true, false⟩,
              ⟨(some 23), .mv (.t 5), (some (22, true)), 0, true, false⟩,
              ⟨(some 24), .bin .lss (.t 23) (.c (.int .i64 60)), (some (22, true)), 0, true, false⟩,
              ⟨(some 25), .pick (.t 22) (.t 24) (.c (.bool false)), none, 0, true, false⟩])
          (.cond (.t 25)
            (.skip)
            (.exit 0)))
        (.seq (.block 1 (
            .seq (.reg [⟨(some 28), .mv (.t 0), none, 0, true, false⟩,
                ⟨(some 29), .mv (.t 5), none, 0, true, false⟩,
                ⟨(some 30), .indexS 4 (.t 28) (.t 29), none, 0, true, false⟩,
                ⟨(some 31), .loadn 4 (.t 30), none, 0, true, false⟩,
                ⟨(some 6), .alloc 32 [(.int .i64 0), (.int .i64 0), (.str []), (.int .i64 0)], none, 0, true, false⟩,
                ⟨none, .store 4 (.t 6) (.t 31), none, 0, true, false⟩])
            (.seq (.reg [⟨(some 32), .fieldA 0 (.t 6), none, 0, true, false⟩,
                ⟨(some 33), .load1 (.t 32), none, 0, true, false⟩])
            (.block 2 (
              .seq (.reg [⟨(some 35), .bin .eql (.t 33) (.c (.int .i64 0)), none, 0, true, false⟩,
                  ⟨(some 34), .mv (.t 35), none, 0, true, false⟩])
              (.cond (.t 34)
                (.seq (.reg [⟨(some 37), .mv (.t 3), none, 0, true, false⟩,
                    ⟨(some 38), .fieldA 1 (.t 6), none, 0, true, false⟩,
                    ⟨(some 39), .load1 (.t 38), none, 0, true, false⟩,
                    ⟨(some 40), .call 11 [(.t 37), (.t 39)], none, 0, true, false⟩,
                    ⟨(some 36), .mv (.t 40), none, 0, true, false⟩,
                    ⟨(some 41), .ext 0 (.t 36), none, 0, true, false⟩,
                    ⟨(some 42), .ext 1 (.t 36), none, 0, true, false⟩,
                    ⟨(some 7), .mv (.t 41), none, 0, true, false⟩,
                    ⟨(some 8), .mv (.t 42), none, 0, true, false⟩])
                (.seq (.reg [⟨(some 43), .mv (.t 8), none, 0, true, false⟩,
                    ⟨(some 44), .bin .eql (.t 43) (.c (.int .i64 0)), none, 0, true, false⟩])
                (.cond (.t 44)
                  (.seq (.seq (.reg [⟨(some 45), .mv (.t 7), none, 0, true, false⟩,
                        ⟨(some 46), .mv (.t 4), none, 0, true, false⟩,
                        ⟨(some 47), .bin .lss (.t 45) (.t 46), none, 0, true, false⟩,
                        ⟨(some 48), .mv (.t 47), none, 0, true, false⟩,
                        ⟨(some 49), .mv (.t 7), (some (48, false)), 0, true, false⟩,
                        ⟨(some 50), .mv (.t 3), (some (48, false)), 0, true, false⟩,
                        ⟨(some 51), .call 17 [(.t 50)], (some (48, false)), 0, true, false⟩,
                        ⟨(some 52), .bin .lss (.t 49) (.t 51), (some (48, false)), 0, true, false⟩,
                        ⟨(some 53), .pick (.t 48) (.c (.bool true)) (.t 52), none, 0, true, false⟩])
                    (.cond (.t 53)
                      (.seq (.reg [⟨(some 2), .mv (.c (.bool false)), none, 0, true, false⟩])
                      (.ret))
                      (.skip)))
                  (.reg [⟨(some 54), .mv (.t 7), none, 0, true, false⟩,
                    ⟨(some 4), .mv (.t 54), none, 0, true, false⟩]))
                  (.skip))))
                (.seq (.reg [⟨(some 56), .bin .eql (.t 33) (.c (.int .i64 1)), none, 0, true, false⟩,
                    ⟨(some 55), .mv (.t 56), none, 0, true, false⟩])
                (.cond (.t 55)
                  (.reg [⟨(some 57), .mv (.t 3), none, 0, true, false⟩,
                    ⟨(some 58), .fieldA 1 (.t 6), none, 0, true, false⟩,
                    ⟨(some 59), .load1 (.t 58), none, 0, true, false⟩,
                    ⟨(some 60), .fieldA 2 (.t 6), none, 0, true, false⟩,
                    ⟨(some 61), .load1 (.t 60), none, 0, true, false⟩,
                    ⟨(some 62), .call 12 [(.t 57), (.t 59), (.t 61)], none, 0, true, false⟩])
                  (.seq (.reg [⟨(some 64), .bin .eql (.t 33) (.c (.int .i64 2)), none, 0, true, false⟩,
                      ⟨(some 63), .mv (.t 64), none, 0, true, false⟩])
                  (.cond (.t 63)
                    (.seq (.reg [⟨(some 66), .mv (.t 3), none, 0, true, false⟩,
                        ⟨(some 67), .fieldA 1 (.t 6), none, 0, true, false⟩,
                        ⟨(some 68), .load1 (.t 67), none, 0, true, false⟩,
                        ⟨(some 69), .call 13 [(.t 66), (.t 68)], none, 0, true, false⟩,
                        ⟨(some 65), .mv (.t 69), none, 0, true, false⟩,
                        ⟨(some 70), .ext 0 (.t 65), none, 0, true, false⟩,
                        ⟨(some 71), .ext 1 (.t 65), none, 0, true, false⟩,
                        ⟨(some 9), .mv (.t 70), none, 0, true, false⟩,
                        ⟨(some 10), .mv (.t 71), none, 0, true, false⟩])
                    (.seq (.reg [⟨(some 72), .mv (.t 10), none, 0, true, false⟩,
                        ⟨(some 73), .bin .eql (.t 72) (.c (.int .i64 0)), none, 0, true, false⟩])
                    (.cond (.t 73)
                      (.seq (.seq (.reg [⟨(some 74), .mv (.t 9), none, 0, true, false⟩,
                            ⟨(some 75), .mv (.t 4), none, 0, true, false⟩,
                            ⟨(some 76), .bin .leq (.t 74) (.t 75), none, 0, true, false⟩,
                            ⟨(some 77), .mv (.t 76), none, 0, true, false⟩,
                            ⟨(some 78), .mv (.t 9), (some (77, false)), 0, true, false⟩,
                            ⟨(some 79), .mv (.t 3), (some (77, false)), 0, true, false⟩,
                            ⟨(some 80), .call 17 [(.t 79)], (some (77, false)), 0, true, false⟩,
                            ⟨(some 81), .bin .lss (.t 78) (.t 80), (some (77, false)), 0, true, false⟩,
                            ⟨(some 82), .pick (.t 77) (.c (.bool true)) (.t 81), none, 0, true, false⟩])
                        (.cond (.t 82)
                          (.seq (.reg [⟨(some 2), .mv (.c (.bool false)), none, 0, true, false⟩])
                          (.ret))
                          (.skip)))
                      (.reg [⟨(some 83), .mv (.t 9), none, 0, true, false⟩,
                        ⟨(some 4), .mv (.t 83), none, 0, true, false⟩]))
                      (.skip))))
                    (.seq (.reg [⟨(some 85), .bin .eql (.t 33) (.c (.int .i64 3)), none, 0, true, false⟩,
                        ⟨(some 84), .mv (.t 85), none, 0, true, false⟩])
                    (.cond (.t 84)
                      (.reg [⟨(some 86), .mv (.t 3), none, 0, true, false⟩,
                        ⟨(some 87), .fieldA 1 (.t 6), none, 0, true, false⟩,
                        ⟨(some 88), .load1 (.t 87), none, 0, true, false⟩,
                        ⟨(some 89), .call 14 [(.t 86), (.t 88)], none, 0, true, false⟩])
                      (.seq (.reg [⟨(some 91), .bin .eql (.t 33) (.c (.int .i64 4)), none, 0, true, false⟩,
                          ⟨(some 90), .mv (.t 91), none, 0, true, false⟩])
                      (.cond (.t 90)
                        (.reg [⟨(some 92), .mv (.t 3), none, 0, true, false⟩,
                          ⟨(some 93), .fieldA 3 (.t 6), none, 0, true, false⟩,
                          ⟨(some 94), .load1 (.t 93), none, 0, true, false⟩,
                          ⟨(some 95), .call 15 [(.t 92), (.t 94)], none, 0, true, false⟩])
                        (.skip)))))))))))))))
        (.reg [⟨(some 26), .mv (.t 5), none, 0, true, false⟩,
          ⟨(some 27), .bin .add (.t 26) (.c (.int .i64 1)), none, 0, true, false⟩,
          ⟨(some 5), .mv (.t 27), none, 0, true, false⟩]))))))
  (.seq (.reg [⟨(some 2), .mv (.c (.bool true)), none, 0, true, false⟩])
  (.ret))))))
theorem k5 : codeOf Try.prog 5 = some (c5, [.tmp 2], 96, false) := by kernel_rfl

/-- regesta/regestalaw22.TxnPlays -/
def c6 : XCode :=
  .seq (.reg [⟨(some 4), .mv (.c (.bool false)), none, 0, true, false⟩])
  (.seq (.reg [⟨(some 9), .mv (.t 0), none, 0, true, false⟩,
      ⟨(some 10), .mv (.t 1), none, 0, true, false⟩,
      ⟨(some 11), .call 18 [(.t 9), (.t 10)], none, 0, true, false⟩,
      ⟨(some 8), .mv (.t 11), none, 0, true, false⟩,
      ⟨(some 12), .ext 0 (.t 8), none, 0, true, false⟩,
      ⟨(some 13), .ext 1 (.t 8), none, 0, true, false⟩,
      ⟨(some 14), .ext 2 (.t 8), none, 0, true, false⟩,
      ⟨(some 5), .mv (.t 12), none, 0, true, false⟩,
      ⟨(some 6), .mv (.t 13), none, 0, true, false⟩,
      ⟨(some 7), .mv (.t 14), none, 0, true, false⟩])
  (.seq (.reg [⟨(some 15), .call 10 [], none, 0, true, false⟩,
      ⟨(some 16), .mv (.t 15), none, 0, true, false⟩,
      ⟨(some 17), .mv (.t 7), (some (16, true)), 0, true, false⟩,
      ⟨(some 18), .pick (.t 16) (.t 17) (.c (.bool false)), none, 0, true, false⟩,
      ⟨(some 19), .mv (.t 18), none, 0, true, false⟩,
      ⟨(some 20), .mv (.t 5), (some (19, true)), 0, true, false⟩,
      ⟨(some 21), .mv (.t 6), (some (19, true)), 0, true, false⟩,
      ⟨(some 22), .call 19 [(.t 20), (.t 21)], (some (19, true)), 0, true, false⟩,
      ⟨(some 23), .pick (.t 19) (.t 22) (.c (.bool false)), none, 0, true, false⟩,
      ⟨(some 4), .mv (.t 23), none, 0, true, false⟩])
  (.ret)))
theorem k6 : codeOf Try.prog 6 = some (c6, [.tmp 4], 24, false) := by kernel_rfl

/-- regesta/regestalaw22.TxnForks -/
def c7 : XCode :=
  .seq (.reg [⟨(some 6), .mv (.c (.bool false)), none, 0, true, false⟩])
  (.seq (.reg [⟨(some 23), .mv (.t 0), none, 0, true, false⟩,
      ⟨(some 24), .mv (.t 1), none, 0, true, false⟩,
      ⟨(some 25), .call 18 [(.t 23), (.t 24)], none, 0, true, false⟩,
      ⟨(some 22), .mv (.t 25), none, 0, true, false⟩,
      ⟨(some 26), .ext 0 (.t 22), none, 0, true, false⟩,
      ⟨(some 27), .ext 1 (.t 22), none, 0, true, false⟩,
      ⟨(some 28), .ext 2 (.t 22), none, 0, true, false⟩,
      ⟨(some 7), .mv (.t 26), none, 0, true, false⟩,
      ⟨(some 8), .mv (.t 27), none, 0, true, false⟩,
      ⟨(some 9), .mv (.t 28), none, 0, true, false⟩])
  (.seq (.seq (.reg [⟨(some 29), .call 10 [], none, 0, true, false⟩,
        ⟨(some 30), .not (.t 29), none, 0, true, false⟩,
        ⟨(some 31), .mv (.t 30), none, 0, true, false⟩,
        ⟨(some 32), .mv (.t 9), (some (31, false)), 0, true, false⟩,
        ⟨(some 33), .not (.t 32), (some (31, false)), 0, true, false⟩,
        ⟨(some 34), .pick (.t 31) (.c (.bool true)) (.t 33), none, 0, true, false⟩])
    (.cond (.t 34)
      (.seq (.reg [⟨(some 6), .mv (.c (.bool false)), none, 0, true, false⟩])
      (.ret))
      (.skip)))
  (.seq (.reg [⟨(some 35), .mv (.t 7), none, 0, true, false⟩,
      ⟨(some 36), .call 20 [(.t 35)], none, 0, true, false⟩,
      ⟨(some 37), .mv (.t 8), none, 0, true, false⟩,
      ⟨(some 38), .call 21 [(.t 37)], none, 0, true, false⟩,
      ⟨(some 10), .mv (.t 36), none, 0, true, false⟩,
      ⟨(some 11), .mv (.t 38), none, 0, true, false⟩])
  (.seq (.seq (.reg [⟨(some 12), .mv (.c (.int .i64 0)), none, 0, true, false⟩])
    (.block 0 (
      .loop (
        .seq (.seq (.reg [⟨(some 39), .mv (.t 12), none, 0, true, false⟩,
              ⟨(some 40), .mv (.t 2), none, 0, true, false⟩,
              ⟨(some 41), .lenS (.t 40), none, 0, true, false⟩,
              ⟨(some 42), .bin .lss (.t 39) (.t 41), none, 0, true, false⟩,
              ⟨(some 43), .mv (.t 42), none, 0, true, false⟩,
              ⟨(some 44), .mv (.t 12), (some (43, true)), 0, true, false⟩,
              ⟨(some 45), .bin .lss (.t 44) (.c (.int .i64 20)), (some (43, true)), 0, true, false⟩,
              ⟨(some 46), .pick (.t 43) (.t 45) (.c (.bool false)), none, 0, true, false⟩])
          (.cond (.t 46)
            (.skip)
            (.exit 0)))
        (.seq (.block 1 (
            .seq (.reg [⟨(some 49), .mv (.t 10), none, 0, true, false⟩,
                ⟨(some 50), .mv (.t 11), none, 0, true, false⟩,
                ⟨(some 51), .mv (.t 2), none, 0, true, false⟩,
                ⟨(some 52), .mv (.t 12), none, 0, true, false⟩,
                ⟨(some 53), .indexS 4 (.t 51) (.t 52), none, 0, true, false⟩,
                ⟨(some 54), .loadn 4 (.t 53), none, 0, true, false⟩,
                ⟨(some 55), .call 22 [(.t 49), (.t 50), (.t 54)], none, 0, true, false⟩,
                ⟨(some 56), .not (.t 55), none, 0, true, false⟩])
            (.cond (.t 56)
              (.seq (.reg [⟨(some 6), .mv (.c (.bool false)), none, 0, true, false⟩])
              (.ret))
              (.skip))))
        (.reg [⟨(some 47), .mv (.t 12), none, 0, true, false⟩,
          ⟨(some 48), .bin .add (.t 47) (.c (.int .i64 1)), none, 0, true, false⟩,
          ⟨(some 12), .mv (.t 48), none, 0, true, false⟩]))))))
  (.seq (.reg [⟨(some 13), .mv (.c .nilp), none, 0, true, false⟩])
  (.seq (.reg [⟨(some 57), .mv (.t 13), none, 0, true, false⟩,
      ⟨(some 58), .call 15 [(.t 57), (.c (.int .i64 3))], none, 0, true, false⟩])
  (.seq (.reg [⟨(some 60), .mv (.t 13), none, 0, true, false⟩,
      ⟨(some 61), .call 11 [(.t 60), (.c (.int .i64 0))], none, 0, true, false⟩,
      ⟨(some 59), .mv (.t 61), none, 0, true, false⟩,
      ⟨(some 62), .ext 0 (.t 59), none, 0, true, false⟩,
      ⟨(some 63), .ext 1 (.t 59), none, 0, true, false⟩,
      ⟨(some 14), .mv (.t 62), none, 0, true, false⟩,
      ⟨(some 15), .mv (.t 63), none, 0, true, false⟩])
  (.seq (.reg [⟨(some 65), .mv (.t 13), none, 0, true, false⟩,
      ⟨(some 66), .call 13 [(.t 65), (.c (.int .i64 0))], none, 0, true, false⟩,
      ⟨(some 64), .mv (.t 66), none, 0, true, false⟩,
      ⟨(some 67), .ext 0 (.t 64), none, 0, true, false⟩,
      ⟨(some 68), .ext 1 (.t 64), none, 0, true, false⟩,
      ⟨(some 16), .mv (.t 67), none, 0, true, false⟩,
      ⟨(some 17), .mv (.t 68), none, 0, true, false⟩])
  (.seq (.reg [⟨(some 70), .mv (.t 13), none, 0, true, false⟩,
      ⟨(some 71), .call 23 [(.t 70), (.c (.int .i64 0))], none, 0, true, false⟩,
      ⟨(some 69), .mv (.t 71), none, 0, true, false⟩,
      ⟨(some 72), .ext 0 (.t 69), none, 0, true, false⟩,
      ⟨(some 73), .ext 1 (.t 69), none, 0, true, false⟩,
      ⟨(some 18), .mv (.t 72), none, 0, true, false⟩,
      ⟨(some 19), .mv (.t 73), none, 0, true, false⟩])
  (.seq (.reg [⟨(some 75), .mv (.t 13), none, 0, true, false⟩,
      ⟨(some 76), .call 24 [(.t 75)], none, 0, true, false⟩,
      ⟨(some 74), .mv (.t 76), none, 0, true, false⟩,
      ⟨(some 77), .ext 0 (.t 74), none, 0, true, false⟩,
      ⟨(some 78), .ext 1 (.t 74), none, 0, true, false⟩,
      ⟨(some 20), .mv (.t 77), none, 0, true, false⟩,
      ⟨(some 21), .mv (.t 78), none, 0, true, false⟩])
  (.seq (.reg [⟨(some 79), .mv (.t 7), none, 0, true, false⟩,
      ⟨(some 80), .mv (.t 8), none, 0, true, false⟩,
      ⟨(some 81), .call 19 [(.t 79), (.t 80)], none, 0, true, false⟩,
      ⟨(some 82), .mv (.t 81), none, 0, true, false⟩,
      ⟨(some 83), .mv (.t 10), (some (82, true)), 0, true, false⟩,
      ⟨(some 84), .mv (.t 11), (some (82, true)), 0, true, false⟩,
      ⟨(some 85), .call 19 [(.t 83), (.t 84)], (some (82, true)), 0, true, false⟩,
      ⟨(some 86), .pick (.t 82) (.t 85) (.c (.bool false)), none, 0, true, false⟩,
      ⟨(some 87), .mv (.t 86), none, 0, true, false⟩,
      ⟨(some 88), .mv (.t 15), (some (87, true)), 0, true, false⟩,
      ⟨(some 89), .bin .eql (.t 88) (.c (.int .i64 1)), (some (87, true)), 0, true, false⟩,
      ⟨(some 90), .pick (.t 87) (.t 89) (.c (.bool false)), none, 0, true, false⟩,
      ⟨(some 91), .mv (.t 90), none, 0, true, false⟩,
      ⟨(some 92), .mv (.t 17), (some (91, true)), 0, true, false⟩,
      ⟨(some 93), .bin .eql (.t 92) (.c (.int .i64 1)), (some (91, true)), 0, true, false⟩,
      ⟨(some 94), .pick (.t 91) (.t 93) (.c (.bool false)), none, 0, true, false⟩,
      ⟨(some 95), .mv (.t 94), none, 0, true, false⟩,
      ⟨(some 96), .mv (.t 19), (some (95, true)), 0, true, false⟩,
      ⟨(some 97), .not (.t 96), (some (95, true)), 0, true, false⟩,
      ⟨(some 98), .pick (.t 95) (.t 97) (.c (.bool false)), none, 0, true, false⟩,
      ⟨(some 99), .mv (.t 98), none, 0, true, false⟩,
      ⟨(some 100), .mv (.t 21), (some (99, true)), 0, true, false⟩,
      ⟨(some 101), .not (.t 100), (some (99, true)), 0, true, false⟩,
      ⟨(some 102), .pick (.t 99) (.t 101) (.c (.bool false)), none, 0, true, false⟩,
      ⟨(some 103), .mv (.t 102), none, 0, true, false⟩,
      ⟨(some 104), .mv (.t 13), (some (103, true)), 0, true, false⟩,
      ⟨(some 105), .call 12 [(.t 104), (.c (.int .i64 0)), (.c (.str []))], (some (103, true)), 0, true, false⟩,
      ⟨(some 106), .bin .eql (.t 105) (.c (.int .i64 1)), (some (103, true)), 0, true, false⟩,
      ⟨(some 107), .pick (.t 103) (.t 106) (.c (.bool false)), none, 0, true, false⟩,
      ⟨(some 108), .mv (.t 107), none, 0, true, false⟩,
      ⟨(some 109), .mv (.t 13), (some (108, true)), 0, true, false⟩,
      ⟨(some 110), .call 25 [(.t 109), (.c (.int .i64 0))], (some (108, true)), 0, true, false⟩,
      ⟨(some 111), .bin .eql (.t 110) (.c (.int .i64 1)), (some (108, true)), 0, true, false⟩,
      ⟨(some 112), .pick (.t 108) (.t 111) (.c (.bool false)), none, 0, true, false⟩,
      ⟨(some 113), .mv (.t 112), none, 0, true, false⟩,
      ⟨(some 114), .mv (.t 13), (some (113, true)), 0, true, false⟩,
      ⟨(some 115), .call 14 [(.t 114), (.c (.int .i64 0))], (some (113, true)), 0, true, false⟩,
      ⟨(some 116), .bin .eql (.t 115) (.c (.int .i64 1)), (some (113, true)), 0, true, false⟩,
      ⟨(some 117), .pick (.t 113) (.t 116) (.c (.bool false)), none, 0, true, false⟩,
      ⟨(some 118), .mv (.t 117), none, 0, true, false⟩,
      ⟨(some 119), .mv (.t 13), (some (118, true)), 0, true, false⟩,
      ⟨(some 120), .call 17 [(.t 119)], (some (118, true)), 0, true, false⟩,
      ⟨(some 121), .bin .eql (.t 120) (.c (.int .i64 0)), (some (118, true)), 0, true, false⟩,
      ⟨(some 122), .pick (.t 118) (.t 121) (.c (.bool false)), none, 0, true, false⟩,
      ⟨(some 123), .mv (.t 122), none, 0, true, false⟩,
      ⟨(some 124), .mv (.t 13), (some (123, true)), 0, true, false⟩,
      ⟨(some 125), .call 26 [(.t 124)], (some (123, true)), 0, true, false⟩,
      ⟨(some 126), .bin .eql (.t 125) (.c (.int .i64 0)), (some (123, true)), 0, true, false⟩,
      ⟨(some 127), .pick (.t 123) (.t 126) (.c (.bool false)), none, 0, true, false⟩,
      ⟨(some 128), .mv (.t 127), none, 0, true, false⟩,
      ⟨(some 129), .mv (.t 13), (some (128, true)), 0, true, false⟩,
      ⟨(some 130), .call 16 [(.t 129), (.c (.int .i64 0))], (some (128, true)), 0, true, false⟩,
      ⟨(some 131), .not (.t 130), (some (128, true)), 0, true, false⟩,
      ⟨(some 132), .pick (.t 128) (.t 131) (.c (.bool false)), none, 0, true, false⟩,
      ⟨(some 133), .mv (.t 132), none, 0, true, false⟩,
      ⟨(some 134), .mv (.t 13), (some (133, true)), 0, true, false⟩,
      ⟨(some 135), .call 27 [(.t 134), (.c (.int .i64 0))], (some (133, true)), 0, true, false⟩,
      ⟨(some 136), .lenS (.t 135), (some (133, true)), 0, true, false⟩,
      ⟨(some 137), .bin .eql (.t 136) (.c (.int .i64 0)), (some (133, true)), 0, true, false⟩,
      ⟨(some 138), .pick (.t 133) (.t 137) (.c (.bool false)), none, 0, true, false⟩,
      ⟨(some 139), .mv (.t 138), none, 0, true, false⟩,
      ⟨(some 140), .mv (.t 13), (some (139, true)), 0, true, false⟩,
      ⟨(some 141), .call 20 [(.t 140)], (some (139, true)), 0, true, false⟩,
      ⟨(some 142), .eqp false (.t 141) (.c .nilp), (some (139, true)), 0, true, false⟩,
      ⟨(some 143), .pick (.t 139) (.t 142) (.c (.bool false)), none, 0, true, false⟩,
      ⟨(some 6), .mv (.t 143), none, 0, true, false⟩])
  (.ret))))))))))))
theorem k7 : codeOf Try.prog 7 = some (c7, [.tmp 6], 144, false) := by kernel_rfl

/-- regesta/regestatop.TopWriters -/
def c8 : XCode :=
  .seq (.reg [⟨(some 2), .mv (.c (.bool false)), none, 0, true, false⟩])
  (.seq (.reg [⟨(some 13), .call 9 [(.c (.int .i64 0))], none, 0, true, false⟩,
      ⟨(some 3), .mv (.t 13), none, 0, true, false⟩])
  (.seq (.seq (.reg [⟨(some 14), .mv (.t 3), none, 0, true, false⟩,
        ⟨(some 15), .eqp false (.t 14) (.c .nilp), none, 0, true, false⟩])
    (.cond (.t 15)
      (.seq (.reg [⟨(some 2), .mv (.c (.bool false)), none, 0, true, false⟩])
      (.ret))
      (.skip)))
  (.seq (.reg [⟨(some 4), .mv (.c (.int .i64 (-1))), none, 0, true, false⟩])
  (.seq (.seq (.reg [⟨(some 5), .mv (.c (.int .i64 0)), none, 0, true, false⟩])
    (.block 0 (
      .loop (
        .seq (.seq (.reg [⟨(some 16), .mv (.t 5), none, 0, true, false⟩,
              ⟨(some 17), .mv (.t 0), none, 0, true, false⟩,
              ⟨(some 18), .lenS (.t 17), none, 0, true, false⟩,
              ⟨(some 19), .bin .lss (.t 16) (.t 18), none, 0, true, false⟩,
              ⟨(some 20), .mv (.t 19), none, 0, true, false⟩,
              ⟨(some 21), .mv (.t 5), (some (20, true)), 0, true, false⟩,
              ⟨(some 22), .bin .lss (.t 21) (.c (.int .i64 40)), (some (20, true)), 0, true, false⟩,
              ⟨(some 23), .pick (.t 20) (.t 22) (.c (.bool false)), none, 0, true, false⟩])
          (.cond (.t 23)
            (.skip)
            (.exit 0)))
        (.seq (.block 1 (
            .seq (.reg [⟨(some 26), .mv (.t 0), none, 0, true, false⟩,
                ⟨(some 27), .mv (.t 5), none, 0, true, false⟩,
                ⟨(some 28), .indexS 1 (.t 26) (.t 27), none, 0, true, false⟩,
                ⟨(some 29), .load1 (.t 28), none, 0, true, false⟩,
                ⟨(some 30), .conv .i64 (.t 29), none, 0, true, false⟩,
                ⟨(some 31), .bin .rem (.t 30) (.c (.int .i64 4)), none, 0, true, false⟩,
                ⟨(some 6), .mv (.t 31), none, 0, true, false⟩])
            (.seq (.seq (.reg [⟨(some 32), .mv (.t 3), none, 0, true, false⟩,
                  ⟨(some 33), .mv (.t 6), none, 0, true, false⟩,
                  ⟨(some 34), .call 16 [(.t 32), (.t 33)], none, 0, true, false⟩,
                  ⟨(some 35), .not (.t 34), none, 0, true, false⟩])
              (.cond (.t 35)
                (.seq (.seq (.reg [⟨(some 37), .mv (.t 3), none, 0, true, false⟩,
                      ⟨(some 38), .mv (.t 6), none, 0, true, false⟩,
                      ⟨(some 39), .call 11 [(.t 37), (.t 38)], none, 0, true, false⟩,
                      ⟨(some 36), .mv (.t 39), none, 0, true, false⟩,
                      ⟨(some 40), .ext 0 (.t 36), none, 0, true, false⟩,
                      ⟨(some 41), .ext 1 (.t 36), none, 0, true, false⟩,
                      ⟨(some 7), .mv (.t 40), none, 0, true, false⟩,
                      ⟨(some 8), .mv (.t 41), none, 0, true, false⟩])
                  (.seq (.reg [⟨(some 42), .mv (.t 8), none, 0, true, false⟩,
                      ⟨(some 43), .bin .neq (.t 42) (.c (.int .i64 0)), none, 0, true, false⟩,
                      ⟨(some 44), .mv (.t 43), none, 0, true, false⟩,
                      ⟨(some 45), .mv (.t 3), (some (44, false)), 0, true, false⟩,
                      ⟨(some 46), .mv (.t 6), (some (44, false)), 0, true, false⟩,
                      ⟨(some 47), .call 12 [(.t 45), (.t 46), (.c (.str [107]))], (some (44, false)), 0, true, false⟩,
                      ⟨(some 48), .bin .neq (.t 47) (.c (.int .i64 0)), (some (44, false)), 0, true, false⟩,
                      ⟨(some 49), .pick (.t 44) (.c (.bool true)) (.t 48), none, 0, true, false⟩])
                  (.cond (.t 49)
                    (.seq (.reg [⟨(some 2), .mv (.c (.bool false)), none, 0, true, false⟩])
                    (.ret))
                    (.skip))))
                (.exit 1))
                (.skip)))
            (.seq (.reg [⟨(some 51), .mv (.t 3), none, 0, true, false⟩,
                ⟨(some 52), .mv (.t 6), none, 0, true, false⟩,
                ⟨(some 53), .call 23 [(.t 51), (.t 52)], none, 0, true, false⟩,
                ⟨(some 50), .mv (.t 53), none, 0, true, false⟩,
                ⟨(some 54), .ext 0 (.t 50), none, 0, true, false⟩,
                ⟨(some 55), .ext 1 (.t 50), none, 0, true, false⟩,
                ⟨(some 9), .mv (.t 54), none, 0, true, false⟩,
                ⟨(some 10), .mv (.t 55), none, 0, true, false⟩])
            (.seq (.reg [⟨(some 57), .mv (.t 3), none, 0, true, false⟩,
                ⟨(some 58), .mv (.t 6), none, 0, true, false⟩,
                ⟨(some 59), .call 13 [(.t 57), (.t 58)], none, 0, true, false⟩,
                ⟨(some 56), .mv (.t 59), none, 0, true, false⟩,
                ⟨(some 60), .ext 0 (.t 56), none, 0, true, false⟩,
                ⟨(some 61), .ext 1 (.t 56), none, 0, true, false⟩,
                ⟨(some 11), .mv (.t 60), none, 0, true, false⟩,
                ⟨(some 12), .mv (.t 61), none, 0, true, false⟩])
            (.seq (.seq (.reg [⟨(some 62), .mv (.t 12), none, 0, true, false⟩,
                  ⟨(some 63), .bin .eql (.t 62) (.c (.int .i64 0)), none, 0, true, false⟩,
                  ⟨(some 64), .mv (.t 4), none, 0, true, false⟩,
                  ⟨(some 65), .mv (.t 9), none, 0, true, false⟩,
                  ⟨(some 66), .bin .leq (.t 64) (.t 65), none, 0, true, false⟩,
                  ⟨(some 67), .eqb true (.t 63) (.t 66), none, 0, true, false⟩,
                  ⟨(some 68), .mv (.t 67), none, 0, true, false⟩,
                  ⟨(some 69), .mv (.t 12), (some (68, false)), 0, true, false⟩,
                  ⟨(some 70), .bin .neq (.t 69) (.c (.int .i64 0)), (some (68, false)), 0, true, false⟩,
                  ⟨(some 71), .mv (.t 70), (some (68, false)), 0, true, false⟩,
                  ⟨(some 72), .mv (.t 12), (some (71, true)), 0, true, false⟩,
                  ⟨(some 73), .bin .neq (.t 72) (.c (.int .i64 13)), (some (71, true)), 0, true, false⟩,
                  ⟨(some 74), .pick (.t 71) (.t 73) (.c (.bool false)), (some (68, false)), 0, true, false⟩,
                  ⟨(some 75), .pick (.t 68) (.c (.bool true)) (.t 74), none, 0, true, false⟩])
              (.cond (.t 75)
                (.seq (.reg [⟨(some 2), .mv (.c (.bool false)), none, 0, true, false⟩])
                (.ret))
                (.skip)))
            (.seq (.reg [⟨(some 76), .mv (.t 12), none, 0, true, false⟩,
                ⟨(some 77), .bin .eql (.t 76) (.c (.int .i64 0)), none, 0, true, false⟩])
            (.cond (.t 77)
              (.reg [⟨(some 78), .mv (.t 11), none, 0, true, false⟩,
                ⟨(some 4), .mv (.t 78), none, 0, true, false⟩])
              (.seq (.reg [⟨(some 79), .mv (.t 3), none, 0, true, false⟩,
                  ⟨(some 80), .mv (.t 6), none, 0, true, false⟩,
                  ⟨(some 81), .call 14 [(.t 79), (.t 80)], none, 0, true, false⟩,
                  ⟨(some 82), .bin .neq (.t 81) (.c (.int .i64 0)), none, 0, true, false⟩])
              (.cond (.t 82)
                (.seq (.reg [⟨(some 2), .mv (.c (.bool false)), none, 0, true, false⟩])
                (.ret))
                (.skip)))))))))))
        (.reg [⟨(some 24), .mv (.t 5), none, 0, true, false⟩,
          ⟨(some 25), .bin .add (.t 24) (.c (.int .i64 1)), none, 0, true, false⟩,
          ⟨(some 5), .mv (.t 25), none, 0, true, false⟩]))))))
  (.seq (.reg [⟨(some 83), .mv (.t 3), none, 0, true, false⟩,
      ⟨(some 84), .call 26 [(.t 83)], none, 0, true, false⟩,
      ⟨(some 85), .mv (.t 4), none, 0, true, false⟩,
      ⟨(some 86), .bin .geq (.t 84) (.t 85), none, 0, true, false⟩,
      ⟨(some 2), .mv (.t 86), none, 0, true, false⟩])
  (.ret))))))
theorem k8 : codeOf Try.prog 8 = some (c8, [.tmp 2], 87, false) := by kernel_rfl

/-- regesta/txn.New -/
def c9 : XCode :=
  .seq (.reg [⟨(some 2), .mv (.c .nilp), none, 0, true, false⟩])
  (.seq (.reg [⟨(some 3), .mv (.t 0), none, 0, true, false⟩,
      ⟨(some 4), .max2 (.t 3) (.c (.int .i64 0)), none, 0, true, false⟩,
      ⟨(some 5), .min2 (.t 4) (.c (.int .i64 1073741824)), none, 0, true, false⟩,
      ⟨(some 0), .mv (.t 5), none, 0, true, false⟩])
  (.seq (.reg [⟨(some 6), .mv (.t 0), none, 0, true, false⟩,
      ⟨(some 7), .mv (.t 0), none, 0, true, false⟩,
      ⟨(some 8), .mkmap, none, 0, true, false⟩,
      ⟨(some 9), .build [(.int .i64 0), (.int .i64 0), (.bool false), (.int .i64 0), .nilm, (.bool false), (.int .i64 0), .nilm, (.bool false), (.int .i64 0), .nilm, (.bool false), (.int .i64 0), .nilm, .nilm] [(0, 1, (.t 6)), (1, 1, (.t 7)), (14, 1, (.t 8))], none, 0, true, false⟩,
      ⟨(some 10), .box 61 15 (.t 9), none, 0, true, false⟩,
      ⟨(some 2), .mv (.t 10), none, 0, true, false⟩])
  (.ret)))
theorem k9 : codeOf Try.prog 9 = some (c9, [.tmp 2], 11, false) := by kernel_rfl

/-- regesta/regestalaw22.live -/
def c10 : XCode :=
  .seq (.reg [⟨(some 0), .mv (.c (.bool false)), none, 0, true, false⟩])
  (.seq (.reg [⟨(some 14), .call 9 [(.c (.int .i64 0))], none, 0, true, false⟩,
      ⟨(some 1), .mv (.t 14), none, 0, true, false⟩])
  (.seq (.reg [⟨(some 16), .mv (.t 1), none, 0, true, false⟩,
      ⟨(some 17), .call 11 [(.t 16), (.c (.int .i64 0))], none, 0, true, false⟩,
      ⟨(some 15), .mv (.t 17), none, 0, true, false⟩,
      ⟨(some 18), .ext 0 (.t 15), none, 0, true, false⟩,
      ⟨(some 19), .ext 1 (.t 15), none, 0, true, false⟩,
      ⟨(some 2), .mv (.t 18), none, 0, true, false⟩,
      ⟨(some 3), .mv (.t 19), none, 0, true, false⟩])
  (.seq (.reg [⟨(some 21), .mv (.t 1), none, 0, true, false⟩,
      ⟨(some 22), .call 11 [(.t 21), (.c (.int .i64 1))], none, 0, true, false⟩,
      ⟨(some 20), .mv (.t 22), none, 0, true, false⟩,
      ⟨(some 23), .ext 0 (.t 20), none, 0, true, false⟩,
      ⟨(some 24), .ext 1 (.t 20), none, 0, true, false⟩,
      ⟨(some 4), .mv (.t 23), none, 0, true, false⟩,
      ⟨(some 5), .mv (.t 24), none, 0, true, false⟩])
  (.seq (.reg [⟨(some 25), .mv (.t 1), none, 0, true, false⟩,
      ⟨(some 26), .call 12 [(.t 25), (.c (.int .i64 0)), (.c (.str [97]))], none, 0, true, false⟩,
      ⟨(some 27), .mv (.t 1), none, 0, true, false⟩,
      ⟨(some 28), .call 12 [(.t 27), (.c (.int .i64 1)), (.c (.str [97]))], none, 0, true, false⟩,
      ⟨(some 6), .mv (.t 26), none, 0, true, false⟩,
      ⟨(some 7), .mv (.t 28), none, 0, true, false⟩])
  (.seq (.reg [⟨(some 30), .mv (.t 1), none, 0, true, false⟩,
      ⟨(some 31), .call 13 [(.t 30), (.c (.int .i64 0))], none, 0, true, false⟩,
      ⟨(some 29), .mv (.t 31), none, 0, true, false⟩,
      ⟨(some 32), .ext 0 (.t 29), none, 0, true, false⟩,
      ⟨(some 33), .ext 1 (.t 29), none, 0, true, false⟩,
      ⟨(some 8), .mv (.t 32), none, 0, true, false⟩,
      ⟨(some 9), .mv (.t 33), none, 0, true, false⟩])
  (.seq (.reg [⟨(some 35), .mv (.t 1), none, 0, true, false⟩,
      ⟨(some 36), .call 13 [(.t 35), (.c (.int .i64 1))], none, 0, true, false⟩,
      ⟨(some 34), .mv (.t 36), none, 0, true, false⟩,
      ⟨(some 37), .ext 0 (.t 34), none, 0, true, false⟩,
      ⟨(some 38), .ext 1 (.t 34), none, 0, true, false⟩,
      ⟨(some 10), .mv (.t 37), none, 0, true, false⟩,
      ⟨(some 11), .mv (.t 38), none, 0, true, false⟩])
  (.seq (.reg [⟨(some 40), .mv (.t 1), none, 0, true, false⟩,
      ⟨(some 41), .call 24 [(.t 40)], none, 0, true, false⟩,
      ⟨(some 39), .mv (.t 41), none, 0, true, false⟩,
      ⟨(some 42), .ext 0 (.t 39), none, 0, true, false⟩,
      ⟨(some 43), .ext 1 (.t 39), none, 0, true, false⟩,
      ⟨(some 12), .mv (.t 42), none, 0, true, false⟩,
      ⟨(some 13), .mv (.t 43), none, 0, true, false⟩])
  (.seq (.reg [⟨(some 44), .mv (.t 2), none, 0, true, false⟩,
      ⟨(some 45), .bin .eql (.t 44) (.c (.int .i64 0)), none, 0, true, false⟩,
      ⟨(some 46), .mv (.t 45), none, 0, true, false⟩,
      ⟨(some 47), .mv (.t 3), (some (46, true)), 0, true, false⟩,
      ⟨(some 48), .bin .eql (.t 47) (.c (.int .i64 0)), (some (46, true)), 0, true, false⟩,
      ⟨(some 49), .pick (.t 46) (.t 48) (.c (.bool false)), none, 0, true, false⟩,
      ⟨(some 50), .mv (.t 49), none, 0, true, false⟩,
      ⟨(some 51), .mv (.t 4), (some (50, true)), 0, true, false⟩,
      ⟨(some 52), .bin .eql (.t 51) (.c (.int .i64 0)), (some (50, true)), 0, true, false⟩,
      ⟨(some 53), .pick (.t 50) (.t 52) (.c (.bool false)), none, 0, true, false⟩,
      ⟨(some 54), .mv (.t 53), none, 0, true, false⟩,
      ⟨(some 55), .mv (.t 5), (some (54, true)), 0, true, false⟩,
      ⟨(some 56), .bin .eql (.t 55) (.c (.int .i64 0)), (some (54, true)), 0, true, false⟩,
      ⟨(some 57), .pick (.t 54) (.t 56) (.c (.bool false)), none, 0, true, false⟩,
      ⟨(some 58), .mv (.t 57), none, 0, true, false⟩,
      ⟨(some 59), .mv (.t 6), (some (58, true)), 0, true, false⟩,
      ⟨(some 60), .bin .eql (.t 59) (.c (.int .i64 0)), (some (58, true)), 0, true, false⟩,
      ⟨(some 61), .pick (.t 58) (.t 60) (.c (.bool false)), none, 0, true, false⟩,
      ⟨(some 62), .mv (.t 61), none, 0, true, false⟩,
      ⟨(some 63), .mv (.t 7), (some (62, true)), 0, true, false⟩,
      ⟨(some 64), .bin .eql (.t 63) (.c (.int .i64 0)), (some (62, true)), 0, true, false⟩,
      ⟨(some 65), .pick (.t 62) (.t 64) (.c (.bool false)), none, 0, true, false⟩,
      ⟨(some 66), .mv (.t 65), none, 0, true, false⟩,
      ⟨(some 67), .mv (.t 8), (some (66, true)), 0, true, false⟩,
      ⟨(some 68), .bin .eql (.t 67) (.c (.int .i64 1)), (some (66, true)), 0, true, false⟩,
      ⟨(some 69), .pick (.t 66) (.t 68) (.c (.bool false)), none, 0, true, false⟩,
      ⟨(some 70), .mv (.t 69), none, 0, true, false⟩,
      ⟨(some 71), .mv (.t 9), (some (70, true)), 0, true, false⟩,
      ⟨(some 72), .bin .eql (.t 71) (.c (.int .i64 0)), (some (70, true)), 0, true, false⟩,
      ⟨(some 73), .pick (.t 70) (.t 72) (.c (.bool false)), none, 0, true, false⟩,
      ⟨(some 74), .mv (.t 73), none, 0, true, false⟩,
      ⟨(some 75), .mv (.t 11), (some (74, true)), 0, true, false⟩,
      ⟨(some 76), .bin .eql (.t 75) (.c (.int .i64 13)), (some (74, true)), 0, true, false⟩,
      ⟨(some 77), .pick (.t 74) (.t 76) (.c (.bool false)), none, 0, true, false⟩,
      ⟨(some 78), .mv (.t 77), none, 0, true, false⟩,
      ⟨(some 79), .mv (.t 13), (some (78, true)), 0, true, false⟩,
      ⟨(some 80), .pick (.t 78) (.t 79) (.c (.bool false)), none, 0, true, false⟩,
      ⟨(some 81), .mv (.t 80), none, 0, true, false⟩,
      ⟨(some 82), .mv (.t 12), (some (81, true)), 0, true, false⟩,
      ⟨(some 83), .bin .eql (.t 82) (.c (.int .i64 0)), (some (81, true)), 0, true, false⟩,
      ⟨(some 84), .pick (.t 81) (.t 83) (.c (.bool false)), none, 0, true, false⟩,
      ⟨(some 85), .mv (.t 84), none, 0, true, false⟩,
      ⟨(some 86), .mv (.t 1), (some (85, true)), 0, true, false⟩,
      ⟨(some 87), .call 26 [(.t 86)], (some (85, true)), 0, true, false⟩,
      ⟨(some 88), .bin .eql (.t 87) (.c (.int .i64 1)), (some (85, true)), 0, true, false⟩,
      ⟨(some 89), .pick (.t 85) (.t 88) (.c (.bool false)), none, 0, true, false⟩,
      ⟨(some 90), .mv (.t 89), none, 0, true, false⟩,
      ⟨(some 91), .mv (.t 1), (some (90, true)), 0, true, false⟩,
      ⟨(some 92), .call 14 [(.t 91), (.c (.int .i64 1))], (some (90, true)), 0, true, false⟩,
      ⟨(some 93), .bin .eql (.t 92) (.c (.int .i64 0)), (some (90, true)), 0, true, false⟩,
      ⟨(some 94), .pick (.t 90) (.t 93) (.c (.bool false)), none, 0, true, false⟩,
      ⟨(some 0), .mv (.t 94), none, 0, true, false⟩])
  (.ret)))))))))
theorem k10 : codeOf Try.prog 10 = some (c10, [.tmp 0], 95, false) := by kernel_rfl

/-- (*regesta/txn.Manager).Begin -/
def c11 : XCode :=
  .seq (.reg [⟨(some 4), .mv (.c (.int .i64 0)), none, 0, true, false⟩,
      ⟨(some 5), .mv (.c (.int .i64 0)), none, 0, true, false⟩])
  (.seq (.reg [⟨(some 9), .mv (.t 0), none, 0, true, false⟩,
      ⟨(some 10), .mv (.t 1), none, 0, true, false⟩,
      ⟨(some 11), .call 28 [(.t 9), (.t 10)], none, 0, true, false⟩,
      ⟨(some 8), .mv (.t 11), none, 0, true, false⟩,
      ⟨(some 12), .ext 0 (.t 8), none, 0, true, false⟩,
      ⟨(some 13), .ext 1 (.t 8), none, 0, true, false⟩,
      ⟨(some 6), .mv (.t 12), none, 0, true, false⟩,
      ⟨(some 7), .mv (.t 13), none, 0, true, false⟩])
  (.seq (.block 0 (
      .seq (.reg [⟨(some 15), .mv (.t 7), none, 0, true, false⟩,
          ⟨(some 16), .bin .neq (.t 15) (.c (.int .i64 0)), none, 0, true, false⟩,
          ⟨(some 14), .mv (.t 16), none, 0, true, false⟩])
      (.cond (.t 14)
        (.seq (.reg [⟨(some 17), .mv (.t 7), none, 0, true, false⟩,
            ⟨(some 4), .mv (.c (.int .i64 0)), none, 0, true, false⟩,
            ⟨(some 5), .mv (.t 17), none, 0, true, false⟩])
        (.ret))
        (.seq (.reg [⟨(some 19), .mv (.t 6), none, 0, true, false⟩,
            ⟨(some 20), .nilck (.t 19), none, 0, true, false⟩,
            ⟨(some 21), .fieldA 0 (.t 20), none, 0, true, false⟩,
            ⟨(some 22), .load1 (.t 21), none, 0, true, false⟩,
            ⟨(some 18), .mv (.t 22), none, 0, true, false⟩])
        (.cond (.t 18)
          (.seq (.reg [⟨(some 4), .mv (.c (.int .i64 0)), none, 0, true, false⟩,
              ⟨(some 5), .mv (.c (.int .i64 7)), none, 0, true, false⟩])
          (.ret))
          (.skip))))))
  (.seq (.regD [⟨(some 23), .mv (.t 0), none, 0, false, false⟩,
      ⟨(some 24), .mv (.t 0), none, 0, false, false⟩,
      ⟨(some 25), .nilck (.t 24), none, 2, false, false⟩,
      ⟨(some 26), .fieldA 1 (.t 25), none, 6, false, false⟩,
      ⟨(some 27), .load1 (.t 26), none, 14, false, false⟩,
      ⟨(some 28), .mv (.t 0), none, 0, false, false⟩,
      ⟨(some 29), .nilck (.t 28), none, 32, false, false⟩,
      ⟨(some 30), .fieldA 0 (.t 29), none, 96, false, false⟩,
      ⟨(some 31), .load1 (.t 30), none, 224, false, false⟩,
      ⟨(some 32), .max2 (.t 27) (.t 31), none, 510, false, false⟩,
      ⟨(some 33), .nilck (.t 23), none, 1023, false, false⟩,
      ⟨(some 34), .fieldA 1 (.t 33), none, 2047, false, false⟩,
      ⟨none, .store 1 (.t 34) (.t 32), none, 4095, true, false⟩])
  (.seq (.reg [⟨(some 35), .mv (.t 6), none, 0, true, false⟩,
      ⟨(some 36), .mv (.t 0), none, 0, true, false⟩,
      ⟨(some 37), .nilck (.t 36), none, 0, true, false⟩,
      ⟨(some 38), .fieldA 1 (.t 37), none, 0, true, false⟩,
      ⟨(some 39), .load1 (.t 38), none, 0, true, false⟩,
      ⟨(some 40), .mkmap, none, 0, true, false⟩,
      ⟨(some 41), .build [(.bool false), (.int .i64 0), .nilm] [(0, 1, (.c (.bool true))), (1, 1, (.t 39)), (2, 1, (.t 40))], none, 0, true, false⟩,
      ⟨(some 42), .nilck (.t 35), none, 0, true, false⟩,
      ⟨none, .store 3 (.t 42) (.t 41), none, 0, true, false⟩])
  (.seq (.reg [⟨(some 43), .mv (.t 0), none, 0, true, false⟩,
      ⟨(some 44), .nilck (.t 43), none, 0, true, false⟩,
      ⟨(some 45), .fieldA 1 (.t 44), none, 0, true, false⟩,
      ⟨(some 46), .load1 (.t 45), none, 0, true, false⟩,
      ⟨(some 4), .mv (.t 46), none, 0, true, false⟩,
      ⟨(some 5), .mv (.c (.int .i64 0)), none, 0, true, false⟩])
  (.ret))))))
theorem k11 : codeOf Try.prog 11 = some (c11, [.tmp 4, .tmp 5], 47, false) := by kernel_rfl

/-- (*regesta/txn.Manager).Write -/
def c12 : XCode :=
  .seq (.reg [⟨(some 6), .mv (.c (.int .i64 0)), none, 0, true, false⟩])
  (.seq (.reg [⟨(some 10), .mv (.t 0), none, 0, true, false⟩,
      ⟨(some 11), .mv (.t 1), none, 0, true, false⟩,
      ⟨(some 12), .call 29 [(.t 10), (.t 11)], none, 0, true, false⟩,
      ⟨(some 9), .mv (.t 12), none, 0, true, false⟩,
      ⟨(some 13), .ext 0 (.t 9), none, 0, true, false⟩,
      ⟨(some 14), .ext 1 (.t 9), none, 0, true, false⟩,
      ⟨(some 7), .mv (.t 13), none, 0, true, false⟩,
      ⟨(some 8), .mv (.t 14), none, 0, true, false⟩])
  (.seq (.seq (.reg [⟨(some 15), .mv (.t 8), none, 0, true, false⟩,
        ⟨(some 16), .bin .eql (.t 15) (.c (.int .i64 0)), none, 0, true, false⟩])
    (.cond (.t 16)
      (.reg [⟨(some 17), .mv (.t 7), none, 0, true, false⟩,
        ⟨(some 18), .nilck (.t 17), none, 0, true, false⟩,
        ⟨(some 19), .fieldA 2 (.t 18), none, 0, true, false⟩,
        ⟨(some 20), .load1 (.t 19), none, 0, true, false⟩,
        ⟨(some 21), .mv (.t 2), none, 0, true, false⟩,
        ⟨none, .mapUpd false [(.str [])] (.t 20) (.t 21) (.c (.bool true)), none, 0, true, false⟩])
      (.skip)))
  (.seq (.reg [⟨(some 22), .mv (.t 8), none, 0, true, false⟩,
      ⟨(some 6), .mv (.t 22), none, 0, true, false⟩])
  (.ret))))
theorem k12 : codeOf Try.prog 12 = some (c12, [.tmp 6], 23, false) := by kernel_rfl

/-- (*regesta/txn.Manager).Commit -/
def c13 : XCode :=
  .seq (.reg [⟨(some 4), .mv (.c (.int .i64 0)), none, 0, true, false⟩,
      ⟨(some 5), .mv (.c (.int .i64 0)), none, 0, true, false⟩])
  (.seq (.seq (.reg [⟨(some 9), .mv (.t 0), none, 0, true, false⟩,
        ⟨(some 10), .mv (.t 1), none, 0, true, false⟩,
        ⟨(some 11), .call 25 [(.t 9), (.t 10)], none, 0, true, false⟩,
        ⟨(some 6), .mv (.t 11), none, 0, true, false⟩])
    (.seq (.reg [⟨(some 12), .mv (.t 6), none, 0, true, false⟩,
        ⟨(some 13), .bin .neq (.t 12) (.c (.int .i64 0)), none, 0, true, false⟩])
    (.cond (.t 13)
      (.seq (.reg [⟨(some 14), .mv (.t 6), none, 0, true, false⟩,
          ⟨(some 4), .mv (.c (.int .i64 0)), none, 0, true, false⟩,
          ⟨(some 5), .mv (.t 14), none, 0, true, false⟩])
      (.ret))
      (.skip))))
  (.seq (.regD [⟨(some 15), .mv (.t 0), none, 0, false, false⟩,
      ⟨(some 16), .mv (.t 0), none, 0, false, false⟩,
      ⟨(some 17), .nilck (.t 16), none, 2, false, false⟩,
      ⟨(some 18), .fieldA 1 (.t 17), none, 6, false, false⟩,
      ⟨(some 19), .load1 (.t 18), none, 14, false, false⟩,
      ⟨(some 20), .bin .add (.t 19) (.c (.int .i64 1)), none, 30, false, false⟩,
      ⟨(some 21), .mv (.t 0), none, 0, false, false⟩,
      ⟨(some 22), .nilck (.t 21), none, 64, false, false⟩,
      ⟨(some 23), .fieldA 0 (.t 22), none, 192, false, false⟩,
      ⟨(some 24), .load1 (.t 23), none, 448, false, false⟩,
      ⟨(some 25), .max2 (.t 20) (.t 24), none, 1022, false, false⟩,
      ⟨(some 26), .nilck (.t 15), none, 2047, false, false⟩,
      ⟨(some 27), .fieldA 1 (.t 26), none, 4095, false, false⟩,
      ⟨none, .store 1 (.t 27) (.t 25), none, 8191, true, false⟩])
  (.seq (.reg [⟨(some 28), .mv (.t 0), none, 0, true, false⟩,
      ⟨(some 29), .mv (.t 1), none, 0, true, false⟩,
      ⟨(some 30), .nilck (.t 28), none, 0, true, false⟩,
      ⟨(some 31), .fieldA 2 (.t 30), none, 0, true, false⟩,
      ⟨(some 32), .indexA 3 4 (.t 31) (.t 29), none, 0, true, false⟩,
      ⟨(some 7), .mv (.t 32), none, 0, true, false⟩])
  (.seq (.seq (.reg [⟨(some 33), .mv (.t 7), none, 0, true, false⟩,
        ⟨(some 34), .nilck (.t 33), none, 0, true, false⟩,
        ⟨(some 35), .fieldA 2 (.t 34), none, 0, true, false⟩,
        ⟨(some 36), .load1 (.t 35), none, 0, true, false⟩,
        ⟨(some 37), .range (.t 36), none, 0, true, false⟩])
    (.block 0 (
      .loop (
        .seq (.reg [⟨(some 38), .next (.t 37), none, 0, true, false⟩,
            ⟨(some 39), .ext 0 (.t 38), none, 0, true, false⟩])
        (.seq (.cond (.t 39)
            (.skip)
            (.exit 0))
        (.block 1 (
          .seq (.reg [⟨(some 40), .entry (.t 37), none, 0, true, false⟩,
              ⟨(some 41), .ext 0 (.t 40), none, 0, true, false⟩,
              ⟨(some 8), .mv (.t 41), none, 0, true, false⟩])
          (.regD [⟨(some 42), .mv (.t 0), none, 0, false, false⟩,
            ⟨(some 43), .nilck (.t 42), none, 1, false, false⟩,
            ⟨(some 44), .fieldA 14 (.t 43), none, 3, false, false⟩,
            ⟨(some 45), .load1 (.t 44), none, 7, false, false⟩,
            ⟨(some 46), .mv (.t 8), none, 0, false, false⟩,
            ⟨(some 47), .mv (.t 0), none, 0, false, false⟩,
            ⟨(some 48), .nilck (.t 47), none, 32, false, false⟩,
            ⟨(some 49), .fieldA 1 (.t 48), none, 96, false, false⟩,
            ⟨(some 50), .load1 (.t 49), none, 224, false, false⟩,
            ⟨none, .mapUpd false [(.str [])] (.t 45) (.t 46) (.t 50), none, 511, true, false⟩]))))))))
  (.seq (.reg [⟨(some 51), .mv (.t 7), none, 0, true, false⟩,
      ⟨(some 52), .build [(.bool false), (.int .i64 0), .nilm] [], none, 0, true, false⟩,
      ⟨(some 53), .nilck (.t 51), none, 0, true, false⟩,
      ⟨none, .store 3 (.t 53) (.t 52), none, 0, true, false⟩])
  (.seq (.reg [⟨(some 54), .mv (.t 0), none, 0, true, false⟩,
      ⟨(some 55), .nilck (.t 54), none, 0, true, false⟩,
      ⟨(some 56), .fieldA 1 (.t 55), none, 0, true, false⟩,
      ⟨(some 57), .load1 (.t 56), none, 0, true, false⟩,
      ⟨(some 4), .mv (.t 57), none, 0, true, false⟩,
      ⟨(some 5), .mv (.c (.int .i64 0)), none, 0, true, false⟩])
  (.ret)))))))
theorem k13 : codeOf Try.prog 13 = some (c13, [.tmp 4, .tmp 5], 58, false) := by kernel_rfl

/-- (*regesta/txn.Manager).End -/
def c14 : XCode :=
  .seq (.reg [⟨(some 4), .mv (.c (.int .i64 0)), none, 0, true, false⟩])
  (.seq (.reg [⟨(some 8), .mv (.t 0), none, 0, true, false⟩,
      ⟨(some 9), .mv (.t 1), none, 0, true, false⟩,
      ⟨(some 10), .call 29 [(.t 8), (.t 9)], none, 0, true, false⟩,
      ⟨(some 7), .mv (.t 10), none, 0, true, false⟩,
      ⟨(some 11), .ext 0 (.t 7), none, 0, true, false⟩,
      ⟨(some 12), .ext 1 (.t 7), none, 0, true, false⟩,
      ⟨(some 5), .mv (.t 11), none, 0, true, false⟩,
      ⟨(some 6), .mv (.t 12), none, 0, true, false⟩])
  (.seq (.seq (.reg [⟨(some 13), .mv (.t 6), none, 0, true, false⟩,
        ⟨(some 14), .bin .eql (.t 13) (.c (.int .i64 0)), none, 0, true, false⟩])
    (.cond (.t 14)
      (.reg [⟨(some 15), .mv (.t 5), none, 0, true, false⟩,
        ⟨(some 16), .build [(.bool false), (.int .i64 0), .nilm] [], none, 0, true, false⟩,
        ⟨(some 17), .nilck (.t 15), none, 0, true, false⟩,
        ⟨none, .store 3 (.t 17) (.t 16), none, 0, true, false⟩])
      (.skip)))
  (.seq (.reg [⟨(some 18), .mv (.t 6), none, 0, true, false⟩,
      ⟨(some 4), .mv (.t 18), none, 0, true, false⟩])
  (.ret))))
theorem k14 : codeOf Try.prog 14 = some (c14, [.tmp 4], 19, false) := by kernel_rfl

/-- (*regesta/txn.Manager).Tick -/
def c15 : XCode :=
  .seq (.seq (.reg [⟨(some 4), .mv (.t 0), none, 0, true, false⟩,
        ⟨(some 5), .eqp false (.t 4) (.c .nilp), none, 0, true, false⟩,
        ⟨(some 6), .mv (.t 5), none, 0, true, false⟩,
        ⟨(some 7), .mv (.t 1), (some (6, false)), 0, true, false⟩,
        ⟨(some 8), .bin .lss (.t 7) (.c (.int .i64 1)), (some (6, false)), 0, true, false⟩,
        ⟨(some 9), .pick (.t 6) (.c (.bool true)) (.t 8), none, 0, true, false⟩])
    (.cond (.t 9)
      (.ret)
      (.skip)))
  (.regD [⟨(some 10), .mv (.t 0), none, 0, false, false⟩,
    ⟨(some 11), .nilck (.t 10), none, 1, false, false⟩,
    ⟨(some 12), .fieldA 0 (.t 11), none, 3, false, false⟩,
    ⟨(some 13), .load1 (.t 12), none, 7, false, false⟩,
    ⟨(some 14), .mv (.t 1), none, 0, false, false⟩,
    ⟨(some 15), .mv (.t 0), none, 0, false, false⟩,
    ⟨(some 16), .nilck (.t 15), none, 32, false, false⟩,
    ⟨(some 17), .fieldA 0 (.t 16), none, 96, false, false⟩,
    ⟨(some 18), .load1 (.t 17), none, 224, false, false⟩,
    ⟨(some 19), .bin .sub (.c (.int .i64 1073741824)) (.t 18), none, 480, false, false⟩,
    ⟨(some 20), .min2 (.t 14) (.t 19), none, 1008, false, false⟩,
    ⟨(some 21), .bin .add (.t 13) (.t 20), none, 2047, false, false⟩,
    ⟨(some 22), .nilck (.t 10), none, 4095, false, false⟩,
    ⟨(some 23), .fieldA 0 (.t 22), none, 8191, false, false⟩,
    ⟨none, .store 1 (.t 23) (.t 21), none, 16383, true, false⟩])
theorem k15 : codeOf Try.prog 15 = some (c15, [], 24, false) := by kernel_rfl

/-- (*regesta/txn.Manager).Open -/
def c16 : XCode :=
  .seq (.reg [⟨(some 4), .mv (.c (.bool false)), none, 0, true, false⟩])
  (.seq (.reg [⟨(some 8), .mv (.t 0), none, 0, true, false⟩,
      ⟨(some 9), .mv (.t 1), none, 0, true, false⟩,
      ⟨(some 10), .call 29 [(.t 8), (.t 9)], none, 0, true, false⟩,
      ⟨(some 7), .mv (.t 10), none, 0, true, false⟩,
      ⟨(some 11), .ext 0 (.t 7), none, 0, true, false⟩,
      ⟨(some 12), .ext 1 (.t 7), none, 0, true, false⟩,
      ⟨(some 5), .mv (.t 11), none, 0, true, false⟩,
      ⟨(some 6), .mv (.t 12), none, 0, true, false⟩])
  (.seq (.reg [⟨(some 13), .mv (.t 6), none, 0, true, false⟩,
      ⟨(some 14), .bin .eql (.t 13) (.c (.int .i64 0)), none, 0, true, false⟩,
      ⟨(some 4), .mv (.t 14), none, 0, true, false⟩])
  (.ret)))
theorem k16 : codeOf Try.prog 16 = some (c16, [.tmp 4], 15, false) := by kernel_rfl

/-- (*regesta/txn.Manager).Clock -/
def c17 : XCode :=
  .seq (.reg [⟨(some 2), .mv (.c (.int .i64 0)), none, 0, true, false⟩])
  (.seq (.seq (.reg [⟨(some 3), .mv (.t 0), none, 0, true, false⟩,
        ⟨(some 4), .eqp false (.t 3) (.c .nilp), none, 0, true, false⟩])
    (.cond (.t 4)
      (.seq (.reg [⟨(some 2), .mv (.c (.int .i64 0)), none, 0, true, false⟩])
      (.ret))
      (.skip)))
  (.seq (.reg [⟨(some 5), .mv (.t 0), none, 0, true, false⟩,
      ⟨(some 6), .nilck (.t 5), none, 0, true, false⟩,
      ⟨(some 7), .fieldA 0 (.t 6), none, 0, true, false⟩,
      ⟨(some 8), .load1 (.t 7), none, 0, true, false⟩,
      ⟨(some 2), .mv (.t 8), none, 0, true, false⟩])
  (.ret)))
theorem k17 : codeOf Try.prog 17 = some (c17, [.tmp 2], 9, false) := by kernel_rfl

/-- regesta/regestalaw22.play -/
def c18 : XCode :=
  .seq (.reg [⟨(some 4), .mv (.c .nilp), none, 0, true, false⟩,
      ⟨(some 5), .mv (.c .nilp), none, 0, true, false⟩,
      ⟨(some 6), .mv (.c (.bool false)), none, 0, true, false⟩])
  (.seq (.reg [⟨(some 10), .mv (.t 0), none, 0, true, false⟩,
      ⟨(some 11), .call 9 [(.t 10)], none, 0, true, false⟩,
      ⟨(some 12), .mv (.t 0), none, 0, true, false⟩,
      ⟨(some 13), .call 30 [(.t 12)], none, 0, true, false⟩,
      ⟨(some 7), .mv (.t 11), none, 0, true, false⟩,
      ⟨(some 8), .mv (.t 13), none, 0, true, false⟩])
  (.seq (.seq (.reg [⟨(some 9), .mv (.c (.int .i64 0)), none, 0, true, false⟩])
    (.block 0 (
      .loop (
        .seq (.seq (.reg [⟨(some 14), .mv (.t 9), none, 0, true, false⟩,
              ⟨(some 15), .mv (.t 1), none, 0, true, false⟩,
              ⟨(some 16), .lenS (.t 15), none, 0, true, false⟩,
              ⟨(some 17), .bin .lss (.t 14) (.t 16), none, 0, true, false⟩,
              ⟨(some 18), .mv (.t 17), none, 0, true, false⟩,
              ⟨(some 19), .mv (.t 9), (some (18, true)), 0, true, false⟩,
              ⟨(some 20), .bin .lss (.t 19) (.c (.int .i64 60)), (some (18, true)), 0, true, false⟩,
              ⟨(some 21), .pick (.t 18) (.t 20) (.c (.bool false)), none, 0, true, false⟩])
          (.cond (.t 21)
            (.skip)
            (.exit 0)))
        (.seq (.block 1 (
            .seq (.reg [⟨(some 24), .mv (.t 7), none, 0, true, false⟩,
                ⟨(some 25), .mv (.t 8), none, 0, true, false⟩,
                ⟨(some 26), .mv (.t 1), none, 0, true, false⟩,
                ⟨(some 27), .mv (.t 9), none, 0, true, false⟩,
                ⟨(some 28), .indexS 4 (.t 26) (.t 27), none, 0, true, false⟩,
                ⟨(some 29), .loadn 4 (.t 28), none, 0, true, false⟩,
                ⟨(some 30), .call 22 [(.t 24), (.t 25), (.t 29)], none, 0, true, false⟩,
                ⟨(some 31), .not (.t 30), none, 0, true, false⟩])
            (.cond (.t 31)
              (.seq (.reg [⟨(some 32), .mv (.t 7), none, 0, true, false⟩,
                  ⟨(some 33), .mv (.t 8), none, 0, true, false⟩,
                  ⟨(some 4), .mv (.t 32), none, 0, true, false⟩,
                  ⟨(some 5), .mv (.t 33), none, 0, true, false⟩,
                  ⟨(some 6), .mv (.c (.bool false)), none, 0, true, false⟩])
              (.ret))
              (.skip))))
        (.reg [⟨(some 22), .mv (.t 9), none, 0, true, false⟩,
          ⟨(some 23), .bin .add (.t 22) (.c (.int .i64 1)), none, 0, true, false⟩,
          ⟨(some 9), .mv (.t 23), none, 0, true, false⟩]))))))
  (.seq (.reg [⟨(some 34), .mv (.t 7), none, 0, true, false⟩,
      ⟨(some 35), .mv (.t 8), none, 0, true, false⟩,
      ⟨(some 36), .mv (.t 7), none, 0, true, false⟩,
      ⟨(some 37), .eqp true (.t 36) (.c .nilp), none, 0, true, false⟩,
      ⟨(some 4), .mv (.t 34), none, 0, true, false⟩,
      ⟨(some 5), .mv (.t 35), none, 0, true, false⟩,
      ⟨(some 6), .mv (.t 37), none, 0, true, false⟩])
  (.ret))))
theorem k18 : codeOf Try.prog 18 = some (c18, [.tmp 4, .tmp 5, .tmp 6], 38, false) := by kernel_rfl

/-- regesta/regestalaw22.same -/
def c19 : XCode :=
  .seq (.reg [⟨(some 4), .mv (.c (.bool false)), none, 0, true, false⟩])
  (.seq (.seq (.reg [⟨(some 5), .mv (.c (.int .i64 (-1))), none, 0, true, false⟩])
    (.block 0 (
      .loop (
        .seq (.seq (.reg [⟨(some 14), .mv (.t 5), none, 0, true, false⟩,
              ⟨(some 15), .bin .leq (.t 14) (.c (.int .i64 4)), none, 0, true, false⟩])
          (.cond (.t 15)
            (.skip)
            (.exit 0)))
        (.seq (.block 1 (
            .seq (.reg [⟨(some 19), .mv (.t 0), none, 0, true, false⟩,
                ⟨(some 20), .mv (.t 5), none, 0, true, false⟩,
                ⟨(some 21), .call 23 [(.t 19), (.t 20)], none, 0, true, false⟩,
                ⟨(some 18), .mv (.t 21), none, 0, true, false⟩,
                ⟨(some 22), .ext 0 (.t 18), none, 0, true, false⟩,
                ⟨(some 23), .ext 1 (.t 18), none, 0, true, false⟩,
                ⟨(some 6), .mv (.t 22), none, 0, true, false⟩,
                ⟨(some 7), .mv (.t 23), none, 0, true, false⟩])
            (.seq (.reg [⟨(some 25), .mv (.t 1), none, 0, true, false⟩,
                ⟨(some 26), .mv (.t 5), none, 0, true, false⟩,
                ⟨(some 27), .call 31 [(.t 25), (.t 26)], none, 0, true, false⟩,
                ⟨(some 24), .mv (.t 27), none, 0, true, false⟩,
                ⟨(some 28), .ext 0 (.t 24), none, 0, true, false⟩,
                ⟨(some 29), .ext 1 (.t 24), none, 0, true, false⟩,
                ⟨(some 8), .mv (.t 28), none, 0, true, false⟩,
                ⟨(some 9), .mv (.t 29), none, 0, true, false⟩])
            (.seq (.reg [⟨(some 30), .mv (.t 6), none, 0, true, false⟩,
                ⟨(some 31), .mv (.t 8), none, 0, true, false⟩,
                ⟨(some 32), .bin .neq (.t 30) (.t 31), none, 0, true, false⟩,
                ⟨(some 33), .mv (.t 32), none, 0, true, false⟩,
                ⟨(some 34), .mv (.t 7), (some (33, false)), 0, true, false⟩,
                ⟨(some 35), .mv (.t 9), (some (33, false)), 0, true, false⟩,
                ⟨(some 36), .eqb true (.t 34) (.t 35), (some (33, false)), 0, true, false⟩,
                ⟨(some 37), .pick (.t 33) (.c (.bool true)) (.t 36), none, 0, true, false⟩,
                ⟨(some 38), .mv (.t 37), none, 0, true, false⟩,
                ⟨(some 39), .mv (.t 0), (some (38, false)), 0, true, false⟩,
                ⟨(some 40), .mv (.t 5), (some (38, false)), 0, true, false⟩,
                ⟨(some 41), .call 16 [(.t 39), (.t 40)], (some (38, false)), 0, true, false⟩,
                ⟨(some 42), .mv (.t 1), (some (38, false)), 0, true, false⟩,
                ⟨(some 43), .mv (.t 5), (some (38, false)), 0, true, false⟩,
                ⟨(some 44), .call 32 [(.t 42), (.t 43)], (some (38, false)), 0, true, false⟩,
                ⟨(some 45), .eqb true (.t 41) (.t 44), (some (38, false)), 0, true, false⟩,
                ⟨(some 46), .pick (.t 38) (.c (.bool true)) (.t 45), none, 0, true, false⟩,
                ⟨(some 47), .mv (.t 46), none, 0, true, false⟩,
                ⟨(some 48), .mv (.t 0), (some (47, false)), 0, true, false⟩,
                ⟨(some 49), .mv (.t 5), (some (47, false)), 0, true, false⟩,
                ⟨(some 50), .call 25 [(.t 48), (.t 49)], (some (47, false)), 0, true, false⟩,
                ⟨(some 51), .mv (.t 1), (some (47, false)), 0, true, false⟩,
                ⟨(some 52), .mv (.t 5), (some (47, false)), 0, true, false⟩,
                ⟨(some 53), .call 33 [(.t 51), (.t 52)], (some (47, false)), 0, true, false⟩,
                ⟨(some 54), .bin .neq (.t 50) (.t 53), (some (47, false)), 0, true, false⟩,
                ⟨(some 55), .pick (.t 47) (.c (.bool true)) (.t 54), none, 0, true, false⟩,
                ⟨(some 56), .mv (.t 55), none, 0, true, false⟩,
                ⟨(some 57), .mv (.t 0), (some (56, false)), 0, true, false⟩,
                ⟨(some 58), .mv (.t 5), (some (56, false)), 0, true, false⟩,
                ⟨(some 59), .call 27 [(.t 57), (.t 58)], (some (56, false)), 0, true, false⟩,
                ⟨(some 60), .mv (.t 1), (some (56, false)), 0, true, false⟩,
                ⟨(some 61), .mv (.t 5), (some (56, false)), 0, true, false⟩,
                ⟨(some 62), .call 35 [(.t 60), (.t 61)], (some (56, false)), 0, true, false⟩,
                ⟨(some 63), .call 34 [(.t 59), (.t 62)], (some (56, false)), 0, true, false⟩,
                ⟨(some 64), .not (.t 63), (some (56, false)), 0, true, false⟩,
                ⟨(some 65), .pick (.t 56) (.c (.bool true)) (.t 64), none, 0, true, false⟩])
            (.cond (.t 65)
              (.seq (.reg [⟨(some 4), .mv (.c (.bool false)), none, 0, true, false⟩])
              (.ret))
              (.skip))))))
        (.reg [⟨(some 16), .mv (.t 5), none, 0, true, false⟩,
          ⟨(some 17), .bin .add (.t 16) (.c (.int .i64 1)), none, 0, true, false⟩,
          ⟨(some 5), .mv (.t 17), none, 0, true, false⟩]))))))
  (.seq (.reg [⟨(some 67), .mv (.t 0), none, 0, true, false⟩,
      ⟨(some 68), .call 24 [(.t 67)], none, 0, true, false⟩,
      ⟨(some 66), .mv (.t 68), none, 0, true, false⟩,
      ⟨(some 69), .ext 0 (.t 66), none, 0, true, false⟩,
      ⟨(some 70), .ext 1 (.t 66), none, 0, true, false⟩,
      ⟨(some 10), .mv (.t 69), none, 0, true, false⟩,
      ⟨(some 11), .mv (.t 70), none, 0, true, false⟩])
  (.seq (.reg [⟨(some 72), .mv (.t 1), none, 0, true, false⟩,
      ⟨(some 73), .call 36 [(.t 72)], none, 0, true, false⟩,
      ⟨(some 71), .mv (.t 73), none, 0, true, false⟩,
      ⟨(some 74), .ext 0 (.t 71), none, 0, true, false⟩,
      ⟨(some 75), .ext 1 (.t 71), none, 0, true, false⟩,
      ⟨(some 12), .mv (.t 74), none, 0, true, false⟩,
      ⟨(some 13), .mv (.t 75), none, 0, true, false⟩])
  (.seq (.reg [⟨(some 76), .mv (.t 10), none, 0, true, false⟩,
      ⟨(some 77), .mv (.t 12), none, 0, true, false⟩,
      ⟨(some 78), .bin .eql (.t 76) (.t 77), none, 0, true, false⟩,
      ⟨(some 79), .mv (.t 78), none, 0, true, false⟩,
      ⟨(some 80), .mv (.t 11), (some (79, true)), 0, true, false⟩,
      ⟨(some 81), .mv (.t 13), (some (79, true)), 0, true, false⟩,
      ⟨(some 82), .eqb false (.t 80) (.t 81), (some (79, true)), 0, true, false⟩,
      ⟨(some 83), .pick (.t 79) (.t 82) (.c (.bool false)), none, 0, true, false⟩,
      ⟨(some 84), .mv (.t 83), none, 0, true, false⟩,
      ⟨(some 85), .mv (.t 0), (some (84, true)), 0, true, false⟩,
      ⟨(some 86), .call 17 [(.t 85)], (some (84, true)), 0, true, false⟩,
      ⟨(some 87), .mv (.t 1), (some (84, true)), 0, true, false⟩,
      ⟨(some 88), .call 37 [(.t 87)], (some (84, true)), 0, true, false⟩,
      ⟨(some 89), .bin .eql (.t 86) (.t 88), (some (84, true)), 0, true, false⟩,
      ⟨(some 90), .pick (.t 84) (.t 89) (.c (.bool false)), none, 0, true, false⟩,
      ⟨(some 91), .mv (.t 90), none, 0, true, false⟩,
      ⟨(some 92), .mv (.t 0), (some (91, true)), 0, true, false⟩,
      ⟨(some 93), .call 26 [(.t 92)], (some (91, true)), 0, true, false⟩,
      ⟨(some 94), .mv (.t 1), (some (91, true)), 0, true, false⟩,
      ⟨(some 95), .call 38 [(.t 94)], (some (91, true)), 0, true, false⟩,
      ⟨(some 96), .bin .eql (.t 93) (.t 95), (some (91, true)), 0, true, false⟩,
      ⟨(some 97), .pick (.t 91) (.t 96) (.c (.bool false)), none, 0, true, false⟩,
      ⟨(some 4), .mv (.t 97), none, 0, true, false⟩])
  (.ret)))))
theorem k19 : codeOf Try.prog 19 = some (c19, [.tmp 4], 98, false) := by kernel_rfl

/-- (*regesta/txn.Manager).Fork -/
def c20 : XCode :=
  .seq (.reg [⟨(some 2), .mv (.c .nilp), none, 0, true, false⟩])
  (.seq (.seq (.reg [⟨(some 5), .mv (.t 0), none, 0, true, false⟩,
        ⟨(some 6), .eqp false (.t 5) (.c .nilp), none, 0, true, false⟩])
    (.cond (.t 6)
      (.seq (.reg [⟨(some 2), .mv (.c .nilp), none, 0, true, false⟩])
      (.ret))
      (.skip)))
  (.seq (.reg [⟨(some 7), .mv (.t 0), none, 0, true, false⟩,
      ⟨(some 8), .nilck (.t 7), none, 0, true, false⟩,
      ⟨(some 9), .loadn 15 (.t 8), none, 0, true, false⟩,
      ⟨(some 3), .alloc 61 [(.int .i64 0), (.int .i64 0), (.bool false), (.int .i64 0), .nilm, (.bool false), (.int .i64 0), .nilm, (.bool false), (.int .i64 0), .nilm, (.bool false), (.int .i64 0), .nilm, .nilm], none, 0, true, false⟩,
      ⟨none, .store 15 (.t 3) (.t 9), none, 0, true, false⟩])
  (.seq (.reg [⟨(some 10), .mv (.t 0), none, 0, true, false⟩,
      ⟨(some 11), .nilck (.t 10), none, 0, true, false⟩,
      ⟨(some 12), .fieldA 14 (.t 11), none, 0, true, false⟩,
      ⟨(some 13), .load1 (.t 12), none, 0, true, false⟩,
      ⟨(some 14), .call 39 [(.t 13)], none, 0, true, false⟩,
      ⟨(some 15), .fieldA 14 (.t 3), none, 0, true, false⟩,
      ⟨none, .store 1 (.t 15) (.t 14), none, 0, true, false⟩])
  (.seq (.seq (.reg [⟨(some 16), .mv (.c (.int .i64 0)), none, 0, true, false⟩])
    (.block 0 (
      .loop (
        .seq (.reg [⟨(some 17), .bin .lss (.t 16) (.c (.int .i64 4)), none, 0, true, false⟩])
        (.seq (.cond (.t 17)
            (.skip)
            (.exit 0))
        (.seq (.block 1 (
            .seq (.reg [⟨(some 18), .mv (.t 16), none, 0, true, false⟩,
                ⟨(some 4), .mv (.t 18), none, 0, true, false⟩])
            (.reg [⟨(some 19), .mv (.t 4), none, 0, true, false⟩,
              ⟨(some 20), .mv (.t 4), none, 0, true, false⟩,
              ⟨(some 21), .fieldA 2 (.t 3), none, 0, true, false⟩,
              ⟨(some 22), .indexA 3 4 (.t 21) (.t 20), none, 0, true, false⟩,
              ⟨(some 23), .fieldA 2 (.t 22), none, 0, true, false⟩,
              ⟨(some 24), .load1 (.t 23), none, 0, true, false⟩,
              ⟨(some 25), .call 40 [(.t 24)], none, 0, true, false⟩,
              ⟨(some 26), .fieldA 2 (.t 3), none, 0, true, false⟩,
              ⟨(some 27), .indexA 3 4 (.t 26) (.t 19), none, 0, true, false⟩,
              ⟨(some 28), .fieldA 2 (.t 27), none, 0, true, false⟩,
              ⟨none, .store 1 (.t 28) (.t 25), none, 0, true, false⟩])))
        (.reg [⟨(some 29), .bin .add (.t 16) (.c (.int .i64 1)), none, 0, true, false⟩,
          ⟨(some 16), .mv (.t 29), none, 0, true, false⟩])))))))
  (.seq (.reg [⟨(some 2), .mv (.t 3), none, 0, true, false⟩])
  (.ret))))))
theorem k20 : codeOf Try.prog 20 = some (c20, [.tmp 2], 30, false) := by kernel_rfl

/-- (*regesta/regestaref22.Manager).Fork -/
def c21 : XCode :=
  .seq (.reg [⟨(some 2), .mv (.c .nilp), none, 0, true, false⟩])
  (.seq (.seq (.reg [⟨(some 5), .mv (.t 0), none, 0, true, false⟩,
        ⟨(some 6), .eqp false (.t 5) (.c .nilp), none, 0, true, false⟩])
    (.cond (.t 6)
      (.seq (.reg [⟨(some 2), .mv (.c .nilp), none, 0, true, false⟩])
      (.ret))
      (.skip)))
  (.seq (.reg [⟨(some 7), .mv (.t 0), none, 0, true, false⟩,
      ⟨(some 8), .nilck (.t 7), none, 0, true, false⟩,
      ⟨(some 9), .loadn 15 (.t 8), none, 0, true, false⟩,
      ⟨(some 3), .alloc 74 [(.int .i64 0), (.int .i64 0), (.bool false), (.int .i64 0), .nsl, (.bool false), (.int .i64 0), .nsl, (.bool false), (.int .i64 0), .nsl, (.bool false), (.int .i64 0), .nsl, .nsl], none, 0, true, false⟩,
      ⟨none, .store 15 (.t 3) (.t 9), none, 0, true, false⟩])
  (.seq (.seq (.reg [⟨(some 4), .mv (.c (.int .i64 0)), none, 0, true, false⟩])
    (.block 0 (
      .loop (
        .seq (.seq (.reg [⟨(some 10), .mv (.t 4), none, 0, true, false⟩,
              ⟨(some 11), .bin .lss (.t 10) (.c (.int .i64 4)), none, 0, true, false⟩])
          (.cond (.t 11)
            (.skip)
            (.exit 0)))
        (.seq (.block 1 (
            .reg [⟨(some 14), .mv (.t 4), none, 0, true, false⟩,
              ⟨(some 15), .mkrow 9 1 0 [(.str [])] [], none, 0, true, false⟩,
              ⟨(some 16), .mv (.t 0), none, 0, true, false⟩,
              ⟨(some 17), .mv (.t 4), none, 0, true, false⟩,
              ⟨(some 18), .nilck (.t 16), none, 0, true, false⟩,
              ⟨(some 19), .fieldA 2 (.t 18), none, 0, true, false⟩,
              ⟨(some 20), .indexA 3 4 (.t 19) (.t 17), none, 0, true, false⟩,
              ⟨(some 21), .fieldA 2 (.t 20), none, 0, true, false⟩,
              ⟨(some 22), .load1 (.t 21), none, 0, true, false⟩,
              ⟨(some 23), .append 9 1 16 (.t 15) (.t 22), none, 0, true, false⟩,
              ⟨(some 24), .fieldA 2 (.t 3), none, 0, true, false⟩,
              ⟨(some 25), .indexA 3 4 (.t 24) (.t 14), none, 0, true, false⟩,
              ⟨(some 26), .fieldA 2 (.t 25), none, 0, true, false⟩,
              ⟨none, .store 1 (.t 26) (.t 23), none, 0, true, false⟩]))
        (.reg [⟨(some 12), .mv (.t 4), none, 0, true, false⟩,
          ⟨(some 13), .bin .add (.t 12) (.c (.int .i64 1)), none, 0, true, false⟩,
          ⟨(some 4), .mv (.t 13), none, 0, true, false⟩]))))))
  (.seq (.reg [⟨(some 27), .mkrow 85 2 0 [(.str []), (.int .i64 0)] [], none, 0, true, false⟩,
      ⟨(some 28), .mv (.t 0), none, 0, true, false⟩,
      ⟨(some 29), .nilck (.t 28), none, 0, true, false⟩,
      ⟨(some 30), .fieldA 14 (.t 29), none, 0, true, false⟩,
      ⟨(some 31), .load1 (.t 30), none, 0, true, false⟩,
      ⟨(some 32), .append 85 2 24 (.t 27) (.t 31), none, 0, true, false⟩,
      ⟨(some 33), .fieldA 14 (.t 3), none, 0, true, false⟩,
      ⟨none, .store 1 (.t 33) (.t 32), none, 0, true, false⟩])
  (.seq (.reg [⟨(some 2), .mv (.t 3), none, 0, true, false⟩])
  (.ret))))))
theorem k21 : codeOf Try.prog 21 = some (c21, [.tmp 2], 34, false) := by kernel_rfl

/-- regesta/regestalaw22.do -/
def c22 : XCode :=
  .seq (.reg [⟨(some 5), .box 32 4 (.t 2), none, 0, true, false⟩,
      ⟨(some 6), .mv (.c (.bool false)), none, 0, true, false⟩])
  (.seq (.seq (.reg [⟨(some 15), .fieldA 0 (.t 5), none, 0, true, false⟩,
        ⟨(some 16), .load1 (.t 15), none, 0, true, false⟩])
    (.block 0 (
      .seq (.reg [⟨(some 18), .bin .eql (.t 16) (.c (.int .i64 0)), none, 0, true, false⟩,
          ⟨(some 17), .mv (.t 18), none, 0, true, false⟩])
      (.cond (.t 17)
        (.seq (.reg [⟨(some 20), .mv (.t 0), none, 0, true, false⟩,
            ⟨(some 21), .fieldA 1 (.t 5), none, 0, true, false⟩,
            ⟨(some 22), .load1 (.t 21), none, 0, true, false⟩,
            ⟨(some 23), .call 11 [(.t 20), (.t 22)], none, 0, true, false⟩,
            ⟨(some 19), .mv (.t 23), none, 0, true, false⟩,
            ⟨(some 24), .ext 0 (.t 19), none, 0, true, false⟩,
            ⟨(some 25), .ext 1 (.t 19), none, 0, true, false⟩,
            ⟨(some 7), .mv (.t 24), none, 0, true, false⟩,
            ⟨(some 8), .mv (.t 25), none, 0, true, false⟩])
        (.seq (.reg [⟨(some 27), .mv (.t 1), none, 0, true, false⟩,
            ⟨(some 28), .fieldA 1 (.t 5), none, 0, true, false⟩,
            ⟨(some 29), .load1 (.t 28), none, 0, true, false⟩,
            ⟨(some 30), .call 41 [(.t 27), (.t 29)], none, 0, true, false⟩,
            ⟨(some 26), .mv (.t 30), none, 0, true, false⟩,
            ⟨(some 31), .ext 0 (.t 26), none, 0, true, false⟩,
            ⟨(some 32), .ext 1 (.t 26), none, 0, true, false⟩,
            ⟨(some 9), .mv (.t 31), none, 0, true, false⟩,
            ⟨(some 10), .mv (.t 32), none, 0, true, false⟩])
        (.seq (.reg [⟨(some 33), .mv (.t 7), none, 0, true, false⟩,
            ⟨(some 34), .mv (.t 9), none, 0, true, false⟩,
            ⟨(some 35), .bin .eql (.t 33) (.t 34), none, 0, true, false⟩,
            ⟨(some 36), .mv (.t 35), none, 0, true, false⟩,
            ⟨(some 37), .mv (.t 8), (some (36, true)), 0, true, false⟩,
            ⟨(some 38), .mv (.t 10), (some (36, true)), 0, true, false⟩,
            ⟨(some 39), .bin .eql (.t 37) (.t 38), (some (36, true)), 0, true, false⟩,
            ⟨(some 40), .pick (.t 36) (.t 39) (.c (.bool false)), none, 0, true, false⟩,
            ⟨(some 6), .mv (.t 40), none, 0, true, false⟩])
        (.ret))))
        (.seq (.reg [⟨(some 42), .bin .eql (.t 16) (.c (.int .i64 1)), none, 0, true, false⟩,
            ⟨(some 41), .mv (.t 42), none, 0, true, false⟩])
        (.cond (.t 41)
          (.seq (.regD [⟨(some 43), .mv (.t 0), none, 0, false, false⟩,
              ⟨(some 44), .fieldA 1 (.t 5), none, 0, false, false⟩,
              ⟨(some 45), .load1 (.t 44), none, 2, false, false⟩,
              ⟨(some 46), .fieldA 2 (.t 5), none, 0, false, false⟩,
              ⟨(some 47), .load1 (.t 46), none, 8, false, false⟩,
              ⟨(some 48), .call 12 [(.t 43), (.t 45), (.t 47)], none, 31, false, true⟩,
              ⟨(some 49), .mv (.t 1), none, 0, false, false⟩,
              ⟨(some 50), .fieldA 1 (.t 5), none, 0, false, false⟩,
              ⟨(some 51), .load1 (.t 50), none, 128, false, false⟩,
              ⟨(some 52), .fieldA 2 (.t 5), none, 0, false, false⟩,
              ⟨(some 53), .load1 (.t 52), none, 512, false, false⟩,
              ⟨(some 54), .call 42 [(.t 49), (.t 51), (.t 53)], none, 2047, true, false⟩,
              ⟨(some 55), .bin .eql (.t 48) (.t 54), none, 4095, false, false⟩,
              ⟨(some 6), .mv (.t 55), none, 8191, false, false⟩])
          (.ret))
          (.seq (.reg [⟨(some 57), .bin .eql (.t 16) (.c (.int .i64 2)), none, 0, true, false⟩,
              ⟨(some 56), .mv (.t 57), none, 0, true, false⟩])
          (.cond (.t 56)
            (.seq (.seq (.regD [⟨(some 58), .mv (.t 0), none, 0, false, false⟩,
                  ⟨(some 59), .fieldA 1 (.t 5), none, 0, false, false⟩,
                  ⟨(some 60), .load1 (.t 59), none, 2, false, false⟩,
                  ⟨(some 61), .call 25 [(.t 58), (.t 60)], none, 7, false, true⟩,
                  ⟨(some 62), .mv (.t 1), none, 0, false, false⟩,
                  ⟨(some 63), .fieldA 1 (.t 5), none, 0, false, false⟩,
                  ⟨(some 64), .load1 (.t 63), none, 32, false, false⟩,
                  ⟨(some 65), .call 33 [(.t 62), (.t 64)], none, 127, true, false⟩,
                  ⟨(some 66), .bin .neq (.t 61) (.t 65), none, 255, false, false⟩])
              (.cond (.t 66)
                (.seq (.reg [⟨(some 6), .mv (.c (.bool false)), none, 0, true, false⟩])
                (.ret))
                (.skip)))
            (.seq (.reg [⟨(some 68), .mv (.t 0), none, 0, true, false⟩,
                ⟨(some 69), .fieldA 1 (.t 5), none, 0, true, false⟩,
                ⟨(some 70), .load1 (.t 69), none, 0, true, false⟩,
                ⟨(some 71), .call 13 [(.t 68), (.t 70)], none, 0, true, false⟩,
                ⟨(some 67), .mv (.t 71), none, 0, true, false⟩,
                ⟨(some 72), .ext 0 (.t 67), none, 0, true, false⟩,
                ⟨(some 73), .ext 1 (.t 67), none, 0, true, false⟩,
                ⟨(some 11), .mv (.t 72), none, 0, true, false⟩,
                ⟨(some 12), .mv (.t 73), none, 0, true, false⟩])
            (.seq (.reg [⟨(some 75), .mv (.t 1), none, 0, true, false⟩,
                ⟨(some 76), .fieldA 1 (.t 5), none, 0, true, false⟩,
                ⟨(some 77), .load1 (.t 76), none, 0, true, false⟩,
                ⟨(some 78), .call 43 [(.t 75), (.t 77)], none, 0, true, false⟩,
                ⟨(some 74), .mv (.t 78), none, 0, true, false⟩,
                ⟨(some 79), .ext 0 (.t 74), none, 0, true, false⟩,
                ⟨(some 80), .ext 1 (.t 74), none, 0, true, false⟩,
                ⟨(some 13), .mv (.t 79), none, 0, true, false⟩,
                ⟨(some 14), .mv (.t 80), none, 0, true, false⟩])
            (.seq (.reg [⟨(some 81), .mv (.t 11), none, 0, true, false⟩,
                ⟨(some 82), .mv (.t 13), none, 0, true, false⟩,
                ⟨(some 83), .bin .eql (.t 81) (.t 82), none, 0, true, false⟩,
                ⟨(some 84), .mv (.t 83), none, 0, true, false⟩,
                ⟨(some 85), .mv (.t 12), (some (84, true)), 0, true, false⟩,
                ⟨(some 86), .mv (.t 14), (some (84, true)), 0, true, false⟩,
                ⟨(some 87), .bin .eql (.t 85) (.t 86), (some (84, true)), 0, true, false⟩,
                ⟨(some 88), .pick (.t 84) (.t 87) (.c (.bool false)), none, 0, true, false⟩,
                ⟨(some 6), .mv (.t 88), none, 0, true, false⟩])
            (.ret)))))
            (.seq (.reg [⟨(some 90), .bin .eql (.t 16) (.c (.int .i64 3)), none, 0, true, false⟩,
                ⟨(some 89), .mv (.t 90), none, 0, true, false⟩])
            (.cond (.t 89)
              (.seq (.regD [⟨(some 91), .mv (.t 0), none, 0, false, false⟩,
                  ⟨(some 92), .fieldA 1 (.t 5), none, 0, false, false⟩,
                  ⟨(some 93), .load1 (.t 92), none, 2, false, false⟩,
                  ⟨(some 94), .call 14 [(.t 91), (.t 93)], none, 7, false, true⟩,
                  ⟨(some 95), .mv (.t 1), none, 0, false, false⟩,
                  ⟨(some 96), .fieldA 1 (.t 5), none, 0, false, false⟩,
                  ⟨(some 97), .load1 (.t 96), none, 32, false, false⟩,
                  ⟨(some 98), .call 44 [(.t 95), (.t 97)], none, 127, true, false⟩,
                  ⟨(some 99), .bin .eql (.t 94) (.t 98), none, 255, false, false⟩,
                  ⟨(some 6), .mv (.t 99), none, 511, false, false⟩])
              (.ret))
              (.seq (.reg [⟨(some 101), .bin .eql (.t 16) (.c (.int .i64 4)), none, 0, true, false⟩,
                  ⟨(some 100), .mv (.t 101), none, 0, true, false⟩])
              (.cond (.t 100)
                (.seq (.reg [⟨(some 102), .mv (.t 0), none, 0, true, false⟩,
                    ⟨(some 103), .fieldA 3 (.t 5), none, 0, true, false⟩,
                    ⟨(some 104), .load1 (.t 103), none, 0, true, false⟩,
                    ⟨(some 105), .call 15 [(.t 102), (.t 104)], none, 0, true, false⟩])
                (.reg [⟨(some 106), .mv (.t 1), none, 0, true, false⟩,
                  ⟨(some 107), .fieldA 3 (.t 5), none, 0, true, false⟩,
                  ⟨(some 108), .load1 (.t 107), none, 0, true, false⟩,
                  ⟨(some 109), .call 45 [(.t 106), (.t 108)], none, 0, true, false⟩]))
                (.skip)))))))))))))
  (.seq (.reg [⟨(some 6), .mv (.c (.bool true)), none, 0, true, false⟩])
  (.ret)))
theorem k22 : codeOf Try.prog 22 = some (c22, [.tmp 6], 110, false) := by kernel_rfl

/-- (*regesta/txn.Manager).Since -/
def c23 : XCode :=
  .seq (.reg [⟨(some 4), .mv (.c (.int .i64 0)), none, 0, true, false⟩,
      ⟨(some 5), .mv (.c (.bool false)), none, 0, true, false⟩])
  (.seq (.reg [⟨(some 9), .mv (.t 0), none, 0, true, false⟩,
      ⟨(some 10), .mv (.t 1), none, 0, true, false⟩,
      ⟨(some 11), .call 29 [(.t 9), (.t 10)], none, 0, true, false⟩,
      ⟨(some 8), .mv (.t 11), none, 0, true, false⟩,
      ⟨(some 12), .ext 0 (.t 8), none, 0, true, false⟩,
      ⟨(some 13), .ext 1 (.t 8), none, 0, true, false⟩,
      ⟨(some 6), .mv (.t 12), none, 0, true, false⟩,
      ⟨(some 7), .mv (.t 13), none, 0, true, false⟩])
  (.seq (.seq (.reg [⟨(some 14), .mv (.t 7), none, 0, true, false⟩,
        ⟨(some 15), .bin .neq (.t 14) (.c (.int .i64 0)), none, 0, true, false⟩])
    (.cond (.t 15)
      (.seq (.reg [⟨(some 4), .mv (.c (.int .i64 0)), none, 0, true, false⟩,
          ⟨(some 5), .mv (.c (.bool false)), none, 0, true, false⟩])
      (.ret))
      (.skip)))
  (.seq (.reg [⟨(some 16), .mv (.t 6), none, 0, true, false⟩,
      ⟨(some 17), .nilck (.t 16), none, 0, true, false⟩,
      ⟨(some 18), .fieldA 1 (.t 17), none, 0, true, false⟩,
      ⟨(some 19), .load1 (.t 18), none, 0, true, false⟩,
      ⟨(some 4), .mv (.t 19), none, 0, true, false⟩,
      ⟨(some 5), .mv (.c (.bool true)), none, 0, true, false⟩])
  (.ret))))
theorem k23 : codeOf Try.prog 23 = some (c23, [.tmp 4, .tmp 5], 20, false) := by kernel_rfl

/-- (*regesta/txn.Manager).Oldest -/
def c24 : XCode :=
  .seq (.reg [⟨(some 2), .mv (.c (.int .i64 0)), none, 0, true, false⟩,
      ⟨(some 3), .mv (.c (.bool false)), none, 0, true, false⟩])
  (.seq (.seq (.reg [⟨(some 7), .mv (.t 0), none, 0, true, false⟩,
        ⟨(some 8), .eqp false (.t 7) (.c .nilp), none, 0, true, false⟩])
    (.cond (.t 8)
      (.seq (.reg [⟨(some 2), .mv (.c (.int .i64 0)), none, 0, true, false⟩,
          ⟨(some 3), .mv (.c (.bool false)), none, 0, true, false⟩])
      (.ret))
      (.skip)))
  (.seq (.reg [⟨(some 4), .nilrow 3 1, none, 0, true, false⟩])
  (.seq (.seq (.reg [⟨(some 9), .mv (.t 0), none, 0, true, false⟩,
        ⟨(some 10), .nilck (.t 9), none, 0, true, false⟩,
        ⟨(some 11), .fieldA 2 (.t 10), none, 0, true, false⟩,
        ⟨(some 12), .loadn 12 (.t 11), none, 0, true, false⟩,
        ⟨(some 13), .mv (.c (.int .i64 0)), none, 0, true, false⟩])
    (.block 0 (
      .loop (
        .seq (.reg [⟨(some 14), .bin .lss (.t 13) (.c (.int .i64 4)), none, 0, true, false⟩])
        (.seq (.cond (.t 14)
            (.skip)
            (.exit 0))
        (.seq (.block 1 (
            .seq (.reg [⟨(some 15), .indexV 3 4 false (.t 12) (.t 13), none, 0, true, false⟩,
                ⟨(some 6), .alloc 58 [(.bool false), (.int .i64 0), .nilm], none, 0, true, false⟩,
                ⟨none, .store 3 (.t 6) (.t 15), none, 0, true, false⟩])
            (.seq (.reg [⟨(some 16), .fieldA 0 (.t 6), none, 0, true, false⟩,
                ⟨(some 17), .load1 (.t 16), none, 0, true, false⟩])
            (.cond (.t 17)
              (.reg [⟨(some 18), .mv (.t 4), none, 0, true, false⟩,
                ⟨(some 19), .fieldA 1 (.t 6), none, 0, true, false⟩,
                ⟨(some 20), .load1 (.t 19), none, 0, true, false⟩,
                ⟨(some 21), .mkrow 3 1 1 [(.int .i64 0)] [(0, (.t 20))], none, 0, true, false⟩,
                ⟨(some 22), .append 3 1 8 (.t 18) (.t 21), none, 0, true, false⟩,
                ⟨(some 4), .mv (.t 22), none, 0, true, false⟩])
              (.skip)))))
        (.reg [⟨(some 23), .bin .add (.t 13) (.c (.int .i64 1)), none, 0, true, false⟩,
          ⟨(some 13), .mv (.t 23), none, 0, true, false⟩])))))))
  (.seq (.seq (.reg [⟨(some 24), .mv (.t 4), none, 0, true, false⟩,
        ⟨(some 25), .lenS (.t 24), none, 0, true, false⟩,
        ⟨(some 26), .bin .eql (.t 25) (.c (.int .i64 0)), none, 0, true, false⟩])
    (.cond (.t 26)
      (.seq (.reg [⟨(some 2), .mv (.c (.int .i64 0)), none, 0, true, false⟩,
          ⟨(some 3), .mv (.c (.bool false)), none, 0, true, false⟩])
      (.ret))
      (.skip)))
  (.seq (.reg [⟨(some 27), .mv (.t 4), none, 0, true, false⟩,
      ⟨(some 28), .call 46 [(.t 27)], none, 0, true, false⟩,
      ⟨(some 2), .mv (.t 28), none, 0, true, false⟩,
      ⟨(some 3), .mv (.c (.bool true)), none, 0, true, false⟩])
  (.ret))))))
theorem k24 : codeOf Try.prog 24 = some (c24, [.tmp 2, .tmp 3], 29, false) := by kernel_rfl

/-- (*regesta/txn.Manager).Test -/
def c25 : XCode :=
  .seq (.reg [⟨(some 4), .mv (.c (.int .i64 0)), none, 0, true, false⟩])
  (.seq (.reg [⟨(some 11), .mv (.t 0), none, 0, true, false⟩,
      ⟨(some 12), .mv (.t 1), none, 0, true, false⟩,
      ⟨(some 13), .call 29 [(.t 11), (.t 12)], none, 0, true, false⟩,
      ⟨(some 10), .mv (.t 13), none, 0, true, false⟩,
      ⟨(some 14), .ext 0 (.t 10), none, 0, true, false⟩,
      ⟨(some 15), .ext 1 (.t 10), none, 0, true, false⟩,
      ⟨(some 5), .mv (.t 14), none, 0, true, false⟩,
      ⟨(some 6), .mv (.t 15), none, 0, true, false⟩])
  (.seq (.seq (.reg [⟨(some 16), .mv (.t 6), none, 0, true, false⟩,
        ⟨(some 17), .bin .neq (.t 16) (.c (.int .i64 0)), none, 0, true, false⟩])
    (.cond (.t 17)
      (.seq (.reg [⟨(some 18), .mv (.t 6), none, 0, true, false⟩,
          ⟨(some 4), .mv (.t 18), none, 0, true, false⟩])
      (.ret))
      (.skip)))
  (.seq (.seq (.reg [⟨(some 19), .mv (.t 5), none, 0, true, false⟩,
        ⟨(some 20), .nilck (.t 19), none, 0, true, false⟩,
        ⟨(some 21), .fieldA 2 (.t 20), none, 0, true, false⟩,
        ⟨(some 22), .load1 (.t 21), none, 0, true, false⟩,
        ⟨(some 23), .range (.t 22), none, 0, true, false⟩])
    (.block 0 (
      .loop (
        .seq (.reg [⟨(some 24), .next (.t 23), none, 0, true, false⟩,
            ⟨(some 25), .ext 0 (.t 24), none, 0, true, false⟩])
        (.seq (.cond (.t 25)
            (.skip)
            (.exit 0))
        (.block 1 (
          .seq (.reg [⟨(some 26), .entry (.t 23), none, 0, true, false⟩,
              ⟨(some 27), .ext 0 (.t 26), none, 0, true, false⟩,
              ⟨(some 7), .mv (.t 27), none, 0, true, false⟩])
          (.seq (.reg [⟨(some 29), .mv (.t 0), none, 0, true, false⟩,
              ⟨(some 30), .nilck (.t 29), none, 0, true, false⟩,
              ⟨(some 31), .fieldA 14 (.t 30), none, 0, true, false⟩,
              ⟨(some 32), .load1 (.t 31), none, 0, true, false⟩,
              ⟨(some 33), .mv (.t 7), none, 0, true, false⟩,
              ⟨(some 34), .lookup false [(.str [])] (.int .i64 0) true (.t 32) (.t 33), none, 0, true, false⟩,
              ⟨(some 28), .mv (.t 34), none, 0, true, false⟩,
              ⟨(some 35), .ext 0 (.t 28), none, 0, true, false⟩,
              ⟨(some 36), .ext 1 (.t 28), none, 0, true, false⟩,
              ⟨(some 8), .mv (.t 35), none, 0, true, false⟩,
              ⟨(some 9), .mv (.t 36), none, 0, true, false⟩])
          (.seq (.reg [⟨(some 37), .mv (.t 9), none, 0, true, false⟩,
              ⟨(some 38), .mv (.t 37), none, 0, true, false⟩,
              ⟨(some 39), .mv (.t 8), (some (38, true)), 0, true, false⟩,
              ⟨(some 40), .mv (.t 5), (some (38, true)), 0, true, false⟩,
              ⟨(some 41), .nilck (.t 40), (some (38, true)), 0, true, false⟩,
              ⟨(some 42), .fieldA 1 (.t 41), (some (38, true)), 0, true, false⟩,
              ⟨(some 43), .load1 (.t 42), (some (38, true)), 0, true, false⟩,
              ⟨(some 44), .bin .gtr (.t 39) (.t 43), (some (38, true)), 0, true, false⟩,
              ⟨(some 45), .pick (.t 38) (.t 44) (.c (.bool false)), none, 0, true, false⟩])
          (.cond (.t 45)
            (.seq (.reg [⟨(some 4), .mv (.c (.int .i64 13)), none, 0, true, false⟩])
            (.ret))
            (.skip)))))))))))
  (.seq (.seq (.reg [⟨(some 46), .mv (.t 0), none, 0, true, false⟩,
        ⟨(some 47), .nilck (.t 46), none, 0, true, false⟩,
        ⟨(some 48), .fieldA 1 (.t 47), none, 0, true, false⟩,
        ⟨(some 49), .load1 (.t 48), none, 0, true, false⟩,
        ⟨(some 50), .bin .eql (.t 49) (.c (.int .i64 1073741824)), none, 0, true, false⟩])
    (.cond (.t 50)
      (.seq (.reg [⟨(some 4), .mv (.c (.int .i64 4)), none, 0, true, false⟩])
      (.ret))
      (.skip)))
  (.seq (.reg [⟨(some 4), .mv (.c (.int .i64 0)), none, 0, true, false⟩])
  (.ret))))))
theorem k25 : codeOf Try.prog 25 = some (c25, [.tmp 4], 51, false) := by kernel_rfl

/-- (*regesta/txn.Manager).High -/
def c26 : XCode :=
  .seq (.reg [⟨(some 2), .mv (.c (.int .i64 0)), none, 0, true, false⟩])
  (.seq (.seq (.reg [⟨(some 3), .mv (.t 0), none, 0, true, false⟩,
        ⟨(some 4), .eqp false (.t 3) (.c .nilp), none, 0, true, false⟩])
    (.cond (.t 4)
      (.seq (.reg [⟨(some 2), .mv (.c (.int .i64 0)), none, 0, true, false⟩])
      (.ret))
      (.skip)))
  (.seq (.reg [⟨(some 5), .mv (.t 0), none, 0, true, false⟩,
      ⟨(some 6), .nilck (.t 5), none, 0, true, false⟩,
      ⟨(some 7), .fieldA 1 (.t 6), none, 0, true, false⟩,
      ⟨(some 8), .load1 (.t 7), none, 0, true, false⟩,
      ⟨(some 2), .mv (.t 8), none, 0, true, false⟩])
  (.ret)))
theorem k26 : codeOf Try.prog 26 = some (c26, [.tmp 2], 9, false) := by kernel_rfl

/-- (*regesta/txn.Manager).Writes -/
def c27 : XCode :=
  .seq (.reg [⟨(some 4), .nilrow 9 1, none, 0, true, false⟩])
  (.seq (.reg [⟨(some 8), .mv (.t 0), none, 0, true, false⟩,
      ⟨(some 9), .mv (.t 1), none, 0, true, false⟩,
      ⟨(some 10), .call 29 [(.t 8), (.t 9)], none, 0, true, false⟩,
      ⟨(some 7), .mv (.t 10), none, 0, true, false⟩,
      ⟨(some 11), .ext 0 (.t 7), none, 0, true, false⟩,
      ⟨(some 12), .ext 1 (.t 7), none, 0, true, false⟩,
      ⟨(some 5), .mv (.t 11), none, 0, true, false⟩,
      ⟨(some 6), .mv (.t 12), none, 0, true, false⟩])
  (.seq (.seq (.reg [⟨(some 13), .mv (.t 6), none, 0, true, false⟩,
        ⟨(some 14), .bin .neq (.t 13) (.c (.int .i64 0)), none, 0, true, false⟩])
    (.cond (.t 14)
      (.seq (.reg [⟨(some 4), .nilrow 9 1, none, 0, true, false⟩])
      (.ret))
      (.skip)))
  (.seq (.reg [⟨(some 15), .mv (.t 5), none, 0, true, false⟩,
      ⟨(some 16), .nilck (.t 15), none, 0, true, false⟩,
      ⟨(some 17), .fieldA 2 (.t 16), none, 0, true, false⟩,
      ⟨(some 18), .load1 (.t 17), none, 0, true, false⟩,
      ⟨(some 19), .call 48 [(.t 18)], none, 0, true, false⟩,
      ⟨(some 20), .call 47 [(.t 19)], none, 0, true, false⟩,
      ⟨(some 4), .mv (.t 20), none, 0, true, false⟩])
  (.ret))))
theorem k27 : codeOf Try.prog 27 = some (c27, [.tmp 4], 21, false) := by kernel_rfl

/-- (*regesta/txn.Manager).one -/
def c28 : XCode :=
  .seq (.reg [⟨(some 4), .mv (.c .nilp), none, 0, true, false⟩,
      ⟨(some 5), .mv (.c (.int .i64 0)), none, 0, true, false⟩])
  (.seq (.block 0 (
      .seq (.reg [⟨(some 7), .mv (.t 0), none, 0, true, false⟩,
          ⟨(some 8), .eqp false (.t 7) (.c .nilp), none, 0, true, false⟩,
          ⟨(some 6), .mv (.t 8), none, 0, true, false⟩])
      (.cond (.t 6)
        (.seq (.reg [⟨(some 4), .mv (.c .nilp), none, 0, true, false⟩,
            ⟨(some 5), .mv (.c (.int .i64 1)), none, 0, true, false⟩])
        (.ret))
        (.seq (.reg [⟨(some 10), .mv (.t 1), none, 0, true, false⟩,
            ⟨(some 11), .bin .lss (.t 10) (.c (.int .i64 0)), none, 0, true, false⟩,
            ⟨(some 12), .mv (.t 11), none, 0, true, false⟩,
            ⟨(some 13), .mv (.t 1), (some (12, false)), 0, true, false⟩,
            ⟨(some 14), .bin .geq (.t 13) (.c (.int .i64 4)), (some (12, false)), 0, true, false⟩,
            ⟨(some 15), .pick (.t 12) (.c (.bool true)) (.t 14), none, 0, true, false⟩,
            ⟨(some 9), .mv (.t 15), none, 0, true, false⟩])
        (.cond (.t 9)
          (.seq (.reg [⟨(some 4), .mv (.c .nilp), none, 0, true, false⟩,
              ⟨(some 5), .mv (.c (.int .i64 2)), none, 0, true, false⟩])
          (.ret))
          (.skip))))))
  (.seq (.reg [⟨(some 16), .mv (.t 0), none, 0, true, false⟩,
      ⟨(some 17), .mv (.t 1), none, 0, true, false⟩,
      ⟨(some 18), .nilck (.t 16), none, 0, true, false⟩,
      ⟨(some 19), .fieldA 2 (.t 18), none, 0, true, false⟩,
      ⟨(some 20), .indexA 3 4 (.t 19) (.t 17), none, 0, true, false⟩,
      ⟨(some 4), .mv (.t 20), none, 0, true, false⟩,
      ⟨(some 5), .mv (.c (.int .i64 0)), none, 0, true, false⟩])
  (.ret)))
theorem k28 : codeOf Try.prog 28 = some (c28, [.tmp 4, .tmp 5], 21, false) := by kernel_rfl

/-- (*regesta/txn.Manager).opened -/
def c29 : XCode :=
  .seq (.reg [⟨(some 4), .mv (.c .nilp), none, 0, true, false⟩,
      ⟨(some 5), .mv (.c (.int .i64 0)), none, 0, true, false⟩])
  (.seq (.reg [⟨(some 9), .mv (.t 0), none, 0, true, false⟩,
      ⟨(some 10), .mv (.t 1), none, 0, true, false⟩,
      ⟨(some 11), .call 28 [(.t 9), (.t 10)], none, 0, true, false⟩,
      ⟨(some 8), .mv (.t 11), none, 0, true, false⟩,
      ⟨(some 12), .ext 0 (.t 8), none, 0, true, false⟩,
      ⟨(some 13), .ext 1 (.t 8), none, 0, true, false⟩,
      ⟨(some 6), .mv (.t 12), none, 0, true, false⟩,
      ⟨(some 7), .mv (.t 13), none, 0, true, false⟩])
  (.seq (.seq (.reg [⟨(some 14), .mv (.t 7), none, 0, true, false⟩,
        ⟨(some 15), .bin .eql (.t 14) (.c (.int .i64 0)), none, 0, true, false⟩,
        ⟨(some 16), .mv (.t 15), none, 0, true, false⟩,
        ⟨(some 17), .mv (.t 6), (some (16, true)), 0, true, false⟩,
        ⟨(some 18), .nilck (.t 17), (some (16, true)), 0, true, false⟩,
        ⟨(some 19), .fieldA 0 (.t 18), (some (16, true)), 0, true, false⟩,
        ⟨(some 20), .load1 (.t 19), (some (16, true)), 0, true, false⟩,
        ⟨(some 21), .not (.t 20), (some (16, true)), 0, true, false⟩,
        ⟨(some 22), .pick (.t 16) (.t 21) (.c (.bool false)), none, 0, true, false⟩])
    (.cond (.t 22)
      (.seq (.reg [⟨(some 4), .mv (.c .nilp), none, 0, true, false⟩,
          ⟨(some 5), .mv (.c (.int .i64 7)), none, 0, true, false⟩])
      (.ret))
      (.skip)))
  (.seq (.reg [⟨(some 23), .mv (.t 6), none, 0, true, false⟩,
      ⟨(some 24), .mv (.t 7), none, 0, true, false⟩,
      ⟨(some 4), .mv (.t 23), none, 0, true, false⟩,
      ⟨(some 5), .mv (.t 24), none, 0, true, false⟩])
  (.ret))))
theorem k29 : codeOf Try.prog 29 = some (c29, [.tmp 4, .tmp 5], 25, false) := by kernel_rfl

/-- regesta/regestaref22.New -/
def c30 : XCode :=
  .seq (.reg [⟨(some 2), .mv (.c .nilp), none, 0, true, false⟩])
  (.seq (.reg [⟨(some 4), .mv (.t 0), none, 0, true, false⟩,
      ⟨(some 5), .max2 (.t 4) (.c (.int .i64 0)), none, 0, true, false⟩,
      ⟨(some 6), .min2 (.t 5) (.c (.int .i64 1073741824)), none, 0, true, false⟩,
      ⟨(some 3), .mv (.t 6), none, 0, true, false⟩])
  (.seq (.reg [⟨(some 7), .mv (.t 3), none, 0, true, false⟩,
      ⟨(some 8), .mv (.t 3), none, 0, true, false⟩,
      ⟨(some 9), .build [(.int .i64 0), (.int .i64 0), (.bool false), (.int .i64 0), .nsl, (.bool false), (.int .i64 0), .nsl, (.bool false), (.int .i64 0), .nsl, (.bool false), (.int .i64 0), .nsl, .nsl] [(0, 1, (.t 7)), (1, 1, (.t 8))], none, 0, true, false⟩,
      ⟨(some 10), .box 74 15 (.t 9), none, 0, true, false⟩,
      ⟨(some 2), .mv (.t 10), none, 0, true, false⟩])
  (.ret)))
theorem k30 : codeOf Try.prog 30 = some (c30, [.tmp 2], 11, false) := by kernel_rfl

/-- (*regesta/regestaref22.Manager).Since -/
def c31 : XCode :=
  .seq (.reg [⟨(some 4), .mv (.c (.int .i64 0)), none, 0, true, false⟩,
      ⟨(some 5), .mv (.c (.bool false)), none, 0, true, false⟩])
  (.seq (.seq (.reg [⟨(some 6), .mv (.t 0), none, 0, true, false⟩,
        ⟨(some 7), .mv (.t 1), none, 0, true, false⟩,
        ⟨(some 8), .call 32 [(.t 6), (.t 7)], none, 0, true, false⟩,
        ⟨(some 9), .not (.t 8), none, 0, true, false⟩])
    (.cond (.t 9)
      (.seq (.reg [⟨(some 4), .mv (.c (.int .i64 0)), none, 0, true, false⟩,
          ⟨(some 5), .mv (.c (.bool false)), none, 0, true, false⟩])
      (.ret))
      (.skip)))
  (.seq (.reg [⟨(some 10), .mv (.t 0), none, 0, true, false⟩,
      ⟨(some 11), .mv (.t 1), none, 0, true, false⟩,
      ⟨(some 12), .nilck (.t 10), none, 0, true, false⟩,
      ⟨(some 13), .fieldA 2 (.t 12), none, 0, true, false⟩,
      ⟨(some 14), .indexA 3 4 (.t 13) (.t 11), none, 0, true, false⟩,
      ⟨(some 15), .fieldA 1 (.t 14), none, 0, true, false⟩,
      ⟨(some 16), .load1 (.t 15), none, 0, true, false⟩,
      ⟨(some 4), .mv (.t 16), none, 0, true, false⟩,
      ⟨(some 5), .mv (.c (.bool true)), none, 0, true, false⟩])
  (.ret)))
theorem k31 : codeOf Try.prog 31 = some (c31, [.tmp 4, .tmp 5], 17, false) := by kernel_rfl

/-- (*regesta/regestaref22.Manager).Open -/
def c32 : XCode :=
  .seq (.reg [⟨(some 4), .mv (.c (.bool false)), none, 0, true, false⟩])
  (.seq (.reg [⟨(some 5), .mv (.t 0), none, 0, true, false⟩,
      ⟨(some 6), .mv (.t 1), none, 0, true, false⟩,
      ⟨(some 7), .call 49 [(.t 5), (.t 6)], none, 0, true, false⟩,
      ⟨(some 8), .bin .eql (.t 7) (.c (.int .i64 0)), none, 0, true, false⟩,
      ⟨(some 4), .mv (.t 8), none, 0, true, false⟩])
  (.ret))
theorem k32 : codeOf Try.prog 32 = some (c32, [.tmp 4], 9, false) := by kernel_rfl

/-- (*regesta/regestaref22.Manager).Test -/
def c33 : XCode :=
  .seq (.reg [⟨(some 4), .mv (.c (.int .i64 0)), none, 0, true, false⟩])
  (.seq (.seq (.reg [⟨(some 8), .mv (.t 0), none, 0, true, false⟩,
        ⟨(some 9), .mv (.t 1), none, 0, true, false⟩,
        ⟨(some 10), .call 49 [(.t 8), (.t 9)], none, 0, true, false⟩,
        ⟨(some 5), .mv (.t 10), none, 0, true, false⟩])
    (.seq (.reg [⟨(some 11), .mv (.t 5), none, 0, true, false⟩,
        ⟨(some 12), .bin .neq (.t 11) (.c (.int .i64 0)), none, 0, true, false⟩])
    (.cond (.t 12)
      (.seq (.reg [⟨(some 13), .mv (.t 5), none, 0, true, false⟩,
          ⟨(some 4), .mv (.t 13), none, 0, true, false⟩])
      (.ret))
      (.skip))))
  (.seq (.reg [⟨(some 14), .mv (.t 0), none, 0, true, false⟩,
      ⟨(some 15), .mv (.t 1), none, 0, true, false⟩,
      ⟨(some 16), .nilck (.t 14), none, 0, true, false⟩,
      ⟨(some 17), .fieldA 2 (.t 16), none, 0, true, false⟩,
      ⟨(some 18), .indexA 3 4 (.t 17) (.t 15), none, 0, true, false⟩,
      ⟨(some 19), .loadn 3 (.t 18), none, 0, true, false⟩,
      ⟨(some 6), .alloc 70 [(.bool false), (.int .i64 0), .nsl], none, 0, true, false⟩,
      ⟨none, .store 3 (.t 6) (.t 19), none, 0, true, false⟩])
  (.seq (.seq (.reg [⟨(some 7), .mv (.c (.int .i64 0)), none, 0, true, false⟩])
    (.block 0 (
      .loop (
        .seq (.seq (.reg [⟨(some 20), .mv (.t 7), none, 0, true, false⟩,
              ⟨(some 21), .fieldA 2 (.t 6), none, 0, true, false⟩,
              ⟨(some 22), .load1 (.t 21), none, 0, true, false⟩,
              ⟨(some 23), .lenS (.t 22), none, 0, true, false⟩,
              ⟨(some 24), .bin .lss (.t 20) (.t 23), none, 0, true, false⟩])
          (.cond (.t 24)
            (.skip)
            (.exit 0)))
        (.seq (.block 1 (
            .seq (.regD [⟨(some 27), .mv (.t 0), none, 0, false, false⟩,
                ⟨(some 28), .fieldA 2 (.t 6), none, 0, false, false⟩,
                ⟨(some 29), .load1 (.t 28), none, 2, false, false⟩,
                ⟨(some 30), .mv (.t 7), none, 0, false, false⟩,
                ⟨(some 31), .indexS 1 (.t 29) (.t 30), none, 14, false, false⟩,
                ⟨(some 32), .load1 (.t 31), none, 30, false, false⟩,
                ⟨(some 33), .call 50 [(.t 27), (.t 32)], none, 63, false, true⟩,
                ⟨(some 34), .fieldA 1 (.t 6), none, 0, false, false⟩,
                ⟨(some 35), .load1 (.t 34), none, 128, false, false⟩,
                ⟨(some 36), .bin .gtr (.t 33) (.t 35), none, 511, false, false⟩])
            (.cond (.t 36)
              (.seq (.reg [⟨(some 4), .mv (.c (.int .i64 13)), none, 0, true, false⟩])
              (.ret))
              (.skip))))
        (.reg [⟨(some 25), .mv (.t 7), none, 0, true, false⟩,
          ⟨(some 26), .bin .add (.t 25) (.c (.int .i64 1)), none, 0, true, false⟩,
          ⟨(some 7), .mv (.t 26), none, 0, true, false⟩]))))))
  (.seq (.seq (.reg [⟨(some 37), .mv (.t 0), none, 0, true, false⟩,
        ⟨(some 38), .nilck (.t 37), none, 0, true, false⟩,
        ⟨(some 39), .fieldA 1 (.t 38), none, 0, true, false⟩,
        ⟨(some 40), .load1 (.t 39), none, 0, true, false⟩,
        ⟨(some 41), .bin .geq (.t 40) (.c (.int .i64 1073741824)), none, 0, true, false⟩])
    (.cond (.t 41)
      (.seq (.reg [⟨(some 4), .mv (.c (.int .i64 4)), none, 0, true, false⟩])
      (.ret))
      (.skip)))
  (.seq (.reg [⟨(some 4), .mv (.c (.int .i64 0)), none, 0, true, false⟩])
  (.ret))))))
theorem k33 : codeOf Try.prog 33 = some (c33, [.tmp 4], 42, false) := by kernel_rfl

/-- regesta/regestaref01.SameTexts -/
def c34 : XCode :=
  .seq (.reg [⟨(some 4), .mv (.c (.bool false)), none, 0, true, false⟩])
  (.seq (.seq (.reg [⟨(some 6), .mv (.t 0), none, 0, true, false⟩,
        ⟨(some 7), .lenS (.t 6), none, 0, true, false⟩,
        ⟨(some 8), .mv (.t 1), none, 0, true, false⟩,
        ⟨(some 9), .lenS (.t 8), none, 0, true, false⟩,
        ⟨(some 10), .bin .neq (.t 7) (.t 9), none, 0, true, false⟩])
    (.cond (.t 10)
      (.seq (.reg [⟨(some 4), .mv (.c (.bool false)), none, 0, true, false⟩])
      (.ret))
      (.skip)))
  (.seq (.seq (.reg [⟨(some 5), .mv (.c (.int .i64 0)), none, 0, true, false⟩])
    (.block 0 (
      .loop (
        .seq (.seq (.reg [⟨(some 11), .mv (.t 5), none, 0, true, false⟩,
              ⟨(some 12), .mv (.t 0), none, 0, true, false⟩,
              ⟨(some 13), .lenS (.t 12), none, 0, true, false⟩,
              ⟨(some 14), .bin .lss (.t 11) (.t 13), none, 0, true, false⟩])
          (.cond (.t 14)
            (.skip)
            (.exit 0)))
        (.seq (.block 1 (
            .seq (.regD [⟨(some 17), .mv (.t 0), none, 0, false, false⟩,
                ⟨(some 18), .mv (.t 5), none, 0, false, false⟩,
                ⟨(some 19), .indexS 1 (.t 17) (.t 18), none, 3, false, false⟩,
                ⟨(some 20), .load1 (.t 19), none, 7, false, false⟩,
                ⟨(some 21), .mv (.t 1), none, 0, false, false⟩,
                ⟨(some 22), .mv (.t 5), none, 0, false, false⟩,
                ⟨(some 23), .indexS 1 (.t 21) (.t 22), none, 48, false, false⟩,
                ⟨(some 24), .load1 (.t 23), none, 112, false, false⟩,
                ⟨(some 25), .bin .neq (.t 20) (.t 24), none, 255, false, false⟩])
            (.cond (.t 25)
              (.seq (.reg [⟨(some 4), .mv (.c (.bool false)), none, 0, true, false⟩])
              (.ret))
              (.skip))))
        (.reg [⟨(some 15), .mv (.t 5), none, 0, true, false⟩,
          ⟨(some 16), .bin .add (.t 15) (.c (.int .i64 1)), none, 0, true, false⟩,
          ⟨(some 5), .mv (.t 16), none, 0, true, false⟩]))))))
  (.seq (.reg [⟨(some 4), .mv (.c (.bool true)), none, 0, true, false⟩])
  (.ret))))
theorem k34 : codeOf Try.prog 34 = some (c34, [.tmp 4], 26, false) := by kernel_rfl

/-- (*regesta/regestaref22.Manager).Writes -/
def c35 : XCode :=
  .seq (.reg [⟨(some 4), .nilrow 9 1, none, 0, true, false⟩])
  (.seq (.seq (.reg [⟨(some 5), .mv (.t 0), none, 0, true, false⟩,
        ⟨(some 6), .mv (.t 1), none, 0, true, false⟩,
        ⟨(some 7), .call 32 [(.t 5), (.t 6)], none, 0, true, false⟩,
        ⟨(some 8), .not (.t 7), none, 0, true, false⟩])
    (.cond (.t 8)
      (.seq (.reg [⟨(some 4), .nilrow 9 1, none, 0, true, false⟩])
      (.ret))
      (.skip)))
  (.seq (.reg [⟨(some 9), .mkrow 9 1 0 [(.str [])] [], none, 0, true, false⟩,
      ⟨(some 10), .mv (.t 0), none, 0, true, false⟩,
      ⟨(some 11), .mv (.t 1), none, 0, true, false⟩,
      ⟨(some 12), .nilck (.t 10), none, 0, true, false⟩,
      ⟨(some 13), .fieldA 2 (.t 12), none, 0, true, false⟩,
      ⟨(some 14), .indexA 3 4 (.t 13) (.t 11), none, 0, true, false⟩,
      ⟨(some 15), .fieldA 2 (.t 14), none, 0, true, false⟩,
      ⟨(some 16), .load1 (.t 15), none, 0, true, false⟩,
      ⟨(some 17), .append 9 1 16 (.t 9) (.t 16), none, 0, true, false⟩,
      ⟨(some 4), .mv (.t 17), none, 0, true, false⟩])
  (.ret)))
theorem k35 : codeOf Try.prog 35 = some (c35, [.tmp 4], 18, false) := by kernel_rfl

/-- (*regesta/regestaref22.Manager).Oldest -/
def c36 : XCode :=
  .seq (.reg [⟨(some 2), .mv (.c (.int .i64 0)), none, 0, true, false⟩,
      ⟨(some 3), .mv (.c (.bool false)), none, 0, true, false⟩])
  (.seq (.reg [⟨(some 4), .mv (.c (.int .i64 0)), none, 0, true, false⟩,
      ⟨(some 5), .mv (.c (.bool false)), none, 0, true, false⟩])
  (.seq (.seq (.reg [⟨(some 6), .mv (.c (.int .i64 0)), none, 0, true, false⟩])
    (.block 0 (
      .loop (
        .seq (.seq (.reg [⟨(some 9), .mv (.t 6), none, 0, true, false⟩,
              ⟨(some 10), .bin .lss (.t 9) (.c (.int .i64 4)), none, 0, true, false⟩])
          (.cond (.t 10)
            (.skip)
            (.exit 0)))
        (.seq (.block 1 (
            .seq (.reg [⟨(some 14), .mv (.t 0), none, 0, true, false⟩,
                ⟨(some 15), .mv (.t 6), none, 0, true, false⟩,
                ⟨(some 16), .call 31 [(.t 14), (.t 15)], none, 0, true, false⟩,
                ⟨(some 13), .mv (.t 16), none, 0, true, false⟩,
                ⟨(some 17), .ext 0 (.t 13), none, 0, true, false⟩,
                ⟨(some 18), .ext 1 (.t 13), none, 0, true, false⟩,
                ⟨(some 7), .mv (.t 17), none, 0, true, false⟩,
                ⟨(some 8), .mv (.t 18), none, 0, true, false⟩])
            (.seq (.reg [⟨(some 19), .mv (.t 8), none, 0, true, false⟩,
                ⟨(some 20), .mv (.t 19), none, 0, true, false⟩,
                ⟨(some 21), .mv (.t 5), (some (20, true)), 0, true, false⟩,
                ⟨(some 22), .not (.t 21), (some (20, true)), 0, true, false⟩,
                ⟨(some 23), .mv (.t 22), (some (20, true)), 0, true, false⟩,
                ⟨(some 24), .mv (.t 7), (some (23, false)), 0, true, false⟩,
                ⟨(some 25), .mv (.t 4), (some (23, false)), 0, true, false⟩,
                ⟨(some 26), .bin .lss (.t 24) (.t 25), (some (23, false)), 0, true, false⟩,
                ⟨(some 27), .pick (.t 23) (.c (.bool true)) (.t 26), (some (20, true)), 0, true, false⟩,
                ⟨(some 28), .pick (.t 20) (.t 27) (.c (.bool false)), none, 0, true, false⟩])
            (.cond (.t 28)
              (.reg [⟨(some 29), .mv (.t 7), none, 0, true, false⟩,
                ⟨(some 4), .mv (.t 29), none, 0, true, false⟩,
                ⟨(some 5), .mv (.c (.bool true)), none, 0, true, false⟩])
              (.skip)))))
        (.reg [⟨(some 11), .mv (.t 6), none, 0, true, false⟩,
          ⟨(some 12), .bin .add (.t 11) (.c (.int .i64 1)), none, 0, true, false⟩,
          ⟨(some 6), .mv (.t 12), none, 0, true, false⟩]))))))
  (.seq (.reg [⟨(some 30), .mv (.t 4), none, 0, true, false⟩,
      ⟨(some 31), .mv (.t 5), none, 0, true, false⟩,
      ⟨(some 2), .mv (.t 30), none, 0, true, false⟩,
      ⟨(some 3), .mv (.t 31), none, 0, true, false⟩])
  (.ret))))
theorem k36 : codeOf Try.prog 36 = some (c36, [.tmp 2, .tmp 3], 32, false) := by kernel_rfl

/-- (*regesta/regestaref22.Manager).Clock -/
def c37 : XCode :=
  .seq (.reg [⟨(some 2), .mv (.c (.int .i64 0)), none, 0, true, false⟩])
  (.seq (.seq (.reg [⟨(some 3), .mv (.t 0), none, 0, true, false⟩,
        ⟨(some 4), .eqp false (.t 3) (.c .nilp), none, 0, true, false⟩])
    (.cond (.t 4)
      (.seq (.reg [⟨(some 2), .mv (.c (.int .i64 0)), none, 0, true, false⟩])
      (.ret))
      (.skip)))
  (.seq (.reg [⟨(some 5), .mv (.t 0), none, 0, true, false⟩,
      ⟨(some 6), .nilck (.t 5), none, 0, true, false⟩,
      ⟨(some 7), .fieldA 0 (.t 6), none, 0, true, false⟩,
      ⟨(some 8), .load1 (.t 7), none, 0, true, false⟩,
      ⟨(some 2), .mv (.t 8), none, 0, true, false⟩])
  (.ret)))
theorem k37 : codeOf Try.prog 37 = some (c37, [.tmp 2], 9, false) := by kernel_rfl

/-- (*regesta/regestaref22.Manager).High -/
def c38 : XCode :=
  .seq (.reg [⟨(some 2), .mv (.c (.int .i64 0)), none, 0, true, false⟩])
  (.seq (.seq (.reg [⟨(some 3), .mv (.t 0), none, 0, true, false⟩,
        ⟨(some 4), .eqp false (.t 3) (.c .nilp), none, 0, true, false⟩])
    (.cond (.t 4)
      (.seq (.reg [⟨(some 2), .mv (.c (.int .i64 0)), none, 0, true, false⟩])
      (.ret))
      (.skip)))
  (.seq (.reg [⟨(some 5), .mv (.t 0), none, 0, true, false⟩,
      ⟨(some 6), .nilck (.t 5), none, 0, true, false⟩,
      ⟨(some 7), .fieldA 1 (.t 6), none, 0, true, false⟩,
      ⟨(some 8), .load1 (.t 7), none, 0, true, false⟩,
      ⟨(some 2), .mv (.t 8), none, 0, true, false⟩])
  (.ret)))
theorem k38 : codeOf Try.prog 38 = some (c38, [.tmp 2], 9, false) := by kernel_rfl

/-- (*regesta/regestaref22.Manager).Begin -/
def c41 : XCode :=
  .seq (.reg [⟨(some 4), .mv (.c (.int .i64 0)), none, 0, true, false⟩,
      ⟨(some 5), .mv (.c (.int .i64 0)), none, 0, true, false⟩])
  (.seq (.block 0 (
      .seq (.reg [⟨(some 7), .mv (.t 0), none, 0, true, false⟩,
          ⟨(some 8), .eqp false (.t 7) (.c .nilp), none, 0, true, false⟩,
          ⟨(some 6), .mv (.t 8), none, 0, true, false⟩])
      (.cond (.t 6)
        (.seq (.reg [⟨(some 4), .mv (.c (.int .i64 0)), none, 0, true, false⟩,
            ⟨(some 5), .mv (.c (.int .i64 1)), none, 0, true, false⟩])
        (.ret))
        (.seq (.reg [⟨(some 10), .mv (.t 1), none, 0, true, false⟩,
            ⟨(some 11), .call 52 [(.t 10)], none, 0, true, false⟩,
            ⟨(some 12), .not (.t 11), none, 0, true, false⟩,
            ⟨(some 9), .mv (.t 12), none, 0, true, false⟩])
        (.cond (.t 9)
          (.seq (.reg [⟨(some 4), .mv (.c (.int .i64 0)), none, 0, true, false⟩,
              ⟨(some 5), .mv (.c (.int .i64 2)), none, 0, true, false⟩])
          (.ret))
          (.seq (.reg [⟨(some 14), .mv (.t 0), none, 0, true, false⟩,
              ⟨(some 15), .mv (.t 1), none, 0, true, false⟩,
              ⟨(some 16), .nilck (.t 14), none, 0, true, false⟩,
              ⟨(some 17), .fieldA 2 (.t 16), none, 0, true, false⟩,
              ⟨(some 18), .indexA 3 4 (.t 17) (.t 15), none, 0, true, false⟩,
              ⟨(some 19), .fieldA 0 (.t 18), none, 0, true, false⟩,
              ⟨(some 20), .load1 (.t 19), none, 0, true, false⟩,
              ⟨(some 13), .mv (.t 20), none, 0, true, false⟩])
          (.cond (.t 13)
            (.seq (.reg [⟨(some 4), .mv (.c (.int .i64 0)), none, 0, true, false⟩,
                ⟨(some 5), .mv (.c (.int .i64 7)), none, 0, true, false⟩])
            (.ret))
            (.skip))))))))
  (.seq (.regD [⟨(some 21), .mv (.t 0), none, 0, false, false⟩,
      ⟨(some 22), .mv (.t 0), none, 0, false, false⟩,
      ⟨(some 23), .nilck (.t 22), none, 2, false, false⟩,
      ⟨(some 24), .fieldA 0 (.t 23), none, 6, false, false⟩,
      ⟨(some 25), .load1 (.t 24), none, 14, false, false⟩,
      ⟨(some 26), .mv (.t 0), none, 0, false, false⟩,
      ⟨(some 27), .nilck (.t 26), none, 32, false, false⟩,
      ⟨(some 28), .fieldA 1 (.t 27), none, 96, false, false⟩,
      ⟨(some 29), .load1 (.t 28), none, 224, false, false⟩,
      ⟨(some 30), .max2 (.t 25) (.t 29), none, 510, false, false⟩,
      ⟨(some 31), .nilck (.t 21), none, 1023, false, false⟩,
      ⟨(some 32), .fieldA 1 (.t 31), none, 2047, false, false⟩,
      ⟨none, .store 1 (.t 32) (.t 30), none, 4095, true, false⟩])
  (.seq (.regD [⟨(some 33), .mv (.t 0), none, 0, false, false⟩,
      ⟨(some 34), .mv (.t 1), none, 0, false, false⟩,
      ⟨(some 35), .mv (.t 0), none, 0, false, false⟩,
      ⟨(some 36), .nilck (.t 35), none, 4, false, false⟩,
      ⟨(some 37), .fieldA 1 (.t 36), none, 12, false, false⟩,
      ⟨(some 38), .load1 (.t 37), none, 28, true, false⟩,
      ⟨(some 39), .build [(.bool false), (.int .i64 0), .nsl] [(0, 1, (.c (.bool true))), (1, 1, (.t 38))], none, 60, false, false⟩,
      ⟨(some 40), .nilck (.t 33), none, 1, false, false⟩,
      ⟨(some 41), .fieldA 2 (.t 40), none, 129, false, false⟩,
      ⟨(some 42), .indexA 3 4 (.t 41) (.t 34), none, 511, true, false⟩,
      ⟨none, .store 3 (.t 42) (.t 39), none, 1023, true, false⟩])
  (.seq (.reg [⟨(some 43), .mv (.t 0), none, 0, true, false⟩,
      ⟨(some 44), .nilck (.t 43), none, 0, true, false⟩,
      ⟨(some 45), .fieldA 1 (.t 44), none, 0, true, false⟩,
      ⟨(some 46), .load1 (.t 45), none, 0, true, false⟩,
      ⟨(some 4), .mv (.t 46), none, 0, true, false⟩,
      ⟨(some 5), .mv (.c (.int .i64 0)), none, 0, true, false⟩])
  (.ret)))))
theorem k41 : codeOf Try.prog 41 = some (c41, [.tmp 4, .tmp 5], 47, false) := by kernel_rfl

/-- (*regesta/regestaref22.Manager).Write -/
def c42 : XCode :=
  .seq (.reg [⟨(some 6), .mv (.c (.int .i64 0)), none, 0, true, false⟩])
  (.seq (.seq (.reg [⟨(some 8), .mv (.t 0), none, 0, true, false⟩,
        ⟨(some 9), .mv (.t 1), none, 0, true, false⟩,
        ⟨(some 10), .call 49 [(.t 8), (.t 9)], none, 0, true, false⟩,
        ⟨(some 7), .mv (.t 10), none, 0, true, false⟩])
    (.seq (.reg [⟨(some 11), .mv (.t 7), none, 0, true, false⟩,
        ⟨(some 12), .bin .neq (.t 11) (.c (.int .i64 0)), none, 0, true, false⟩])
    (.cond (.t 12)
      (.seq (.reg [⟨(some 13), .mv (.t 7), none, 0, true, false⟩,
          ⟨(some 6), .mv (.t 13), none, 0, true, false⟩])
      (.ret))
      (.skip))))
  (.seq (.regD [⟨(some 14), .mv (.t 0), none, 0, false, false⟩,
      ⟨(some 15), .mv (.t 1), none, 0, false, false⟩,
      ⟨(some 16), .mv (.t 0), none, 0, false, false⟩,
      ⟨(some 17), .mv (.t 1), none, 0, false, false⟩,
      ⟨(some 18), .nilck (.t 16), none, 4, false, false⟩,
      ⟨(some 19), .fieldA 2 (.t 18), none, 20, false, false⟩,
      ⟨(some 20), .indexA 3 4 (.t 19) (.t 17), none, 60, true, false⟩,
      ⟨(some 21), .fieldA 2 (.t 20), none, 124, false, false⟩,
      ⟨(some 22), .load1 (.t 21), none, 252, true, false⟩,
      ⟨(some 23), .mv (.t 2), none, 0, false, false⟩,
      ⟨(some 24), .call 53 [(.t 22), (.t 23)], none, 1020, true, false⟩,
      ⟨(some 25), .nilck (.t 14), none, 1, false, false⟩,
      ⟨(some 26), .fieldA 2 (.t 25), none, 2049, false, false⟩,
      ⟨(some 27), .indexA 3 4 (.t 26) (.t 15), none, 8191, true, false⟩,
      ⟨(some 28), .fieldA 2 (.t 27), none, 16383, false, false⟩,
      ⟨none, .store 1 (.t 28) (.t 24), none, 32767, true, false⟩])
  (.seq (.reg [⟨(some 6), .mv (.c (.int .i64 0)), none, 0, true, false⟩])
  (.ret))))
theorem k42 : codeOf Try.prog 42 = some (c42, [.tmp 6], 29, false) := by kernel_rfl

/-- (*regesta/regestaref22.Manager).Commit -/
def c43 : XCode :=
  .seq (.reg [⟨(some 4), .mv (.c (.int .i64 0)), none, 0, true, false⟩,
      ⟨(some 5), .mv (.c (.int .i64 0)), none, 0, true, false⟩])
  (.seq (.seq (.reg [⟨(some 8), .mv (.t 0), none, 0, true, false⟩,
        ⟨(some 9), .mv (.t 1), none, 0, true, false⟩,
        ⟨(some 10), .call 33 [(.t 8), (.t 9)], none, 0, true, false⟩,
        ⟨(some 6), .mv (.t 10), none, 0, true, false⟩])
    (.seq (.reg [⟨(some 11), .mv (.t 6), none, 0, true, false⟩,
        ⟨(some 12), .bin .neq (.t 11) (.c (.int .i64 0)), none, 0, true, false⟩])
    (.cond (.t 12)
      (.seq (.reg [⟨(some 13), .mv (.t 6), none, 0, true, false⟩,
          ⟨(some 4), .mv (.c (.int .i64 0)), none, 0, true, false⟩,
          ⟨(some 5), .mv (.t 13), none, 0, true, false⟩])
      (.ret))
      (.skip))))
  (.seq (.regD [⟨(some 14), .mv (.t 0), none, 0, false, false⟩,
      ⟨(some 15), .mv (.t 0), none, 0, false, false⟩,
      ⟨(some 16), .nilck (.t 15), none, 2, false, false⟩,
      ⟨(some 17), .fieldA 0 (.t 16), none, 6, false, false⟩,
      ⟨(some 18), .load1 (.t 17), none, 14, false, false⟩,
      ⟨(some 19), .mv (.t 0), none, 0, false, false⟩,
      ⟨(some 20), .nilck (.t 19), none, 32, false, false⟩,
      ⟨(some 21), .fieldA 1 (.t 20), none, 96, false, false⟩,
      ⟨(some 22), .load1 (.t 21), none, 224, false, false⟩,
      ⟨(some 23), .bin .add (.t 22) (.c (.int .i64 1)), none, 480, false, false⟩,
      ⟨(some 24), .max2 (.t 18) (.t 23), none, 1022, false, false⟩,
      ⟨(some 25), .nilck (.t 14), none, 2047, false, false⟩,
      ⟨(some 26), .fieldA 1 (.t 25), none, 4095, false, false⟩,
      ⟨none, .store 1 (.t 26) (.t 24), none, 8191, true, false⟩])
  (.seq (.seq (.reg [⟨(some 7), .mv (.c (.int .i64 0)), none, 0, true, false⟩])
    (.block 0 (
      .loop (
        .seq (.seq (.reg [⟨(some 27), .mv (.t 7), none, 0, true, false⟩,
              ⟨(some 28), .mv (.t 0), none, 0, true, false⟩,
              ⟨(some 29), .mv (.t 1), none, 0, true, false⟩,
              ⟨(some 30), .nilck (.t 28), none, 0, true, false⟩,
              ⟨(some 31), .fieldA 2 (.t 30), none, 0, true, false⟩,
              ⟨(some 32), .indexA 3 4 (.t 31) (.t 29), none, 0, true, false⟩,
              ⟨(some 33), .fieldA 2 (.t 32), none, 0, true, false⟩,
              ⟨(some 34), .load1 (.t 33), none, 0, true, false⟩,
              ⟨(some 35), .lenS (.t 34), none, 0, true, false⟩,
              ⟨(some 36), .bin .lss (.t 27) (.t 35), none, 0, true, false⟩])
          (.cond (.t 36)
            (.skip)
            (.exit 0)))
        (.seq (.block 1 (
            .regD [⟨(some 39), .mv (.t 0), none, 0, false, false⟩,
              ⟨(some 40), .mkrow 85 2 0 [(.str []), (.int .i64 0)] [], none, 0, false, false⟩,
              ⟨(some 41), .mv (.t 0), none, 0, false, false⟩,
              ⟨(some 42), .nilck (.t 41), none, 4, false, false⟩,
              ⟨(some 43), .fieldA 14 (.t 42), none, 12, false, false⟩,
              ⟨(some 44), .load1 (.t 43), none, 28, false, false⟩,
              ⟨(some 45), .appendL 85 2 24 (.t 40) (.t 44), none, 62, false, false⟩,
              ⟨(some 46), .mv (.t 0), none, 0, false, false⟩,
              ⟨(some 47), .mv (.t 1), none, 0, false, false⟩,
              ⟨(some 48), .nilck (.t 46), none, 128, false, false⟩,
              ⟨(some 49), .fieldA 2 (.t 48), none, 640, false, false⟩,
              ⟨(some 50), .indexA 3 4 (.t 49) (.t 47), none, 1920, false, false⟩,
              ⟨(some 51), .fieldA 2 (.t 50), none, 3968, false, false⟩,
              ⟨(some 52), .load1 (.t 51), none, 8064, false, false⟩,
              ⟨(some 53), .mv (.t 7), none, 0, false, false⟩,
              ⟨(some 54), .indexS 1 (.t 52) (.t 53), none, 32640, false, false⟩,
              ⟨(some 55), .load1 (.t 54), none, 65408, false, false⟩,
              ⟨(some 56), .mv (.t 0), none, 0, false, false⟩,
              ⟨(some 57), .nilck (.t 56), none, 131072, false, false⟩,
              ⟨(some 58), .fieldA 1 (.t 57), none, 393216, false, false⟩,
              ⟨(some 59), .load1 (.t 58), none, 917504, false, false⟩,
              ⟨(some 60), .build [(.str []), (.int .i64 0)] [(0, 1, (.t 55)), (1, 1, (.t 59))], none, 2097024, false, false⟩,
              ⟨(some 61), .mkrow 85 2 1 [(.str []), (.int .i64 0)] [(0, (.t 60))], none, 4194176, false, false⟩,
              ⟨(some 62), .append 85 2 24 (.t 45) (.t 61), none, 8388606, true, false⟩,
              ⟨(some 63), .nilck (.t 39), none, 16777215, false, false⟩,
              ⟨(some 64), .fieldA 14 (.t 63), none, 33554431, false, false⟩,
              ⟨none, .store 1 (.t 64) (.t 62), none, 67108863, true, false⟩]))
        (.reg [⟨(some 37), .mv (.t 7), none, 0, true, false⟩,
          ⟨(some 38), .bin .add (.t 37) (.c (.int .i64 1)), none, 0, true, false⟩,
          ⟨(some 7), .mv (.t 38), none, 0, true, false⟩]))))))
  (.seq (.reg [⟨(some 65), .mv (.t 0), none, 0, true, false⟩,
      ⟨(some 66), .mv (.t 1), none, 0, true, false⟩,
      ⟨(some 67), .build [(.bool false), (.int .i64 0), .nsl] [], none, 0, true, false⟩,
      ⟨(some 68), .nilck (.t 65), none, 0, true, false⟩,
      ⟨(some 69), .fieldA 2 (.t 68), none, 0, true, false⟩,
      ⟨(some 70), .indexA 3 4 (.t 69) (.t 66), none, 0, true, false⟩,
      ⟨none, .store 3 (.t 70) (.t 67), none, 0, true, false⟩])
  (.seq (.reg [⟨(some 71), .mv (.t 0), none, 0, true, false⟩,
      ⟨(some 72), .nilck (.t 71), none, 0, true, false⟩,
      ⟨(some 73), .fieldA 1 (.t 72), none, 0, true, false⟩,
      ⟨(some 74), .load1 (.t 73), none, 0, true, false⟩,
      ⟨(some 4), .mv (.t 74), none, 0, true, false⟩,
      ⟨(some 5), .mv (.c (.int .i64 0)), none, 0, true, false⟩])
  (.ret))))))
theorem k43 : codeOf Try.prog 43 = some (c43, [.tmp 4, .tmp 5], 75, false) := by kernel_rfl

/-- (*regesta/regestaref22.Manager).End -/
def c44 : XCode :=
  .seq (.reg [⟨(some 4), .mv (.c (.int .i64 0)), none, 0, true, false⟩])
  (.seq (.seq (.reg [⟨(some 6), .mv (.t 0), none, 0, true, false⟩,
        ⟨(some 7), .mv (.t 1), none, 0, true, false⟩,
        ⟨(some 8), .call 49 [(.t 6), (.t 7)], none, 0, true, false⟩,
        ⟨(some 5), .mv (.t 8), none, 0, true, false⟩])
    (.seq (.reg [⟨(some 9), .mv (.t 5), none, 0, true, false⟩,
        ⟨(some 10), .bin .neq (.t 9) (.c (.int .i64 0)), none, 0, true, false⟩])
    (.cond (.t 10)
      (.seq (.reg [⟨(some 11), .mv (.t 5), none, 0, true, false⟩,
          ⟨(some 4), .mv (.t 11), none, 0, true, false⟩])
      (.ret))
      (.skip))))
  (.seq (.reg [⟨(some 12), .mv (.t 0), none, 0, true, false⟩,
      ⟨(some 13), .mv (.t 1), none, 0, true, false⟩,
      ⟨(some 14), .build [(.bool false), (.int .i64 0), .nsl] [], none, 0, true, false⟩,
      ⟨(some 15), .nilck (.t 12), none, 0, true, false⟩,
      ⟨(some 16), .fieldA 2 (.t 15), none, 0, true, false⟩,
      ⟨(some 17), .indexA 3 4 (.t 16) (.t 13), none, 0, true, false⟩,
      ⟨none, .store 3 (.t 17) (.t 14), none, 0, true, false⟩])
  (.seq (.reg [⟨(some 4), .mv (.c (.int .i64 0)), none, 0, true, false⟩])
  (.ret))))
theorem k44 : codeOf Try.prog 44 = some (c44, [.tmp 4], 18, false) := by kernel_rfl

/-- (*regesta/regestaref22.Manager).Tick -/
def c45 : XCode :=
  .seq (.reg [⟨(some 4), .mv (.t 0), none, 0, true, false⟩,
      ⟨(some 5), .eqp true (.t 4) (.c .nilp), none, 0, true, false⟩,
      ⟨(some 6), .mv (.t 5), none, 0, true, false⟩,
      ⟨(some 7), .mv (.t 1), (some (6, true)), 0, true, false⟩,
      ⟨(some 8), .bin .gtr (.t 7) (.c (.int .i64 0)), (some (6, true)), 0, true, false⟩,
      ⟨(some 9), .pick (.t 6) (.t 8) (.c (.bool false)), none, 0, true, false⟩])
  (.cond (.t 9)
    (.regD [⟨(some 10), .mv (.t 0), none, 0, false, false⟩,
      ⟨(some 11), .nilck (.t 10), none, 1, false, false⟩,
      ⟨(some 12), .fieldA 0 (.t 11), none, 3, false, false⟩,
      ⟨(some 13), .load1 (.t 12), none, 7, false, false⟩,
      ⟨(some 14), .mv (.t 1), none, 0, false, false⟩,
      ⟨(some 15), .mv (.t 0), none, 0, false, false⟩,
      ⟨(some 16), .nilck (.t 15), none, 32, false, false⟩,
      ⟨(some 17), .fieldA 0 (.t 16), none, 96, false, false⟩,
      ⟨(some 18), .load1 (.t 17), none, 224, false, false⟩,
      ⟨(some 19), .bin .sub (.c (.int .i64 1073741824)) (.t 18), none, 480, false, false⟩,
      ⟨(some 20), .min2 (.t 14) (.t 19), none, 1008, false, false⟩,
      ⟨(some 21), .bin .add (.t 13) (.t 20), none, 2047, false, false⟩,
      ⟨(some 22), .nilck (.t 10), none, 4095, false, false⟩,
      ⟨(some 23), .fieldA 0 (.t 22), none, 8191, false, false⟩,
      ⟨none, .store 1 (.t 23) (.t 21), none, 16383, true, false⟩])
    (.skip))
theorem k45 : codeOf Try.prog 45 = some (c45, [], 24, false) := by kernel_rfl

/-- slices.Min[[]int,int] -/
def c46 : XCode :=
  .seq (.reg [⟨(some 2), .mv (.c (.int .i64 0)), none, 0, true, false⟩])
  (.seq (.seq (.reg [⟨(some 5), .mv (.t 0), none, 0, true, false⟩,
        ⟨(some 6), .lenS (.t 5), none, 0, true, false⟩,
        ⟨(some 7), .bin .lss (.t 6) (.c (.int .i64 1)), none, 0, true, false⟩])
    (.cond (.t 7)
      (.reg [⟨(some 8), .never, none, 0, true, false⟩,
        ⟨none, .never, none, 0, true, false⟩])
      (.skip)))
  (.seq (.reg [⟨(some 9), .mv (.t 0), none, 0, true, false⟩,
      ⟨(some 10), .indexS 1 (.t 9) (.c (.int .i64 0)), none, 0, true, false⟩,
      ⟨(some 11), .load1 (.t 10), none, 0, true, false⟩,
      ⟨(some 3), .mv (.t 11), none, 0, true, false⟩])
  (.seq (.seq (.reg [⟨(some 4), .mv (.c (.int .i64 1)), none, 0, true, false⟩])
    (.block 0 (
      .loop (
        .seq (.seq (.reg [⟨(some 12), .mv (.t 4), none, 0, true, false⟩,
              ⟨(some 13), .mv (.t 0), none, 0, true, false⟩,
              ⟨(some 14), .lenS (.t 13), none, 0, true, false⟩,
              ⟨(some 15), .bin .lss (.t 12) (.t 14), none, 0, true, false⟩])
          (.cond (.t 15)
            (.skip)
            (.exit 0)))
        (.seq (.block 1 (
            .reg [⟨(some 18), .mv (.t 3), none, 0, true, false⟩,
              ⟨(some 19), .mv (.t 0), none, 0, true, false⟩,
              ⟨(some 20), .mv (.t 4), none, 0, true, false⟩,
              ⟨(some 21), .indexS 1 (.t 19) (.t 20), none, 0, true, false⟩,
              ⟨(some 22), .load1 (.t 21), none, 0, true, false⟩,
              ⟨(some 23), .min2 (.t 18) (.t 22), none, 0, true, false⟩,
              ⟨(some 3), .mv (.t 23), none, 0, true, false⟩]))
        (.reg [⟨(some 16), .mv (.t 4), none, 0, true, false⟩,
          ⟨(some 17), .bin .add (.t 16) (.c (.int .i64 1)), none, 0, true, false⟩,
          ⟨(some 4), .mv (.t 17), none, 0, true, false⟩]))))))
  (.seq (.reg [⟨(some 24), .mv (.t 3), none, 0, true, false⟩,
      ⟨(some 2), .mv (.t 24), none, 0, true, false⟩])
  (.ret)))))
theorem k46 : codeOf Try.prog 46 = some (c46, [.tmp 2], 25, false) := by kernel_rfl

/-- slices.Sorted[string] -/
def c47 : XCode :=
  .seq (.reg [⟨(some 2), .nilrow 9 1, none, 0, true, false⟩])
  (.seq (.reg [⟨(some 4), .mv (.t 0), none, 0, true, false⟩,
      ⟨(some 5), .call 54 [(.t 4)], none, 0, true, false⟩,
      ⟨(some 3), .mv (.t 5), none, 0, true, false⟩])
  (.seq (.reg [⟨(some 6), .mv (.t 3), none, 0, true, false⟩,
      ⟨(some 7), .call 55 [(.t 6)], none, 0, true, false⟩])
  (.seq (.reg [⟨(some 8), .mv (.t 3), none, 0, true, false⟩,
      ⟨(some 2), .mv (.t 8), none, 0, true, false⟩])
  (.ret))))
theorem k47 : codeOf Try.prog 47 = some (c47, [.tmp 2], 9, false) := by kernel_rfl

/-- maps.Keys[map[string]bool,string,bool] -/
def c48 : XCode :=
  .seq (.reg [⟨(some 1), .box 56 1 (.t 0), none, 0, true, false⟩,
      ⟨(some 2), .mv (.c .nilf), none, 0, true, false⟩])
  (.seq (.reg [⟨(some 3), .mkfn 56 [(.t 1)], none, 0, true, false⟩,
      ⟨(some 2), .mv (.t 3), none, 0, true, false⟩])
  (.ret))
theorem k48 : codeOf Try.prog 48 = some (c48, [.tmp 2], 4, false) := by kernel_rfl

/-- (*regesta/regestaref22.Manager).look -/
def c49 : XCode :=
  .seq (.reg [⟨(some 4), .mv (.c (.int .i64 0)), none, 0, true, false⟩])
  (.seq (.block 0 (
      .seq (.reg [⟨(some 6), .mv (.t 0), none, 0, true, false⟩,
          ⟨(some 7), .eqp false (.t 6) (.c .nilp), none, 0, true, false⟩,
          ⟨(some 5), .mv (.t 7), none, 0, true, false⟩])
      (.cond (.t 5)
        (.seq (.reg [⟨(some 4), .mv (.c (.int .i64 1)), none, 0, true, false⟩])
        (.ret))
        (.seq (.reg [⟨(some 9), .mv (.t 1), none, 0, true, false⟩,
            ⟨(some 10), .call 52 [(.t 9)], none, 0, true, false⟩,
            ⟨(some 11), .not (.t 10), none, 0, true, false⟩,
            ⟨(some 8), .mv (.t 11), none, 0, true, false⟩])
        (.cond (.t 8)
          (.seq (.reg [⟨(some 4), .mv (.c (.int .i64 2)), none, 0, true, false⟩])
          (.ret))
          (.seq (.reg [⟨(some 13), .mv (.t 0), none, 0, true, false⟩,
              ⟨(some 14), .mv (.t 1), none, 0, true, false⟩,
              ⟨(some 15), .nilck (.t 13), none, 0, true, false⟩,
              ⟨(some 16), .fieldA 2 (.t 15), none, 0, true, false⟩,
              ⟨(some 17), .indexA 3 4 (.t 16) (.t 14), none, 0, true, false⟩,
              ⟨(some 18), .fieldA 0 (.t 17), none, 0, true, false⟩,
              ⟨(some 19), .load1 (.t 18), none, 0, true, false⟩,
              ⟨(some 20), .not (.t 19), none, 0, true, false⟩,
              ⟨(some 12), .mv (.t 20), none, 0, true, false⟩])
          (.cond (.t 12)
            (.seq (.reg [⟨(some 4), .mv (.c (.int .i64 7)), none, 0, true, false⟩])
            (.ret))
            (.skip))))))))
  (.seq (.reg [⟨(some 4), .mv (.c (.int .i64 0)), none, 0, true, false⟩])
  (.ret)))
theorem k49 : codeOf Try.prog 49 = some (c49, [.tmp 4], 21, false) := by kernel_rfl

/-- (*regesta/regestaref22.Manager).last -/
def c50 : XCode :=
  .seq (.reg [⟨(some 4), .mv (.c (.int .i64 0)), none, 0, true, false⟩])
  (.seq (.reg [⟨(some 5), .mv (.c (.int .i64 (-1))), none, 0, true, false⟩])
  (.seq (.seq (.reg [⟨(some 6), .mv (.c (.int .i64 0)), none, 0, true, false⟩])
    (.block 0 (
      .loop (
        .seq (.seq (.reg [⟨(some 7), .mv (.t 6), none, 0, true, false⟩,
              ⟨(some 8), .mv (.t 0), none, 0, true, false⟩,
              ⟨(some 9), .nilck (.t 8), none, 0, true, false⟩,
              ⟨(some 10), .fieldA 14 (.t 9), none, 0, true, false⟩,
              ⟨(some 11), .load1 (.t 10), none, 0, true, false⟩,
              ⟨(some 12), .lenS (.t 11), none, 0, true, false⟩,
              ⟨(some 13), .bin .lss (.t 7) (.t 12), none, 0, true, false⟩])
          (.cond (.t 13)
            (.skip)
            (.exit 0)))
        (.seq (.block 1 (
            .seq (.reg [⟨(some 16), .mv (.t 0), none, 0, true, false⟩,
                ⟨(some 17), .nilck (.t 16), none, 0, true, false⟩,
                ⟨(some 18), .fieldA 14 (.t 17), none, 0, true, false⟩,
                ⟨(some 19), .load1 (.t 18), none, 0, true, false⟩,
                ⟨(some 20), .mv (.t 6), none, 0, true, false⟩,
                ⟨(some 21), .indexS 2 (.t 19) (.t 20), none, 0, true, false⟩,
                ⟨(some 22), .fieldA 0 (.t 21), none, 0, true, false⟩,
                ⟨(some 23), .load1 (.t 22), none, 0, true, false⟩,
                ⟨(some 24), .mv (.t 1), none, 0, true, false⟩,
                ⟨(some 25), .bin .eql (.t 23) (.t 24), none, 0, true, false⟩])
            (.cond (.t 25)
              (.reg [⟨(some 26), .mv (.t 0), none, 0, true, false⟩,
                ⟨(some 27), .nilck (.t 26), none, 0, true, false⟩,
                ⟨(some 28), .fieldA 14 (.t 27), none, 0, true, false⟩,
                ⟨(some 29), .load1 (.t 28), none, 0, true, false⟩,
                ⟨(some 30), .mv (.t 6), none, 0, true, false⟩,
                ⟨(some 31), .indexS 2 (.t 29) (.t 30), none, 0, true, false⟩,
                ⟨(some 32), .fieldA 1 (.t 31), none, 0, true, false⟩,
                ⟨(some 33), .load1 (.t 32), none, 0, true, false⟩,
                ⟨(some 5), .mv (.t 33), none, 0, true, false⟩])
              (.skip))))
        (.reg [⟨(some 14), .mv (.t 6), none, 0, true, false⟩,
          ⟨(some 15), .bin .add (.t 14) (.c (.int .i64 1)), none, 0, true, false⟩,
          ⟨(some 6), .mv (.t 15), none, 0, true, false⟩]))))))
  (.seq (.reg [⟨(some 34), .mv (.t 5), none, 0, true, false⟩,
      ⟨(some 4), .mv (.t 34), none, 0, true, false⟩])
  (.ret))))
theorem k50 : codeOf Try.prog 50 = some (c50, [.tmp 4], 35, false) := by kernel_rfl

/-- regesta/regestaref22.is -/
def c52 : XCode :=
  .seq (.reg [⟨(some 2), .mv (.c (.bool false)), none, 0, true, false⟩])
  (.seq (.reg [⟨(some 3), .mv (.t 0), none, 0, true, false⟩,
      ⟨(some 4), .bin .geq (.t 3) (.c (.int .i64 0)), none, 0, true, false⟩,
      ⟨(some 5), .mv (.t 4), none, 0, true, false⟩,
      ⟨(some 6), .mv (.t 0), (some (5, true)), 0, true, false⟩,
      ⟨(some 7), .bin .lss (.t 6) (.c (.int .i64 4)), (some (5, true)), 0, true, false⟩,
      ⟨(some 8), .pick (.t 5) (.t 7) (.c (.bool false)), none, 0, true, false⟩,
      ⟨(some 2), .mv (.t 8), none, 0, true, false⟩])
  (.ret))
theorem k52 : codeOf Try.prog 52 = some (c52, [.tmp 2], 9, false) := by kernel_rfl

/-- regesta/regestaref16.Insert2 -/
def c53 : XCode :=
  .seq (.reg [⟨(some 4), .nilrow 9 1, none, 0, true, false⟩])
  (.seq (.reg [⟨(some 5), .mv (.c (.int .i64 0)), none, 0, true, false⟩])
  (.seq (.block 0 (
      .loop (
        .seq (.seq (.reg [⟨(some 6), .mv (.t 5), none, 0, true, false⟩,
              ⟨(some 7), .mv (.t 0), none, 0, true, false⟩,
              ⟨(some 8), .lenS (.t 7), none, 0, true, false⟩,
              ⟨(some 9), .bin .lss (.t 6) (.t 8), none, 0, true, false⟩,
              ⟨(some 10), .mv (.t 9), none, 0, true, false⟩,
              ⟨(some 11), .mv (.t 0), (some (10, true)), 0, true, false⟩,
              ⟨(some 12), .mv (.t 5), (some (10, true)), 0, true, false⟩,
              ⟨(some 13), .indexS 1 (.t 11) (.t 12), (some (10, true)), 0, true, false⟩,
              ⟨(some 14), .load1 (.t 13), (some (10, true)), 0, true, false⟩,
              ⟨(some 15), .mv (.t 1), (some (10, true)), 0, true, false⟩,
              ⟨(some 16), .bin .lss (.t 14) (.t 15), (some (10, true)), 0, true, false⟩,
              ⟨(some 17), .pick (.t 10) (.t 16) (.c (.bool false)), none, 0, true, false⟩])
          (.cond (.t 17)
            (.skip)
            (.exit 0)))
        (.block 1 (
          .reg [⟨(some 18), .mv (.t 5), none, 0, true, false⟩,
            ⟨(some 19), .bin .add (.t 18) (.c (.int .i64 1)), none, 0, true, false⟩,
            ⟨(some 5), .mv (.t 19), none, 0, true, false⟩])))))
  (.seq (.seq (.reg [⟨(some 20), .mv (.t 5), none, 0, true, false⟩,
        ⟨(some 21), .mv (.t 0), none, 0, true, false⟩,
        ⟨(some 22), .lenS (.t 21), none, 0, true, false⟩,
        ⟨(some 23), .bin .lss (.t 20) (.t 22), none, 0, true, false⟩,
        ⟨(some 24), .mv (.t 23), none, 0, true, false⟩,
        ⟨(some 25), .mv (.t 0), (some (24, true)), 0, true, false⟩,
        ⟨(some 26), .mv (.t 5), (some (24, true)), 0, true, false⟩,
        ⟨(some 27), .indexS 1 (.t 25) (.t 26), (some (24, true)), 0, true, false⟩,
        ⟨(some 28), .load1 (.t 27), (some (24, true)), 0, true, false⟩,
        ⟨(some 29), .mv (.t 1), (some (24, true)), 0, true, false⟩,
        ⟨(some 30), .bin .eql (.t 28) (.t 29), (some (24, true)), 0, true, false⟩,
        ⟨(some 31), .pick (.t 24) (.t 30) (.c (.bool false)), none, 0, true, false⟩])
    (.cond (.t 31)
      (.seq (.reg [⟨(some 32), .mv (.t 0), none, 0, true, false⟩,
          ⟨(some 4), .mv (.t 32), none, 0, true, false⟩])
      (.ret))
      (.skip)))
  (.seq (.regD [⟨(some 33), .mkrow 9 1 0 [(.str [])] [], none, 0, false, false⟩,
      ⟨(some 34), .mv (.t 0), none, 0, false, false⟩,
      ⟨(some 35), .mv (.t 5), none, 0, false, false⟩,
      ⟨(some 36), .sliceS 1 (.t 34) none (some (.t 35)), none, 6, false, false⟩,
      ⟨(some 37), .appendL 9 1 16 (.t 33) (.t 36), none, 15, false, false⟩,
      ⟨(some 38), .mv (.t 1), none, 0, false, false⟩,
      ⟨(some 39), .mkrow 9 1 1 [(.str [])] [(0, (.t 38))], none, 32, false, false⟩,
      ⟨(some 40), .appendL 9 1 16 (.t 37) (.t 39), none, 127, false, false⟩,
      ⟨(some 41), .mv (.t 0), none, 0, false, false⟩,
      ⟨(some 42), .mv (.t 5), none, 0, false, false⟩,
      ⟨(some 43), .sliceS 1 (.t 41) (some (.t 42)) none, none, 768, false, false⟩,
      ⟨(some 44), .append 9 1 16 (.t 40) (.t 43), none, 2047, true, false⟩,
      ⟨(some 4), .mv (.t 44), none, 4095, false, false⟩])
  (.ret)))))
theorem k53 : codeOf Try.prog 53 = some (c53, [.tmp 4], 45, false) := by kernel_rfl

/-- slices.Collect[string] -/
def c54 : XCode :=
  .seq (.reg [⟨(some 2), .nilrow 9 1, none, 0, true, false⟩])
  (.seq (.reg [⟨(some 3), .mv (.t 0), none, 0, true, false⟩,
      ⟨(some 4), .call 57 [(.c .nsl), (.t 3)], none, 0, true, false⟩,
      ⟨(some 2), .mv (.t 4), none, 0, true, false⟩])
  (.ret))
theorem k54 : codeOf Try.prog 54 = some (c54, [.tmp 2], 5, false) := by kernel_rfl

/-- maps.Keys[map[string]bool,string,bool]$1 -/
def c56 : XCode :=
  .seq (.reg [⟨(some 4), .load1 (.t 1), none, 0, true, false⟩,
      ⟨(some 5), .range (.t 4), none, 0, true, false⟩])
  (.block 0 (
    .loop (
      .seq (.reg [⟨(some 6), .next (.t 5), none, 0, true, false⟩,
          ⟨(some 7), .ext 0 (.t 6), none, 0, true, false⟩])
      (.seq (.cond (.t 7)
          (.skip)
          (.exit 0))
      (.block 1 (
        .seq (.reg [⟨(some 8), .entry (.t 5), none, 0, true, false⟩,
            ⟨(some 9), .ext 0 (.t 8), none, 0, true, false⟩,
            ⟨(some 3), .mv (.t 9), none, 0, true, false⟩])
        (.seq (.reg [⟨(some 10), .mv (.t 0), none, 0, true, false⟩,
            ⟨(some 11), .mv (.t 3), none, 0, true, false⟩,
            ⟨(some 12), .callv (.t 10) [(.t 11)], none, 0, true, false⟩,
            ⟨(some 13), .not (.t 12), none, 0, true, false⟩])
        (.cond (.t 13)
          (.ret)
          (.skip)))))))))
theorem k56 : codeOf Try.prog 56 = some (c56, [], 14, false) := by kernel_rfl

/-- slices.AppendSeq[[]string,string] -/
def c57 : XCode :=
  .seq (.reg [⟨(some 2), .box 23 1 (.t 0), none, 0, true, false⟩,
      ⟨(some 4), .nilrow 9 1, none, 0, true, false⟩])
  (.seq (.seq (.reg [⟨(some 6), .mv (.t 1), none, 0, true, false⟩])
    (.block 0 (
      .rangeF (.t 6) [7] (
        .reg [⟨(some 5), .mv (.t 7), none, 0, true, false⟩])
      (
        .block 1 (
          .reg [⟨(some 8), .load1 (.t 2), none, 0, true, false⟩,
            ⟨(some 9), .mv (.t 5), none, 0, true, false⟩,
            ⟨(some 10), .mkrow 9 1 1 [(.str [])] [(0, (.t 9))], none, 0, true, false⟩,
            ⟨(some 11), .append 9 1 16 (.t 8) (.t 10), none, 0, true, false⟩,
            ⟨none, .store 1 (.t 2) (.t 11), none, 0, true, false⟩])))))
  (.seq (.reg [⟨(some 12), .load1 (.t 2), none, 0, true, false⟩,
      ⟨(some 4), .mv (.t 12), none, 0, true, false⟩])
  (.ret)))
theorem k57 : codeOf Try.prog 57 = some (c57, [.tmp 4], 13, false) := by kernel_rfl

end Go.Vx
