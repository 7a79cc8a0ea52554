/- The code of the functions, turned. Printed by a program (mkc.py). -/
import Derived.Test.YtgkkffhoflgpoaaVv
import Derived.Test.YtgkkffhoflgpoaaChecked
import Derived.KernelRfl
set_option maxRecDepth 100000
namespace Go.Vx
open Go
open Go.Proofs

theorem mixed : Try.prog.follows .mixedOrders = true := Try.checked.mixed

/-- regesta/regestalaw22.TxnFree -/
def c3 : XCode :=
  .seq (.reg [⟨(some 4), .mv (.c (.bool false)), none, 0, true⟩])
  (.seq (.reg [⟨(some 14), .call 9 [(.c (.int .i64 0))], none, 0, true⟩,
      ⟨(some 5), .mv (.t 14), none, 0, true⟩])
  (.seq (.seq (.reg [⟨(some 15), .call 10 [], none, 0, true⟩,
        ⟨(some 16), .not (.t 15), none, 0, true⟩,
        ⟨(some 17), .mv (.t 16), none, 0, true⟩,
        ⟨(some 18), .mv (.t 5), (some (17, false)), 0, true⟩,
        ⟨(some 19), .eqp false (.t 18) (.c .nilp), (some (17, false)), 0, true⟩,
        ⟨(some 20), .pick (.t 17) (.c (.bool true)) (.t 19), none, 0, true⟩])
    (.cond (.t 20)
      (.seq (.reg [⟨(some 4), .mv (.c (.bool false)), none, 0, true⟩])
      (.ret))
      (.skip)))
  (.seq (.seq (.reg [⟨(some 22), .mv (.t 5), none, 0, true⟩,
        ⟨(some 23), .call 11 [(.t 22), (.c (.int .i64 0))], none, 0, true⟩,
        ⟨(some 21), .mv (.t 23), none, 0, true⟩,
        ⟨(some 24), .ext 0 (.t 21), none, 0, true⟩,
        ⟨(some 25), .ext 1 (.t 21), none, 0, true⟩,
        ⟨(some 6), .mv (.t 24), none, 0, true⟩,
        ⟨(some 7), .mv (.t 25), none, 0, true⟩])
    (.seq (.reg [⟨(some 26), .mv (.t 7), none, 0, true⟩,
        ⟨(some 27), .bin .neq (.t 26) (.c (.int .i64 0)), none, 0, true⟩])
    (.cond (.t 27)
      (.seq (.reg [⟨(some 4), .mv (.c (.bool false)), none, 0, true⟩])
      (.ret))
      (.skip))))
  (.seq (.seq (.reg [⟨(some 8), .mv (.c (.int .i64 0)), none, 0, true⟩])
    (.block 0 (
      .loop (
        .seq (.seq (.reg [⟨(some 28), .mv (.t 8), none, 0, true⟩,
              ⟨(some 29), .mv (.t 1), none, 0, true⟩,
              ⟨(some 30), .lenS (.t 29), none, 0, true⟩,
              ⟨(some 31), .bin .lss (.t 28) (.t 30), none, 0, true⟩,
              ⟨(some 32), .mv (.t 31), none, 0, true⟩,
              ⟨(some 33), .mv (.t 8), (some (32, true)), 0, true⟩,
              ⟨(some 34), .bin .lss (.t 33) (.c (.int .i64 8)), (some (32, true)), 0, true⟩,
              ⟨(some 35), .pick (.t 32) (.t 34) (.c (.bool false)), none, 0, true⟩])
          (.cond (.t 35)
            (.skip)
            (.exit 0)))
        (.seq (.block 1 (
            .seq (.reg [⟨(some 38), .mv (.t 5), none, 0, true⟩,
                ⟨(some 39), .mv (.t 1), none, 0, true⟩,
                ⟨(some 40), .mv (.t 8), none, 0, true⟩,
                ⟨(some 41), .indexS 1 (.t 39) (.t 40), none, 0, true⟩,
                ⟨(some 42), .load1 (.t 41), none, 0, true⟩,
                ⟨(some 43), .bin .add (.c (.str [111, 119, 110, 32])) (.t 42), none, 0, true⟩,
                ⟨(some 44), .call 12 [(.t 38), (.c (.int .i64 0)), (.t 43)], none, 0, true⟩,
                ⟨(some 45), .bin .neq (.t 44) (.c (.int .i64 0)), none, 0, true⟩])
            (.cond (.t 45)
              (.seq (.reg [⟨(some 4), .mv (.c (.bool false)), none, 0, true⟩])
              (.ret))
              (.skip))))
        (.reg [⟨(some 36), .mv (.t 8), none, 0, true⟩,
          ⟨(some 37), .bin .add (.t 36) (.c (.int .i64 1)), none, 0, true⟩,
          ⟨(some 8), .mv (.t 37), none, 0, true⟩]))))))
  (.seq (.seq (.reg [⟨(some 9), .mv (.c (.int .i64 0)), none, 0, true⟩])
    (.block 2 (
      .loop (
        .seq (.seq (.reg [⟨(some 46), .mv (.t 9), none, 0, true⟩,
              ⟨(some 47), .mv (.t 0), none, 0, true⟩,
              ⟨(some 48), .lenS (.t 47), none, 0, true⟩,
              ⟨(some 49), .bin .lss (.t 46) (.t 48), none, 0, true⟩,
              ⟨(some 50), .mv (.t 49), none, 0, true⟩,
              ⟨(some 51), .mv (.t 9), (some (50, true)), 0, true⟩,
              ⟨(some 52), .bin .lss (.t 51) (.c (.int .i64 40)), (some (50, true)), 0, true⟩,
              ⟨(some 53), .pick (.t 50) (.t 52) (.c (.bool false)), none, 0, true⟩])
          (.cond (.t 53)
            (.skip)
            (.exit 2)))
        (.seq (.block 3 (
            .seq (.reg [⟨(some 56), .mv (.t 0), none, 0, true⟩,
                ⟨(some 57), .mv (.t 9), none, 0, true⟩,
                ⟨(some 58), .indexS 4 (.t 56) (.t 57), none, 0, true⟩,
                ⟨(some 59), .loadn 4 (.t 58), none, 0, true⟩,
                ⟨(some 10), .alloc 32 [(.int .i64 0), (.int .i64 0), (.str []), (.int .i64 0)], none, 0, true⟩,
                ⟨none, .store 4 (.t 10) (.t 59), none, 0, true⟩])
            (.seq (.reg [⟨(some 60), .fieldA 1 (.t 10), none, 0, true⟩,
                ⟨(some 61), .load1 (.t 60), none, 0, true⟩,
                ⟨(some 62), .bin .and (.t 61) (.c (.int .i64 1)), none, 0, true⟩,
                ⟨(some 63), .bin .add (.c (.int .i64 1)) (.t 62), none, 0, true⟩,
                ⟨(some 11), .mv (.t 63), none, 0, true⟩])
            (.seq (.reg [⟨(some 64), .fieldA 0 (.t 10), none, 0, true⟩,
                ⟨(some 65), .load1 (.t 64), none, 0, true⟩])
            (.block 4 (
              .seq (.reg [⟨(some 67), .bin .eql (.t 65) (.c (.int .i64 0)), none, 0, true⟩,
                  ⟨(some 66), .mv (.t 67), none, 0, true⟩])
              (.cond (.t 66)
                (.reg [⟨(some 68), .mv (.t 5), none, 0, true⟩,
                  ⟨(some 69), .mv (.t 11), none, 0, true⟩,
                  ⟨(some 70), .call 11 [(.t 68), (.t 69)], none, 0, true⟩])
                (.seq (.reg [⟨(some 72), .bin .eql (.t 65) (.c (.int .i64 1)), none, 0, true⟩,
                    ⟨(some 71), .mv (.t 72), none, 0, true⟩])
                (.cond (.t 71)
                  (.reg [⟨(some 73), .mv (.t 5), none, 0, true⟩,
                    ⟨(some 74), .mv (.t 11), none, 0, true⟩,
                    ⟨(some 75), .fieldA 2 (.t 10), none, 0, true⟩,
                    ⟨(some 76), .load1 (.t 75), none, 0, true⟩,
                    ⟨(some 77), .bin .add (.c (.str [111, 116, 104, 101, 114, 32])) (.t 76), none, 0, true⟩,
                    ⟨(some 78), .call 12 [(.t 73), (.t 74), (.t 77)], none, 0, true⟩])
                  (.seq (.reg [⟨(some 80), .bin .eql (.t 65) (.c (.int .i64 2)), none, 0, true⟩,
                      ⟨(some 79), .mv (.t 80), none, 0, true⟩])
                  (.cond (.t 79)
                    (.reg [⟨(some 81), .mv (.t 5), none, 0, true⟩,
                      ⟨(some 82), .mv (.t 11), none, 0, true⟩,
                      ⟨(some 83), .call 13 [(.t 81), (.t 82)], none, 0, true⟩])
                    (.seq (.reg [⟨(some 85), .bin .eql (.t 65) (.c (.int .i64 3)), none, 0, true⟩,
                        ⟨(some 84), .mv (.t 85), none, 0, true⟩])
                    (.cond (.t 84)
                      (.reg [⟨(some 86), .mv (.t 5), none, 0, true⟩,
                        ⟨(some 87), .mv (.t 11), none, 0, true⟩,
                        ⟨(some 88), .call 14 [(.t 86), (.t 87)], none, 0, true⟩])
                      (.skip))))))))))))))
        (.reg [⟨(some 54), .mv (.t 9), none, 0, true⟩,
          ⟨(some 55), .bin .add (.t 54) (.c (.int .i64 1)), none, 0, true⟩,
          ⟨(some 9), .mv (.t 55), none, 0, true⟩]))))))
  (.seq (.reg [⟨(some 90), .mv (.t 5), none, 0, true⟩,
      ⟨(some 91), .call 13 [(.t 90), (.c (.int .i64 0))], none, 0, true⟩,
      ⟨(some 89), .mv (.t 91), none, 0, true⟩,
      ⟨(some 92), .ext 0 (.t 89), none, 0, true⟩,
      ⟨(some 93), .ext 1 (.t 89), none, 0, true⟩,
      ⟨(some 12), .mv (.t 92), none, 0, true⟩,
      ⟨(some 13), .mv (.t 93), none, 0, true⟩])
  (.seq (.reg [⟨(some 94), .mv (.t 13), none, 0, true⟩,
      ⟨(some 95), .bin .eql (.t 94) (.c (.int .i64 0)), none, 0, true⟩,
      ⟨(some 4), .mv (.t 95), none, 0, true⟩])
  (.ret))))))))
theorem k3 : codeOf Try.prog 3 = some (c3, [.tmp 4], 96, false) := by kernel_rfl

/-- regesta/regestalaw22.TxnFirst -/
def c4 : XCode :=
  .seq (.reg [⟨(some 6), .mv (.c (.bool false)), none, 0, true⟩])
  (.seq (.reg [⟨(some 16), .call 9 [(.c (.int .i64 0))], none, 0, true⟩,
      ⟨(some 7), .mv (.t 16), none, 0, true⟩])
  (.seq (.seq (.reg [⟨(some 17), .call 10 [], none, 0, true⟩,
        ⟨(some 18), .not (.t 17), none, 0, true⟩,
        ⟨(some 19), .mv (.t 18), none, 0, true⟩,
        ⟨(some 20), .mv (.t 7), (some (19, false)), 0, true⟩,
        ⟨(some 21), .eqp false (.t 20) (.c .nilp), (some (19, false)), 0, true⟩,
        ⟨(some 22), .pick (.t 19) (.c (.bool true)) (.t 21), none, 0, true⟩])
    (.cond (.t 22)
      (.seq (.reg [⟨(some 6), .mv (.c (.bool false)), none, 0, true⟩])
      (.ret))
      (.skip)))
  (.seq (.seq (.reg [⟨(some 8), .mv (.c (.int .i64 0)), none, 0, true⟩])
    (.block 0 (
      .loop (
        .seq (.seq (.reg [⟨(some 23), .mv (.t 8), none, 0, true⟩,
              ⟨(some 24), .mv (.t 0), none, 0, true⟩,
              ⟨(some 25), .lenS (.t 24), none, 0, true⟩,
              ⟨(some 26), .bin .lss (.t 23) (.t 25), none, 0, true⟩,
              ⟨(some 27), .mv (.t 26), none, 0, true⟩,
              ⟨(some 28), .mv (.t 8), (some (27, true)), 0, true⟩,
              ⟨(some 29), .bin .lss (.t 28) (.c (.int .i64 20)), (some (27, true)), 0, true⟩,
              ⟨(some 30), .pick (.t 27) (.t 29) (.c (.bool false)), none, 0, true⟩])
          (.cond (.t 30)
            (.skip)
            (.exit 0)))
        (.seq (.block 1 (
            .reg [⟨(some 33), .mv (.t 7), none, 0, true⟩,
              ⟨(some 34), .mv (.t 0), none, 0, true⟩,
              ⟨(some 35), .mv (.t 8), none, 0, true⟩,
              ⟨(some 36), .indexS 4 (.t 34) (.t 35), none, 0, true⟩,
              ⟨(some 37), .fieldA 3 (.t 36), none, 0, true⟩,
              ⟨(some 38), .load1 (.t 37), none, 0, true⟩,
              ⟨(some 39), .bin .rem (.t 38) (.c (.int .i64 5)), none, 0, true⟩,
              ⟨(some 40), .call 15 [(.t 33), (.t 39)], none, 0, true⟩]))
        (.reg [⟨(some 31), .mv (.t 8), none, 0, true⟩,
          ⟨(some 32), .bin .add (.t 31) (.c (.int .i64 1)), none, 0, true⟩,
          ⟨(some 8), .mv (.t 32), none, 0, true⟩]))))))
  (.seq (.reg [⟨(some 9), .mv (.c (.int .i64 0)), none, 0, true⟩,
      ⟨(some 10), .mv (.c (.int .i64 1)), none, 0, true⟩])
  (.seq (.seq (.reg [⟨(some 41), .mv (.t 2), none, 0, true⟩])
    (.cond (.t 41)
      (.reg [⟨(some 9), .mv (.c (.int .i64 1)), none, 0, true⟩,
        ⟨(some 10), .mv (.c (.int .i64 0)), none, 0, true⟩])
      (.skip)))
  (.seq (.reg [⟨(some 42), .mv (.t 7), none, 0, true⟩,
      ⟨(some 43), .call 11 [(.t 42), (.c (.int .i64 0))], none, 0, true⟩])
  (.seq (.reg [⟨(some 44), .mv (.t 7), none, 0, true⟩,
      ⟨(some 45), .call 11 [(.t 44), (.c (.int .i64 1))], none, 0, true⟩])
  (.seq (.reg [⟨(some 46), .mv (.t 7), none, 0, true⟩,
      ⟨(some 47), .mv (.t 1), none, 0, true⟩,
      ⟨(some 48), .call 12 [(.t 46), (.c (.int .i64 0)), (.t 47)], none, 0, true⟩])
  (.seq (.reg [⟨(some 49), .mv (.t 7), none, 0, true⟩,
      ⟨(some 50), .mv (.t 1), none, 0, true⟩,
      ⟨(some 51), .call 12 [(.t 49), (.c (.int .i64 1)), (.t 50)], none, 0, true⟩])
  (.seq (.seq (.reg [⟨(some 11), .mv (.c (.int .i64 0)), none, 0, true⟩])
    (.block 2 (
      .loop (
        .seq (.seq (.reg [⟨(some 52), .mv (.t 11), none, 0, true⟩,
              ⟨(some 53), .mv (.t 0), none, 0, true⟩,
              ⟨(some 54), .lenS (.t 53), none, 0, true⟩,
              ⟨(some 55), .bin .lss (.t 52) (.t 54), none, 0, true⟩,
              ⟨(some 56), .mv (.t 55), none, 0, true⟩,
              ⟨(some 57), .mv (.t 11), (some (56, true)), 0, true⟩,
              ⟨(some 58), .bin .lss (.t 57) (.c (.int .i64 20)), (some (56, true)), 0, true⟩,
              ⟨(some 59), .pick (.t 56) (.t 58) (.c (.bool false)), none, 0, true⟩])
          (.cond (.t 59)
            (.skip)
            (.exit 2)))
        (.seq (.block 3 (
            .seq (.reg [⟨(some 62), .mv (.t 7), none, 0, true⟩,
                ⟨(some 63), .mv (.t 0), none, 0, true⟩,
                ⟨(some 64), .mv (.t 11), none, 0, true⟩,
                ⟨(some 65), .indexS 4 (.t 63) (.t 64), none, 0, true⟩,
                ⟨(some 66), .fieldA 1 (.t 65), none, 0, true⟩,
                ⟨(some 67), .load1 (.t 66), none, 0, true⟩,
                ⟨(some 68), .bin .and (.t 67) (.c (.int .i64 1)), none, 0, true⟩,
                ⟨(some 69), .bin .add (.c (.int .i64 2)) (.t 68), none, 0, true⟩,
                ⟨(some 70), .call 11 [(.t 62), (.t 69)], none, 0, true⟩])
            (.regD [⟨(some 71), .mv (.t 7), none, 0, false⟩,
              ⟨(some 72), .mv (.t 0), none, 0, false⟩,
              ⟨(some 73), .mv (.t 11), none, 0, false⟩,
              ⟨(some 74), .indexS 4 (.t 72) (.t 73), none, 6, false⟩,
              ⟨(some 75), .fieldA 1 (.t 74), none, 14, false⟩,
              ⟨(some 76), .load1 (.t 75), none, 30, false⟩,
              ⟨(some 77), .bin .and (.t 76) (.c (.int .i64 1)), none, 62, false⟩,
              ⟨(some 78), .bin .add (.c (.int .i64 2)) (.t 77), none, 126, false⟩,
              ⟨(some 79), .mv (.t 0), none, 0, false⟩,
              ⟨(some 80), .mv (.t 11), none, 0, false⟩,
              ⟨(some 81), .indexS 4 (.t 79) (.t 80), none, 768, false⟩,
              ⟨(some 82), .fieldA 2 (.t 81), none, 1792, false⟩,
              ⟨(some 83), .load1 (.t 82), none, 3840, false⟩,
              ⟨(some 84), .bin .add (.t 83) (.c (.str [120])), none, 7936, false⟩,
              ⟨(some 85), .call 12 [(.t 71), (.t 78), (.t 84)], none, 16383, true⟩])))
        (.reg [⟨(some 60), .mv (.t 11), none, 0, true⟩,
          ⟨(some 61), .bin .add (.t 60) (.c (.int .i64 1)), none, 0, true⟩,
          ⟨(some 11), .mv (.t 61), none, 0, true⟩]))))))
  (.seq (.reg [⟨(some 87), .mv (.t 7), none, 0, true⟩,
      ⟨(some 88), .mv (.t 9), none, 0, true⟩,
      ⟨(some 89), .call 13 [(.t 87), (.t 88)], none, 0, true⟩,
      ⟨(some 86), .mv (.t 89), none, 0, true⟩,
      ⟨(some 90), .ext 0 (.t 86), none, 0, true⟩,
      ⟨(some 91), .ext 1 (.t 86), none, 0, true⟩,
      ⟨(some 12), .mv (.t 90), none, 0, true⟩,
      ⟨(some 13), .mv (.t 91), none, 0, true⟩])
  (.seq (.reg [⟨(some 93), .mv (.t 7), none, 0, true⟩,
      ⟨(some 94), .mv (.t 10), none, 0, true⟩,
      ⟨(some 95), .call 13 [(.t 93), (.t 94)], none, 0, true⟩,
      ⟨(some 92), .mv (.t 95), none, 0, true⟩,
      ⟨(some 96), .ext 0 (.t 92), none, 0, true⟩,
      ⟨(some 97), .ext 1 (.t 92), none, 0, true⟩,
      ⟨(some 14), .mv (.t 96), none, 0, true⟩,
      ⟨(some 15), .mv (.t 97), none, 0, true⟩])
  (.seq (.reg [⟨(some 98), .mv (.t 13), none, 0, true⟩,
      ⟨(some 99), .bin .eql (.t 98) (.c (.int .i64 0)), none, 0, true⟩,
      ⟨(some 100), .mv (.t 99), none, 0, true⟩,
      ⟨(some 101), .mv (.t 15), (some (100, true)), 0, true⟩,
      ⟨(some 102), .bin .eql (.t 101) (.c (.int .i64 13)), (some (100, true)), 0, true⟩,
      ⟨(some 103), .pick (.t 100) (.t 102) (.c (.bool false)), none, 0, true⟩,
      ⟨(some 104), .mv (.t 103), none, 0, true⟩,
      ⟨(some 105), .mv (.t 7), (some (104, true)), 0, true⟩,
      ⟨(some 106), .mv (.t 10), (some (104, true)), 0, true⟩,
      ⟨(some 107), .call 16 [(.t 105), (.t 106)], (some (104, true)), 0, true⟩,
      ⟨(some 108), .pick (.t 104) (.t 107) (.c (.bool false)), none, 0, true⟩,
      ⟨(some 109), .mv (.t 108), none, 0, true⟩,
      ⟨(some 110), .mv (.t 7), (some (109, true)), 0, true⟩,
      ⟨(some 111), .mv (.t 9), (some (109, true)), 0, true⟩,
      ⟨(some 112), .call 16 [(.t 110), (.t 111)], (some (109, true)), 0, true⟩,
      ⟨(some 113), .not (.t 112), (some (109, true)), 0, true⟩,
      ⟨(some 114), .pick (.t 109) (.t 113) (.c (.bool false)), none, 0, true⟩,
      ⟨(some 6), .mv (.t 114), none, 0, true⟩])
  (.ret))))))))))))))
theorem k4 : codeOf Try.prog 4 = some (c4, [.tmp 6], 115, false) := by kernel_rfl

/-- regesta/regestalaw22.TxnRises -/
def c5 : XCode :=
  .seq (.reg [⟨(some 2), .mv (.c (.bool false)), none, 0, true⟩])
  (.seq (.reg [⟨(some 11), .call 9 [(.c (.int .i64 0))], none, 0, true⟩,
      ⟨(some 3), .mv (.t 11), none, 0, true⟩])
  (.seq (.seq (.reg [⟨(some 12), .call 10 [], none, 0, true⟩,
        ⟨(some 13), .not (.t 12), none, 0, true⟩,
        ⟨(some 14), .mv (.t 13), none, 0, true⟩,
        ⟨(some 15), .mv (.t 3), (some (14, false)), 0, true⟩,
        ⟨(some 16), .eqp false (.t 15) (.c .nilp), (some (14, false)), 0, true⟩,
        ⟨(some 17), .pick (.t 14) (.c (.bool true)) (.t 16), none, 0, true⟩])
    (.cond (.t 17)
      (.seq (.reg [⟨(some 2), .mv (.c (.bool false)), none, 0, true⟩])
      (.ret))
      (.skip)))
  (.seq (.reg [⟨(some 4), .mv (.c (.int .i64 (-1))), none, 0, true⟩])
  (.seq (.seq (.reg [⟨(some 5), .mv (.c (.int .i64 0)), none, 0, true⟩])
    (.block 0 (
      .loop (
        .seq (.seq (.reg [⟨(some 18), .mv (.t 5), none, 0, true⟩,
              ⟨(some 19), .mv (.t 0), none, 0, true⟩,
              ⟨(some 20), .lenS (.t 19), none, 0, true⟩,
              ⟨(some 21), .bin .lss (.t 18) (.t 20), none, 0, true⟩,
              ⟨(some 22), .mv (.t 21), none, 0, true⟩,
              ⟨(some 23), .mv (.t 5), (some (22, true)), 0, true⟩,
              ⟨(some 24), .bin .lss (.t 23) (.c (.int .i64 60)), (some (22, true)), 0, true⟩,
              ⟨(some 25), .pick (.t 22) (.t 24) (.c (.bool false)), none, 0, true⟩])
          (.cond (.t 25)
            (.skip)
            (.exit 0)))
        (.seq (.block 1 (
            .seq (.reg [⟨(some 28), .mv (.t 0), none, 0, true⟩,
                ⟨(some 29), .mv (.t 5), none, 0, true⟩,
                ⟨(some 30), .indexS 4 (.t 28) (.t 29), none, 0, true⟩,
                ⟨(some 31), .loadn 4 (.t 30), none, 0, true⟩,
                ⟨(some 6), .alloc 32 [(.int .i64 0), (.int .i64 0), (.str []), (.int .i64 0)], none, 0, true⟩,
                ⟨none, .store 4 (.t 6) (.t 31), none, 0, true⟩])
            (.seq (.reg [⟨(some 32), .fieldA 0 (.t 6), none, 0, true⟩,
                ⟨(some 33), .load1 (.t 32), none, 0, true⟩])
            (.block 2 (
              .seq (.reg [⟨(some 35), .bin .eql (.t 33) (.c (.int .i64 0)), none, 0, true⟩,
                  ⟨(some 34), .mv (.t 35), none, 0, true⟩])
              (.cond (.t 34)
                (.seq (.reg [⟨(some 37), .mv (.t 3), none, 0, true⟩,
                    ⟨(some 38), .fieldA 1 (.t 6), none, 0, true⟩,
                    ⟨(some 39), .load1 (.t 38), none, 0, true⟩,
                    ⟨(some 40), .call 11 [(.t 37), (.t 39)], none, 0, true⟩,
                    ⟨(some 36), .mv (.t 40), none, 0, true⟩,
                    ⟨(some 41), .ext 0 (.t 36), none, 0, true⟩,
                    ⟨(some 42), .ext 1 (.t 36), none, 0, true⟩,
                    ⟨(some 7), .mv (.t 41), none, 0, true⟩,
                    ⟨(some 8), .mv (.t 42), none, 0, true⟩])
                (.seq (.reg [⟨(some 43), .mv (.t 8), none, 0, true⟩,
                    ⟨(some 44), .bin .eql (.t 43) (.c (.int .i64 0)), none, 0, true⟩])
                (.cond (.t 44)
                  (.seq (.seq (.reg [⟨(some 45), .mv (.t 7), none, 0, true⟩,
                        ⟨(some 46), .mv (.t 4), none, 0, true⟩,
                        ⟨(some 47), .bin .lss (.t 45) (.t 46), none, 0, true⟩,
                        ⟨(some 48), .mv (.t 47), none, 0, true⟩,
                        ⟨(some 49), .mv (.t 7), (some (48, false)), 0, true⟩,
                        ⟨(some 50), .mv (.t 3), (some (48, false)), 0, true⟩,
                        ⟨(some 51), .call 17 [(.t 50)], (some (48, false)), 0, true⟩,
                        ⟨(some 52), .bin .lss (.t 49) (.t 51), (some (48, false)), 0, true⟩,
                        ⟨(some 53), .pick (.t 48) (.c (.bool true)) (.t 52), none, 0, true⟩])
                    (.cond (.t 53)
                      (.seq (.reg [⟨(some 2), .mv (.c (.bool false)), none, 0, true⟩])
                      (.ret))
                      (.skip)))
                  (.reg [⟨(some 54), .mv (.t 7), none, 0, true⟩,
                    ⟨(some 4), .mv (.t 54), none, 0, true⟩]))
                  (.skip))))
                (.seq (.reg [⟨(some 56), .bin .eql (.t 33) (.c (.int .i64 1)), none, 0, true⟩,
                    ⟨(some 55), .mv (.t 56), none, 0, true⟩])
                (.cond (.t 55)
                  (.reg [⟨(some 57), .mv (.t 3), none, 0, true⟩,
                    ⟨(some 58), .fieldA 1 (.t 6), none, 0, true⟩,
                    ⟨(some 59), .load1 (.t 58), none, 0, true⟩,
                    ⟨(some 60), .fieldA 2 (.t 6), none, 0, true⟩,
                    ⟨(some 61), .load1 (.t 60), none, 0, true⟩,
                    ⟨(some 62), .call 12 [(.t 57), (.t 59), (.t 61)], none, 0, true⟩])
                  (.seq (.reg [⟨(some 64), .bin .eql (.t 33) (.c (.int .i64 2)), none, 0, true⟩,
                      ⟨(some 63), .mv (.t 64), none, 0, true⟩])
                  (.cond (.t 63)
                    (.seq (.reg [⟨(some 66), .mv (.t 3), none, 0, true⟩,
                        ⟨(some 67), .fieldA 1 (.t 6), none, 0, true⟩,
                        ⟨(some 68), .load1 (.t 67), none, 0, true⟩,
                        ⟨(some 69), .call 13 [(.t 66), (.t 68)], none, 0, true⟩,
                        ⟨(some 65), .mv (.t 69), none, 0, true⟩,
                        ⟨(some 70), .ext 0 (.t 65), none, 0, true⟩,
                        ⟨(some 71), .ext 1 (.t 65), none, 0, true⟩,
                        ⟨(some 9), .mv (.t 70), none, 0, true⟩,
                        ⟨(some 10), .mv (.t 71), none, 0, true⟩])
                    (.seq (.reg [⟨(some 72), .mv (.t 10), none, 0, true⟩,
                        ⟨(some 73), .bin .eql (.t 72) (.c (.int .i64 0)), none, 0, true⟩])
                    (.cond (.t 73)
                      (.seq (.seq (.reg [⟨(some 74), .mv (.t 9), none, 0, true⟩,
                            ⟨(some 75), .mv (.t 4), none, 0, true⟩,
                            ⟨(some 76), .bin .leq (.t 74) (.t 75), none, 0, true⟩,
                            ⟨(some 77), .mv (.t 76), none, 0, true⟩,
                            ⟨(some 78), .mv (.t 9), (some (77, false)), 0, true⟩,
                            ⟨(some 79), .mv (.t 3), (some (77, false)), 0, true⟩,
                            ⟨(some 80), .call 17 [(.t 79)], (some (77, false)), 0, true⟩,
                            ⟨(some 81), .bin .lss (.t 78) (.t 80), (some (77, false)), 0, true⟩,
                            ⟨(some 82), .pick (.t 77) (.c (.bool true)) (.t 81), none, 0, true⟩])
                        (.cond (.t 82)
                          (.seq (.reg [⟨(some 2), .mv (.c (.bool false)), none, 0, true⟩])
                          (.ret))
                          (.skip)))
                      (.reg [⟨(some 83), .mv (.t 9), none, 0, true⟩,
                        ⟨(some 4), .mv (.t 83), none, 0, true⟩]))
                      (.skip))))
                    (.seq (.reg [⟨(some 85), .bin .eql (.t 33) (.c (.int .i64 3)), none, 0, true⟩,
                        ⟨(some 84), .mv (.t 85), none, 0, true⟩])
                    (.cond (.t 84)
                      (.reg [⟨(some 86), .mv (.t 3), none, 0, true⟩,
                        ⟨(some 87), .fieldA 1 (.t 6), none, 0, true⟩,
                        ⟨(some 88), .load1 (.t 87), none, 0, true⟩,
                        ⟨(some 89), .call 14 [(.t 86), (.t 88)], none, 0, true⟩])
                      (.seq (.reg [⟨(some 91), .bin .eql (.t 33) (.c (.int .i64 4)), none, 0, true⟩,
                          ⟨(some 90), .mv (.t 91), none, 0, true⟩])
                      (.cond (.t 90)
                        (.reg [⟨(some 92), .mv (.t 3), none, 0, true⟩,
                          ⟨(some 93), .fieldA 3 (.t 6), none, 0, true⟩,
                          ⟨(some 94), .load1 (.t 93), none, 0, true⟩,
                          ⟨(some 95), .call 15 [(.t 92), (.t 94)], none, 0, true⟩])
                        (.skip)))))))))))))))
        (.reg [⟨(some 26), .mv (.t 5), none, 0, true⟩,
          ⟨(some 27), .bin .add (.t 26) (.c (.int .i64 1)), none, 0, true⟩,
          ⟨(some 5), .mv (.t 27), none, 0, true⟩]))))))
  (.seq (.reg [⟨(some 2), .mv (.c (.bool true)), none, 0, true⟩])
  (.ret))))))
theorem k5 : codeOf Try.prog 5 = some (c5, [.tmp 2], 96, false) := by kernel_rfl

/-- regesta/regestatop.TopWriters -/
def c8 : XCode :=
  .seq (.reg [⟨(some 2), .mv (.c (.bool false)), none, 0, true⟩])
  (.seq (.reg [⟨(some 13), .call 9 [(.c (.int .i64 0))], none, 0, true⟩,
      ⟨(some 3), .mv (.t 13), none, 0, true⟩])
  (.seq (.seq (.reg [⟨(some 14), .mv (.t 3), none, 0, true⟩,
        ⟨(some 15), .eqp false (.t 14) (.c .nilp), none, 0, true⟩])
    (.cond (.t 15)
      (.seq (.reg [⟨(some 2), .mv (.c (.bool false)), none, 0, true⟩])
      (.ret))
      (.skip)))
  (.seq (.reg [⟨(some 4), .mv (.c (.int .i64 (-1))), none, 0, true⟩])
  (.seq (.seq (.reg [⟨(some 5), .mv (.c (.int .i64 0)), none, 0, true⟩])
    (.block 0 (
      .loop (
        .seq (.seq (.reg [⟨(some 16), .mv (.t 5), none, 0, true⟩,
              ⟨(some 17), .mv (.t 0), none, 0, true⟩,
              ⟨(some 18), .lenS (.t 17), none, 0, true⟩,
              ⟨(some 19), .bin .lss (.t 16) (.t 18), none, 0, true⟩,
              ⟨(some 20), .mv (.t 19), none, 0, true⟩,
              ⟨(some 21), .mv (.t 5), (some (20, true)), 0, true⟩,
              ⟨(some 22), .bin .lss (.t 21) (.c (.int .i64 40)), (some (20, true)), 0, true⟩,
              ⟨(some 23), .pick (.t 20) (.t 22) (.c (.bool false)), none, 0, true⟩])
          (.cond (.t 23)
            (.skip)
            (.exit 0)))
        (.seq (.block 1 (
            .seq (.reg [⟨(some 26), .mv (.t 0), none, 0, true⟩,
                ⟨(some 27), .mv (.t 5), none, 0, true⟩,
                ⟨(some 28), .indexS 1 (.t 26) (.t 27), none, 0, true⟩,
                ⟨(some 29), .load1 (.t 28), none, 0, true⟩,
                ⟨(some 30), .conv .i64 (.t 29), none, 0, true⟩,
                ⟨(some 31), .bin .rem (.t 30) (.c (.int .i64 4)), none, 0, true⟩,
                ⟨(some 6), .mv (.t 31), none, 0, true⟩])
            (.seq (.seq (.reg [⟨(some 32), .mv (.t 3), none, 0, true⟩,
                  ⟨(some 33), .mv (.t 6), none, 0, true⟩,
                  ⟨(some 34), .call 16 [(.t 32), (.t 33)], none, 0, true⟩,
                  ⟨(some 35), .not (.t 34), none, 0, true⟩])
              (.cond (.t 35)
                (.seq (.seq (.reg [⟨(some 37), .mv (.t 3), none, 0, true⟩,
                      ⟨(some 38), .mv (.t 6), none, 0, true⟩,
                      ⟨(some 39), .call 11 [(.t 37), (.t 38)], none, 0, true⟩,
                      ⟨(some 36), .mv (.t 39), none, 0, true⟩,
                      ⟨(some 40), .ext 0 (.t 36), none, 0, true⟩,
                      ⟨(some 41), .ext 1 (.t 36), none, 0, true⟩,
                      ⟨(some 7), .mv (.t 40), none, 0, true⟩,
                      ⟨(some 8), .mv (.t 41), none, 0, true⟩])
                  (.seq (.reg [⟨(some 42), .mv (.t 8), none, 0, true⟩,
                      ⟨(some 43), .bin .neq (.t 42) (.c (.int .i64 0)), none, 0, true⟩,
                      ⟨(some 44), .mv (.t 43), none, 0, true⟩,
                      ⟨(some 45), .mv (.t 3), (some (44, false)), 0, true⟩,
                      ⟨(some 46), .mv (.t 6), (some (44, false)), 0, true⟩,
                      ⟨(some 47), .call 12 [(.t 45), (.t 46), (.c (.str [107]))], (some (44, false)), 0, true⟩,
                      ⟨(some 48), .bin .neq (.t 47) (.c (.int .i64 0)), (some (44, false)), 0, true⟩,
                      ⟨(some 49), .pick (.t 44) (.c (.bool true)) (.t 48), none, 0, true⟩])
                  (.cond (.t 49)
                    (.seq (.reg [⟨(some 2), .mv (.c (.bool false)), none, 0, true⟩])
                    (.ret))
                    (.skip))))
                (.exit 1))
                (.skip)))
            (.seq (.reg [⟨(some 51), .mv (.t 3), none, 0, true⟩,
                ⟨(some 52), .mv (.t 6), none, 0, true⟩,
                ⟨(some 53), .call 23 [(.t 51), (.t 52)], none, 0, true⟩,
                ⟨(some 50), .mv (.t 53), none, 0, true⟩,
                ⟨(some 54), .ext 0 (.t 50), none, 0, true⟩,
                ⟨(some 55), .ext 1 (.t 50), none, 0, true⟩,
                ⟨(some 9), .mv (.t 54), none, 0, true⟩,
                ⟨(some 10), .mv (.t 55), none, 0, true⟩])
            (.seq (.reg [⟨(some 57), .mv (.t 3), none, 0, true⟩,
                ⟨(some 58), .mv (.t 6), none, 0, true⟩,
                ⟨(some 59), .call 13 [(.t 57), (.t 58)], none, 0, true⟩,
                ⟨(some 56), .mv (.t 59), none, 0, true⟩,
                ⟨(some 60), .ext 0 (.t 56), none, 0, true⟩,
                ⟨(some 61), .ext 1 (.t 56), none, 0, true⟩,
                ⟨(some 11), .mv (.t 60), none, 0, true⟩,
                ⟨(some 12), .mv (.t 61), none, 0, true⟩])
            (.seq (.seq (.reg [⟨(some 62), .mv (.t 12), none, 0, true⟩,
                  ⟨(some 63), .bin .eql (.t 62) (.c (.int .i64 0)), none, 0, true⟩,
                  ⟨(some 64), .mv (.t 4), none, 0, true⟩,
                  ⟨(some 65), .mv (.t 9), none, 0, true⟩,
                  ⟨(some 66), .bin .leq (.t 64) (.t 65), none, 0, true⟩,
                  ⟨(some 67), .eqb true (.t 63) (.t 66), none, 0, true⟩,
                  ⟨(some 68), .mv (.t 67), none, 0, true⟩,
                  ⟨(some 69), .mv (.t 12), (some (68, false)), 0, true⟩,
                  ⟨(some 70), .bin .neq (.t 69) (.c (.int .i64 0)), (some (68, false)), 0, true⟩,
                  ⟨(some 71), .mv (.t 70), (some (68, false)), 0, true⟩,
                  ⟨(some 72), .mv (.t 12), (some (71, true)), 0, true⟩,
                  ⟨(some 73), .bin .neq (.t 72) (.c (.int .i64 13)), (some (71, true)), 0, true⟩,
                  ⟨(some 74), .pick (.t 71) (.t 73) (.c (.bool false)), (some (68, false)), 0, true⟩,
                  ⟨(some 75), .pick (.t 68) (.c (.bool true)) (.t 74), none, 0, true⟩])
              (.cond (.t 75)
                (.seq (.reg [⟨(some 2), .mv (.c (.bool false)), none, 0, true⟩])
                (.ret))
                (.skip)))
            (.seq (.reg [⟨(some 76), .mv (.t 12), none, 0, true⟩,
                ⟨(some 77), .bin .eql (.t 76) (.c (.int .i64 0)), none, 0, true⟩])
            (.cond (.t 77)
              (.reg [⟨(some 78), .mv (.t 11), none, 0, true⟩,
                ⟨(some 4), .mv (.t 78), none, 0, true⟩])
              (.seq (.reg [⟨(some 79), .mv (.t 3), none, 0, true⟩,
                  ⟨(some 80), .mv (.t 6), none, 0, true⟩,
                  ⟨(some 81), .call 14 [(.t 79), (.t 80)], none, 0, true⟩,
                  ⟨(some 82), .bin .neq (.t 81) (.c (.int .i64 0)), none, 0, true⟩])
              (.cond (.t 82)
                (.seq (.reg [⟨(some 2), .mv (.c (.bool false)), none, 0, true⟩])
                (.ret))
                (.skip)))))))))))
        (.reg [⟨(some 24), .mv (.t 5), none, 0, true⟩,
          ⟨(some 25), .bin .add (.t 24) (.c (.int .i64 1)), none, 0, true⟩,
          ⟨(some 5), .mv (.t 25), none, 0, true⟩]))))))
  (.seq (.reg [⟨(some 83), .mv (.t 3), none, 0, true⟩,
      ⟨(some 84), .call 26 [(.t 83)], none, 0, true⟩,
      ⟨(some 85), .mv (.t 4), none, 0, true⟩,
      ⟨(some 86), .bin .geq (.t 84) (.t 85), none, 0, true⟩,
      ⟨(some 2), .mv (.t 86), none, 0, true⟩])
  (.ret))))))
theorem k8 : codeOf Try.prog 8 = some (c8, [.tmp 2], 87, false) := by kernel_rfl

/-- regesta/txn.New -/
def c9 : XCode :=
  .seq (.reg [⟨(some 2), .mv (.c .nilp), none, 0, true⟩])
  (.seq (.reg [⟨(some 3), .mv (.t 0), none, 0, true⟩,
      ⟨(some 4), .max2 (.t 3) (.c (.int .i64 0)), none, 0, true⟩,
      ⟨(some 5), .min2 (.t 4) (.c (.int .i64 1073741824)), none, 0, true⟩,
      ⟨(some 0), .mv (.t 5), none, 0, true⟩])
  (.seq (.reg [⟨(some 6), .mv (.t 0), none, 0, true⟩,
      ⟨(some 7), .mv (.t 0), none, 0, true⟩,
      ⟨(some 8), .mkmap, none, 0, true⟩,
      ⟨(some 9), .build [(.int .i64 0), (.int .i64 0), (.bool false), (.int .i64 0), .nilm, (.bool false), (.int .i64 0), .nilm, (.bool false), (.int .i64 0), .nilm, (.bool false), (.int .i64 0), .nilm, .nilm] [(0, 1, (.t 6)), (1, 1, (.t 7)), (14, 1, (.t 8))], none, 0, true⟩,
      ⟨(some 10), .box 61 15 (.t 9), none, 0, true⟩,
      ⟨(some 2), .mv (.t 10), none, 0, true⟩])
  (.ret)))
theorem k9 : codeOf Try.prog 9 = some (c9, [.tmp 2], 11, false) := by kernel_rfl

/-- regesta/regestalaw22.live -/
def c10 : XCode :=
  .seq (.reg [⟨(some 0), .mv (.c (.bool false)), none, 0, true⟩])
  (.seq (.reg [⟨(some 14), .call 9 [(.c (.int .i64 0))], none, 0, true⟩,
      ⟨(some 1), .mv (.t 14), none, 0, true⟩])
  (.seq (.reg [⟨(some 16), .mv (.t 1), none, 0, true⟩,
      ⟨(some 17), .call 11 [(.t 16), (.c (.int .i64 0))], none, 0, true⟩,
      ⟨(some 15), .mv (.t 17), none, 0, true⟩,
      ⟨(some 18), .ext 0 (.t 15), none, 0, true⟩,
      ⟨(some 19), .ext 1 (.t 15), none, 0, true⟩,
      ⟨(some 2), .mv (.t 18), none, 0, true⟩,
      ⟨(some 3), .mv (.t 19), none, 0, true⟩])
  (.seq (.reg [⟨(some 21), .mv (.t 1), none, 0, true⟩,
      ⟨(some 22), .call 11 [(.t 21), (.c (.int .i64 1))], none, 0, true⟩,
      ⟨(some 20), .mv (.t 22), none, 0, true⟩,
      ⟨(some 23), .ext 0 (.t 20), none, 0, true⟩,
      ⟨(some 24), .ext 1 (.t 20), none, 0, true⟩,
      ⟨(some 4), .mv (.t 23), none, 0, true⟩,
      ⟨(some 5), .mv (.t 24), none, 0, true⟩])
  (.seq (.reg [⟨(some 25), .mv (.t 1), none, 0, true⟩,
      ⟨(some 26), .call 12 [(.t 25), (.c (.int .i64 0)), (.c (.str [97]))], none, 0, true⟩,
      ⟨(some 27), .mv (.t 1), none, 0, true⟩,
      ⟨(some 28), .call 12 [(.t 27), (.c (.int .i64 1)), (.c (.str [97]))], none, 0, true⟩,
      ⟨(some 6), .mv (.t 26), none, 0, true⟩,
      ⟨(some 7), .mv (.t 28), none, 0, true⟩])
  (.seq (.reg [⟨(some 30), .mv (.t 1), none, 0, true⟩,
      ⟨(some 31), .call 13 [(.t 30), (.c (.int .i64 0))], none, 0, true⟩,
      ⟨(some 29), .mv (.t 31), none, 0, true⟩,
      ⟨(some 32), .ext 0 (.t 29), none, 0, true⟩,
      ⟨(some 33), .ext 1 (.t 29), none, 0, true⟩,
      ⟨(some 8), .mv (.t 32), none, 0, true⟩,
      ⟨(some 9), .mv (.t 33), none, 0, true⟩])
  (.seq (.reg [⟨(some 35), .mv (.t 1), none, 0, true⟩,
      ⟨(some 36), .call 13 [(.t 35), (.c (.int .i64 1))], none, 0, true⟩,
      ⟨(some 34), .mv (.t 36), none, 0, true⟩,
      ⟨(some 37), .ext 0 (.t 34), none, 0, true⟩,
      ⟨(some 38), .ext 1 (.t 34), none, 0, true⟩,
      ⟨(some 10), .mv (.t 37), none, 0, true⟩,
      ⟨(some 11), .mv (.t 38), none, 0, true⟩])
  (.seq (.reg [⟨(some 40), .mv (.t 1), none, 0, true⟩,
      ⟨(some 41), .call 24 [(.t 40)], none, 0, true⟩,
      ⟨(some 39), .mv (.t 41), none, 0, true⟩,
      ⟨(some 42), .ext 0 (.t 39), none, 0, true⟩,
      ⟨(some 43), .ext 1 (.t 39), none, 0, true⟩,
      ⟨(some 12), .mv (.t 42), none, 0, true⟩,
      ⟨(some 13), .mv (.t 43), none, 0, true⟩])
  (.seq (.reg [⟨(some 44), .mv (.t 2), none, 0, true⟩,
      ⟨(some 45), .bin .eql (.t 44) (.c (.int .i64 0)), none, 0, true⟩,
      ⟨(some 46), .mv (.t 45), none, 0, true⟩,
      ⟨(some 47), .mv (.t 3), (some (46, true)), 0, true⟩,
      ⟨(some 48), .bin .eql (.t 47) (.c (.int .i64 0)), (some (46, true)), 0, true⟩,
      ⟨(some 49), .pick (.t 46) (.t 48) (.c (.bool false)), none, 0, true⟩,
      ⟨(some 50), .mv (.t 49), none, 0, true⟩,
      ⟨(some 51), .mv (.t 4), (some (50, true)), 0, true⟩,
      ⟨(some 52), .bin .eql (.t 51) (.c (.int .i64 0)), (some (50, true)), 0, true⟩,
      ⟨(some 53), .pick (.t 50) (.t 52) (.c (.bool false)), none, 0, true⟩,
      ⟨(some 54), .mv (.t 53), none, 0, true⟩,
      ⟨(some 55), .mv (.t 5), (some (54, true)), 0, true⟩,
      ⟨(some 56), .bin .eql (.t 55) (.c (.int .i64 0)), (some (54, true)), 0, true⟩,
      ⟨(some 57), .pick (.t 54) (.t 56) (.c (.bool false)), none, 0, true⟩,
      ⟨(some 58), .mv (.t 57), none, 0, true⟩,
      ⟨(some 59), .mv (.t 6), (some (58, true)), 0, true⟩,
      ⟨(some 60), .bin .eql (.t 59) (.c (.int .i64 0)), (some (58, true)), 0, true⟩,
      ⟨(some 61), .pick (.t 58) (.t 60) (.c (.bool false)), none, 0, true⟩,
      ⟨(some 62), .mv (.t 61), none, 0, true⟩,
      ⟨(some 63), .mv (.t 7), (some (62, true)), 0, true⟩,
      ⟨(some 64), .bin .eql (.t 63) (.c (.int .i64 0)), (some (62, true)), 0, true⟩,
      ⟨(some 65), .pick (.t 62) (.t 64) (.c (.bool false)), none, 0, true⟩,
      ⟨(some 66), .mv (.t 65), none, 0, true⟩,
      ⟨(some 67), .mv (.t 8), (some (66, true)), 0, true⟩,
      ⟨(some 68), .bin .eql (.t 67) (.c (.int .i64 1)), (some (66, true)), 0, true⟩,
      ⟨(some 69), .pick (.t 66) (.t 68) (.c (.bool false)), none, 0, true⟩,
      ⟨(some 70), .mv (.t 69), none, 0, true⟩,
      ⟨(some 71), .mv (.t 9), (some (70, true)), 0, true⟩,
      ⟨(some 72), .bin .eql (.t 71) (.c (.int .i64 0)), (some (70, true)), 0, true⟩,
      ⟨(some 73), .pick (.t 70) (.t 72) (.c (.bool false)), none, 0, true⟩,
      ⟨(some 74), .mv (.t 73), none, 0, true⟩,
      ⟨(some 75), .mv (.t 11), (some (74, true)), 0, true⟩,
      ⟨(some 76), .bin .eql (.t 75) (.c (.int .i64 13)), (some (74, true)), 0, true⟩,
      ⟨(some 77), .pick (.t 74) (.t 76) (.c (.bool false)), none, 0, true⟩,
      ⟨(some 78), .mv (.t 77), none, 0, true⟩,
      ⟨(some 79), .mv (.t 13), (some (78, true)), 0, true⟩,
      ⟨(some 80), .pick (.t 78) (.t 79) (.c (.bool false)), none, 0, true⟩,
      ⟨(some 81), .mv (.t 80), none, 0, true⟩,
      ⟨(some 82), .mv (.t 12), (some (81, true)), 0, true⟩,
      ⟨(some 83), .bin .eql (.t 82) (.c (.int .i64 0)), (some (81, true)), 0, true⟩,
      ⟨(some 84), .pick (.t 81) (.t 83) (.c (.bool false)), none, 0, true⟩,
      ⟨(some 85), .mv (.t 84), none, 0, true⟩,
      ⟨(some 86), .mv (.t 1), (some (85, true)), 0, true⟩,
      ⟨(some 87), .call 26 [(.t 86)], (some (85, true)), 0, true⟩,
      ⟨(some 88), .bin .eql (.t 87) (.c (.int .i64 1)), (some (85, true)), 0, true⟩,
      ⟨(some 89), .pick (.t 85) (.t 88) (.c (.bool false)), none, 0, true⟩,
      ⟨(some 90), .mv (.t 89), none, 0, true⟩,
      ⟨(some 91), .mv (.t 1), (some (90, true)), 0, true⟩,
      ⟨(some 92), .call 14 [(.t 91), (.c (.int .i64 1))], (some (90, true)), 0, true⟩,
      ⟨(some 93), .bin .eql (.t 92) (.c (.int .i64 0)), (some (90, true)), 0, true⟩,
      ⟨(some 94), .pick (.t 90) (.t 93) (.c (.bool false)), none, 0, true⟩,
      ⟨(some 0), .mv (.t 94), none, 0, true⟩])
  (.ret)))))))))
theorem k10 : codeOf Try.prog 10 = some (c10, [.tmp 0], 95, false) := by kernel_rfl

/-- (*regesta/txn.Manager).Begin -/
def c11 : XCode :=
  .seq (.reg [⟨(some 4), .mv (.c (.int .i64 0)), none, 0, true⟩,
      ⟨(some 5), .mv (.c (.int .i64 0)), none, 0, true⟩])
  (.seq (.reg [⟨(some 9), .mv (.t 0), none, 0, true⟩,
      ⟨(some 10), .mv (.t 1), none, 0, true⟩,
      ⟨(some 11), .call 28 [(.t 9), (.t 10)], none, 0, true⟩,
      ⟨(some 8), .mv (.t 11), none, 0, true⟩,
      ⟨(some 12), .ext 0 (.t 8), none, 0, true⟩,
      ⟨(some 13), .ext 1 (.t 8), none, 0, true⟩,
      ⟨(some 6), .mv (.t 12), none, 0, true⟩,
      ⟨(some 7), .mv (.t 13), none, 0, true⟩])
  (.seq (.block 0 (
      .seq (.reg [⟨(some 15), .mv (.t 7), none, 0, true⟩,
          ⟨(some 16), .bin .neq (.t 15) (.c (.int .i64 0)), none, 0, true⟩,
          ⟨(some 14), .mv (.t 16), none, 0, true⟩])
      (.cond (.t 14)
        (.seq (.reg [⟨(some 17), .mv (.t 7), none, 0, true⟩,
            ⟨(some 4), .mv (.c (.int .i64 0)), none, 0, true⟩,
            ⟨(some 5), .mv (.t 17), none, 0, true⟩])
        (.ret))
        (.seq (.reg [⟨(some 19), .mv (.t 6), none, 0, true⟩,
            ⟨(some 20), .nilck (.t 19), none, 0, true⟩,
            ⟨(some 21), .fieldA 0 (.t 20), none, 0, true⟩,
            ⟨(some 22), .load1 (.t 21), none, 0, true⟩,
            ⟨(some 18), .mv (.t 22), none, 0, true⟩])
        (.cond (.t 18)
          (.seq (.reg [⟨(some 4), .mv (.c (.int .i64 0)), none, 0, true⟩,
              ⟨(some 5), .mv (.c (.int .i64 7)), none, 0, true⟩])
          (.ret))
          (.skip))))))
  (.seq (.regD [⟨(some 23), .mv (.t 0), none, 0, false⟩,
      ⟨(some 24), .mv (.t 0), none, 0, false⟩,
      ⟨(some 25), .nilck (.t 24), none, 2, false⟩,
      ⟨(some 26), .fieldA 1 (.t 25), none, 6, false⟩,
      ⟨(some 27), .load1 (.t 26), none, 14, false⟩,
      ⟨(some 28), .mv (.t 0), none, 0, false⟩,
      ⟨(some 29), .nilck (.t 28), none, 32, false⟩,
      ⟨(some 30), .fieldA 0 (.t 29), none, 96, false⟩,
      ⟨(some 31), .load1 (.t 30), none, 224, false⟩,
      ⟨(some 32), .max2 (.t 27) (.t 31), none, 510, false⟩,
      ⟨(some 33), .nilck (.t 23), none, 1023, false⟩,
      ⟨(some 34), .fieldA 1 (.t 33), none, 2047, false⟩,
      ⟨none, .store 1 (.t 34) (.t 32), none, 4095, true⟩])
  (.seq (.reg [⟨(some 35), .mv (.t 6), none, 0, true⟩,
      ⟨(some 36), .mv (.t 0), none, 0, true⟩,
      ⟨(some 37), .nilck (.t 36), none, 0, true⟩,
      ⟨(some 38), .fieldA 1 (.t 37), none, 0, true⟩,
      ⟨(some 39), .load1 (.t 38), none, 0, true⟩,
      ⟨(some 40), .mkmap, none, 0, true⟩,
      ⟨(some 41), .build [(.bool false), (.int .i64 0), .nilm] [(0, 1, (.c (.bool true))), (1, 1, (.t 39)), (2, 1, (.t 40))], none, 0, true⟩,
      ⟨(some 42), .nilck (.t 35), none, 0, true⟩,
      ⟨none, .store 3 (.t 42) (.t 41), none, 0, true⟩])
  (.seq (.reg [⟨(some 43), .mv (.t 0), none, 0, true⟩,
      ⟨(some 44), .nilck (.t 43), none, 0, true⟩,
      ⟨(some 45), .fieldA 1 (.t 44), none, 0, true⟩,
      ⟨(some 46), .load1 (.t 45), none, 0, true⟩,
      ⟨(some 4), .mv (.t 46), none, 0, true⟩,
      ⟨(some 5), .mv (.c (.int .i64 0)), none, 0, true⟩])
  (.ret))))))
theorem k11 : codeOf Try.prog 11 = some (c11, [.tmp 4, .tmp 5], 47, false) := by kernel_rfl

/-- (*regesta/txn.Manager).Write -/
def c12 : XCode :=
  .seq (.reg [⟨(some 6), .mv (.c (.int .i64 0)), none, 0, true⟩])
  (.seq (.reg [⟨(some 10), .mv (.t 0), none, 0, true⟩,
      ⟨(some 11), .mv (.t 1), none, 0, true⟩,
      ⟨(some 12), .call 29 [(.t 10), (.t 11)], none, 0, true⟩,
      ⟨(some 9), .mv (.t 12), none, 0, true⟩,
      ⟨(some 13), .ext 0 (.t 9), none, 0, true⟩,
      ⟨(some 14), .ext 1 (.t 9), none, 0, true⟩,
      ⟨(some 7), .mv (.t 13), none, 0, true⟩,
      ⟨(some 8), .mv (.t 14), none, 0, true⟩])
  (.seq (.seq (.reg [⟨(some 15), .mv (.t 8), none, 0, true⟩,
        ⟨(some 16), .bin .eql (.t 15) (.c (.int .i64 0)), none, 0, true⟩])
    (.cond (.t 16)
      (.reg [⟨(some 17), .mv (.t 7), none, 0, true⟩,
        ⟨(some 18), .nilck (.t 17), none, 0, true⟩,
        ⟨(some 19), .fieldA 2 (.t 18), none, 0, true⟩,
        ⟨(some 20), .load1 (.t 19), none, 0, true⟩,
        ⟨(some 21), .mv (.t 2), none, 0, true⟩,
        ⟨none, .mapUpd false [(.str [])] (.t 20) (.t 21) (.c (.bool true)), none, 0, true⟩])
      (.skip)))
  (.seq (.reg [⟨(some 22), .mv (.t 8), none, 0, true⟩,
      ⟨(some 6), .mv (.t 22), none, 0, true⟩])
  (.ret))))
theorem k12 : codeOf Try.prog 12 = some (c12, [.tmp 6], 23, false) := by kernel_rfl

/-- (*regesta/txn.Manager).Commit -/
def c13 : XCode :=
  .seq (.reg [⟨(some 4), .mv (.c (.int .i64 0)), none, 0, true⟩,
      ⟨(some 5), .mv (.c (.int .i64 0)), none, 0, true⟩])
  (.seq (.seq (.reg [⟨(some 9), .mv (.t 0), none, 0, true⟩,
        ⟨(some 10), .mv (.t 1), none, 0, true⟩,
        ⟨(some 11), .call 25 [(.t 9), (.t 10)], none, 0, true⟩,
        ⟨(some 6), .mv (.t 11), none, 0, true⟩])
    (.seq (.reg [⟨(some 12), .mv (.t 6), none, 0, true⟩,
        ⟨(some 13), .bin .neq (.t 12) (.c (.int .i64 0)), none, 0, true⟩])
    (.cond (.t 13)
      (.seq (.reg [⟨(some 14), .mv (.t 6), none, 0, true⟩,
          ⟨(some 4), .mv (.c (.int .i64 0)), none, 0, true⟩,
          ⟨(some 5), .mv (.t 14), none, 0, true⟩])
      (.ret))
      (.skip))))
  (.seq (.regD [⟨(some 15), .mv (.t 0), none, 0, false⟩,
      ⟨(some 16), .mv (.t 0), none, 0, false⟩,
      ⟨(some 17), .nilck (.t 16), none, 2, false⟩,
      ⟨(some 18), .fieldA 1 (.t 17), none, 6, false⟩,
      ⟨(some 19), .load1 (.t 18), none, 14, false⟩,
      ⟨(some 20), .bin .add (.t 19) (.c (.int .i64 1)), none, 30, false⟩,
      ⟨(some 21), .mv (.t 0), none, 0, false⟩,
      ⟨(some 22), .nilck (.t 21), none, 64, false⟩,
      ⟨(some 23), .fieldA 0 (.t 22), none, 192, false⟩,
      ⟨(some 24), .load1 (.t 23), none, 448, false⟩,
      ⟨(some 25), .max2 (.t 20) (.t 24), none, 1022, false⟩,
      ⟨(some 26), .nilck (.t 15), none, 2047, false⟩,
      ⟨(some 27), .fieldA 1 (.t 26), none, 4095, false⟩,
      ⟨none, .store 1 (.t 27) (.t 25), none, 8191, true⟩])
  (.seq (.reg [⟨(some 28), .mv (.t 0), none, 0, true⟩,
      ⟨(some 29), .mv (.t 1), none, 0, true⟩,
      ⟨(some 30), .nilck (.t 28), none, 0, true⟩,
      ⟨(some 31), .fieldA 2 (.t 30), none, 0, true⟩,
      ⟨(some 32), .indexA 3 4 (.t 31) (.t 29), none, 0, true⟩,
      ⟨(some 7), .mv (.t 32), none, 0, true⟩])
  (.seq (.seq (.reg [⟨(some 33), .mv (.t 7), none, 0, true⟩,
        ⟨(some 34), .nilck (.t 33), none, 0, true⟩,
        ⟨(some 35), .fieldA 2 (.t 34), none, 0, true⟩,
        ⟨(some 36), .load1 (.t 35), none, 0, true⟩,
        ⟨(some 37), .range (.t 36), none, 0, true⟩])
    (.block 0 (
      .loop (
        .seq (.reg [⟨(some 38), .next (.t 37), none, 0, true⟩,
            ⟨(some 39), .ext 0 (.t 38), none, 0, true⟩])
        (.seq (.cond (.t 39)
            (.skip)
            (.exit 0))
        (.block 1 (
          .seq (.reg [⟨(some 40), .entry (.t 37), none, 0, true⟩,
              ⟨(some 41), .ext 0 (.t 40), none, 0, true⟩,
              ⟨(some 8), .mv (.t 41), none, 0, true⟩])
          (.regD [⟨(some 42), .mv (.t 0), none, 0, false⟩,
            ⟨(some 43), .nilck (.t 42), none, 1, false⟩,
            ⟨(some 44), .fieldA 14 (.t 43), none, 3, false⟩,
            ⟨(some 45), .load1 (.t 44), none, 7, false⟩,
            ⟨(some 46), .mv (.t 8), none, 0, false⟩,
            ⟨(some 47), .mv (.t 0), none, 0, false⟩,
            ⟨(some 48), .nilck (.t 47), none, 32, false⟩,
            ⟨(some 49), .fieldA 1 (.t 48), none, 96, false⟩,
            ⟨(some 50), .load1 (.t 49), none, 224, false⟩,
            ⟨none, .mapUpd false [(.str [])] (.t 45) (.t 46) (.t 50), none, 511, true⟩]))))))))
  (.seq (.reg [⟨(some 51), .mv (.t 7), none, 0, true⟩,
      ⟨(some 52), .build [(.bool false), (.int .i64 0), .nilm] [], none, 0, true⟩,
      ⟨(some 53), .nilck (.t 51), none, 0, true⟩,
      ⟨none, .store 3 (.t 53) (.t 52), none, 0, true⟩])
  (.seq (.reg [⟨(some 54), .mv (.t 0), none, 0, true⟩,
      ⟨(some 55), .nilck (.t 54), none, 0, true⟩,
      ⟨(some 56), .fieldA 1 (.t 55), none, 0, true⟩,
      ⟨(some 57), .load1 (.t 56), none, 0, true⟩,
      ⟨(some 4), .mv (.t 57), none, 0, true⟩,
      ⟨(some 5), .mv (.c (.int .i64 0)), none, 0, true⟩])
  (.ret)))))))
theorem k13 : codeOf Try.prog 13 = some (c13, [.tmp 4, .tmp 5], 58, false) := by kernel_rfl

/-- (*regesta/txn.Manager).End -/
def c14 : XCode :=
  .seq (.reg [⟨(some 4), .mv (.c (.int .i64 0)), none, 0, true⟩])
  (.seq (.reg [⟨(some 8), .mv (.t 0), none, 0, true⟩,
      ⟨(some 9), .mv (.t 1), none, 0, true⟩,
      ⟨(some 10), .call 29 [(.t 8), (.t 9)], none, 0, true⟩,
      ⟨(some 7), .mv (.t 10), none, 0, true⟩,
      ⟨(some 11), .ext 0 (.t 7), none, 0, true⟩,
      ⟨(some 12), .ext 1 (.t 7), none, 0, true⟩,
      ⟨(some 5), .mv (.t 11), none, 0, true⟩,
      ⟨(some 6), .mv (.t 12), none, 0, true⟩])
  (.seq (.seq (.reg [⟨(some 13), .mv (.t 6), none, 0, true⟩,
        ⟨(some 14), .bin .eql (.t 13) (.c (.int .i64 0)), none, 0, true⟩])
    (.cond (.t 14)
      (.reg [⟨(some 15), .mv (.t 5), none, 0, true⟩,
        ⟨(some 16), .build [(.bool false), (.int .i64 0), .nilm] [], none, 0, true⟩,
        ⟨(some 17), .nilck (.t 15), none, 0, true⟩,
        ⟨none, .store 3 (.t 17) (.t 16), none, 0, true⟩])
      (.skip)))
  (.seq (.reg [⟨(some 18), .mv (.t 6), none, 0, true⟩,
      ⟨(some 4), .mv (.t 18), none, 0, true⟩])
  (.ret))))
theorem k14 : codeOf Try.prog 14 = some (c14, [.tmp 4], 19, false) := by kernel_rfl

/-- (*regesta/txn.Manager).Tick -/
def c15 : XCode :=
  .seq (.seq (.reg [⟨(some 4), .mv (.t 0), none, 0, true⟩,
        ⟨(some 5), .eqp false (.t 4) (.c .nilp), none, 0, true⟩,
        ⟨(some 6), .mv (.t 5), none, 0, true⟩,
        ⟨(some 7), .mv (.t 1), (some (6, false)), 0, true⟩,
        ⟨(some 8), .bin .lss (.t 7) (.c (.int .i64 1)), (some (6, false)), 0, true⟩,
        ⟨(some 9), .pick (.t 6) (.c (.bool true)) (.t 8), none, 0, true⟩])
    (.cond (.t 9)
      (.ret)
      (.skip)))
  (.regD [⟨(some 10), .mv (.t 0), none, 0, false⟩,
    ⟨(some 11), .nilck (.t 10), none, 1, false⟩,
    ⟨(some 12), .fieldA 0 (.t 11), none, 3, false⟩,
    ⟨(some 13), .load1 (.t 12), none, 7, false⟩,
    ⟨(some 14), .mv (.t 1), none, 0, false⟩,
    ⟨(some 15), .mv (.t 0), none, 0, false⟩,
    ⟨(some 16), .nilck (.t 15), none, 32, false⟩,
    ⟨(some 17), .fieldA 0 (.t 16), none, 96, false⟩,
    ⟨(some 18), .load1 (.t 17), none, 224, false⟩,
    ⟨(some 19), .bin .sub (.c (.int .i64 1073741824)) (.t 18), none, 480, false⟩,
    ⟨(some 20), .min2 (.t 14) (.t 19), none, 1008, false⟩,
    ⟨(some 21), .bin .add (.t 13) (.t 20), none, 2047, false⟩,
    ⟨(some 22), .nilck (.t 10), none, 4095, false⟩,
    ⟨(some 23), .fieldA 0 (.t 22), none, 8191, false⟩,
    ⟨none, .store 1 (.t 23) (.t 21), none, 16383, true⟩])
theorem k15 : codeOf Try.prog 15 = some (c15, [], 24, false) := by kernel_rfl

/-- (*regesta/txn.Manager).Open -/
def c16 : XCode :=
  .seq (.reg [⟨(some 4), .mv (.c (.bool false)), none, 0, true⟩])
  (.seq (.reg [⟨(some 8), .mv (.t 0), none, 0, true⟩,
      ⟨(some 9), .mv (.t 1), none, 0, true⟩,
      ⟨(some 10), .call 29 [(.t 8), (.t 9)], none, 0, true⟩,
      ⟨(some 7), .mv (.t 10), none, 0, true⟩,
      ⟨(some 11), .ext 0 (.t 7), none, 0, true⟩,
      ⟨(some 12), .ext 1 (.t 7), none, 0, true⟩,
      ⟨(some 5), .mv (.t 11), none, 0, true⟩,
      ⟨(some 6), .mv (.t 12), none, 0, true⟩])
  (.seq (.reg [⟨(some 13), .mv (.t 6), none, 0, true⟩,
      ⟨(some 14), .bin .eql (.t 13) (.c (.int .i64 0)), none, 0, true⟩,
      ⟨(some 4), .mv (.t 14), none, 0, true⟩])
  (.ret)))
theorem k16 : codeOf Try.prog 16 = some (c16, [.tmp 4], 15, false) := by kernel_rfl

/-- (*regesta/txn.Manager).Clock -/
def c17 : XCode :=
  .seq (.reg [⟨(some 2), .mv (.c (.int .i64 0)), none, 0, true⟩])
  (.seq (.seq (.reg [⟨(some 3), .mv (.t 0), none, 0, true⟩,
        ⟨(some 4), .eqp false (.t 3) (.c .nilp), none, 0, true⟩])
    (.cond (.t 4)
      (.seq (.reg [⟨(some 2), .mv (.c (.int .i64 0)), none, 0, true⟩])
      (.ret))
      (.skip)))
  (.seq (.reg [⟨(some 5), .mv (.t 0), none, 0, true⟩,
      ⟨(some 6), .nilck (.t 5), none, 0, true⟩,
      ⟨(some 7), .fieldA 0 (.t 6), none, 0, true⟩,
      ⟨(some 8), .load1 (.t 7), none, 0, true⟩,
      ⟨(some 2), .mv (.t 8), none, 0, true⟩])
  (.ret)))
theorem k17 : codeOf Try.prog 17 = some (c17, [.tmp 2], 9, false) := by kernel_rfl

/-- (*regesta/txn.Manager).Since -/
def c23 : XCode :=
  .seq (.reg [⟨(some 4), .mv (.c (.int .i64 0)), none, 0, true⟩,
      ⟨(some 5), .mv (.c (.bool false)), none, 0, true⟩])
  (.seq (.reg [⟨(some 9), .mv (.t 0), none, 0, true⟩,
      ⟨(some 10), .mv (.t 1), none, 0, true⟩,
      ⟨(some 11), .call 29 [(.t 9), (.t 10)], none, 0, true⟩,
      ⟨(some 8), .mv (.t 11), none, 0, true⟩,
      ⟨(some 12), .ext 0 (.t 8), none, 0, true⟩,
      ⟨(some 13), .ext 1 (.t 8), none, 0, true⟩,
      ⟨(some 6), .mv (.t 12), none, 0, true⟩,
      ⟨(some 7), .mv (.t 13), none, 0, true⟩])
  (.seq (.seq (.reg [⟨(some 14), .mv (.t 7), none, 0, true⟩,
        ⟨(some 15), .bin .neq (.t 14) (.c (.int .i64 0)), none, 0, true⟩])
    (.cond (.t 15)
      (.seq (.reg [⟨(some 4), .mv (.c (.int .i64 0)), none, 0, true⟩,
          ⟨(some 5), .mv (.c (.bool false)), none, 0, true⟩])
      (.ret))
      (.skip)))
  (.seq (.reg [⟨(some 16), .mv (.t 6), none, 0, true⟩,
      ⟨(some 17), .nilck (.t 16), none, 0, true⟩,
      ⟨(some 18), .fieldA 1 (.t 17), none, 0, true⟩,
      ⟨(some 19), .load1 (.t 18), none, 0, true⟩,
      ⟨(some 4), .mv (.t 19), none, 0, true⟩,
      ⟨(some 5), .mv (.c (.bool true)), none, 0, true⟩])
  (.ret))))
theorem k23 : codeOf Try.prog 23 = some (c23, [.tmp 4, .tmp 5], 20, false) := by kernel_rfl

/-- (*regesta/txn.Manager).Oldest -/
def c24 : XCode :=
  .seq (.reg [⟨(some 2), .mv (.c (.int .i64 0)), none, 0, true⟩,
      ⟨(some 3), .mv (.c (.bool false)), none, 0, true⟩])
  (.seq (.seq (.reg [⟨(some 7), .mv (.t 0), none, 0, true⟩,
        ⟨(some 8), .eqp false (.t 7) (.c .nilp), none, 0, true⟩])
    (.cond (.t 8)
      (.seq (.reg [⟨(some 2), .mv (.c (.int .i64 0)), none, 0, true⟩,
          ⟨(some 3), .mv (.c (.bool false)), none, 0, true⟩])
      (.ret))
      (.skip)))
  (.seq (.reg [⟨(some 4), .nilrow 3 1, none, 0, true⟩])
  (.seq (.seq (.reg [⟨(some 9), .mv (.t 0), none, 0, true⟩,
        ⟨(some 10), .nilck (.t 9), none, 0, true⟩,
        ⟨(some 11), .fieldA 2 (.t 10), none, 0, true⟩,
        ⟨(some 12), .loadn 12 (.t 11), none, 0, true⟩,
        ⟨(some 13), .mv (.c (.int .i64 0)), none, 0, true⟩])
    (.block 0 (
      .loop (
        .seq (.reg [⟨(some 14), .bin .lss (.t 13) (.c (.int .i64 4)), none, 0, true⟩])
        (.seq (.cond (.t 14)
            (.skip)
            (.exit 0))
        (.seq (.block 1 (
            .seq (.reg [⟨(some 15), .indexV 3 4 false (.t 12) (.t 13), none, 0, true⟩,
                ⟨(some 6), .alloc 58 [(.bool false), (.int .i64 0), .nilm], none, 0, true⟩,
                ⟨none, .store 3 (.t 6) (.t 15), none, 0, true⟩])
            (.seq (.reg [⟨(some 16), .fieldA 0 (.t 6), none, 0, true⟩,
                ⟨(some 17), .load1 (.t 16), none, 0, true⟩])
            (.cond (.t 17)
              (.reg [⟨(some 18), .mv (.t 4), none, 0, true⟩,
                ⟨(some 19), .fieldA 1 (.t 6), none, 0, true⟩,
                ⟨(some 20), .load1 (.t 19), none, 0, true⟩,
                ⟨(some 21), .mkrow 3 1 1 [(.int .i64 0)] [(0, (.t 20))], none, 0, true⟩,
                ⟨(some 22), .append 3 1 8 (.t 18) (.t 21), none, 0, true⟩,
                ⟨(some 4), .mv (.t 22), none, 0, true⟩])
              (.skip)))))
        (.reg [⟨(some 23), .bin .add (.t 13) (.c (.int .i64 1)), none, 0, true⟩,
          ⟨(some 13), .mv (.t 23), none, 0, true⟩])))))))
  (.seq (.seq (.reg [⟨(some 24), .mv (.t 4), none, 0, true⟩,
        ⟨(some 25), .lenS (.t 24), none, 0, true⟩,
        ⟨(some 26), .bin .eql (.t 25) (.c (.int .i64 0)), none, 0, true⟩])
    (.cond (.t 26)
      (.seq (.reg [⟨(some 2), .mv (.c (.int .i64 0)), none, 0, true⟩,
          ⟨(some 3), .mv (.c (.bool false)), none, 0, true⟩])
      (.ret))
      (.skip)))
  (.seq (.reg [⟨(some 27), .mv (.t 4), none, 0, true⟩,
      ⟨(some 28), .call 46 [(.t 27)], none, 0, true⟩,
      ⟨(some 2), .mv (.t 28), none, 0, true⟩,
      ⟨(some 3), .mv (.c (.bool true)), none, 0, true⟩])
  (.ret))))))
theorem k24 : codeOf Try.prog 24 = some (c24, [.tmp 2, .tmp 3], 29, false) := by kernel_rfl

/-- (*regesta/txn.Manager).Test -/
def c25 : XCode :=
  .seq (.reg [⟨(some 4), .mv (.c (.int .i64 0)), none, 0, true⟩])
  (.seq (.reg [⟨(some 11), .mv (.t 0), none, 0, true⟩,
      ⟨(some 12), .mv (.t 1), none, 0, true⟩,
      ⟨(some 13), .call 29 [(.t 11), (.t 12)], none, 0, true⟩,
      ⟨(some 10), .mv (.t 13), none, 0, true⟩,
      ⟨(some 14), .ext 0 (.t 10), none, 0, true⟩,
      ⟨(some 15), .ext 1 (.t 10), none, 0, true⟩,
      ⟨(some 5), .mv (.t 14), none, 0, true⟩,
      ⟨(some 6), .mv (.t 15), none, 0, true⟩])
  (.seq (.seq (.reg [⟨(some 16), .mv (.t 6), none, 0, true⟩,
        ⟨(some 17), .bin .neq (.t 16) (.c (.int .i64 0)), none, 0, true⟩])
    (.cond (.t 17)
      (.seq (.reg [⟨(some 18), .mv (.t 6), none, 0, true⟩,
          ⟨(some 4), .mv (.t 18), none, 0, true⟩])
      (.ret))
      (.skip)))
  (.seq (.seq (.reg [⟨(some 19), .mv (.t 5), none, 0, true⟩,
        ⟨(some 20), .nilck (.t 19), none, 0, true⟩,
        ⟨(some 21), .fieldA 2 (.t 20), none, 0, true⟩,
        ⟨(some 22), .load1 (.t 21), none, 0, true⟩,
        ⟨(some 23), .range (.t 22), none, 0, true⟩])
    (.block 0 (
      .loop (
        .seq (.reg [⟨(some 24), .next (.t 23), none, 0, true⟩,
            ⟨(some 25), .ext 0 (.t 24), none, 0, true⟩])
        (.seq (.cond (.t 25)
            (.skip)
            (.exit 0))
        (.block 1 (
          .seq (.reg [⟨(some 26), .entry (.t 23), none, 0, true⟩,
              ⟨(some 27), .ext 0 (.t 26), none, 0, true⟩,
              ⟨(some 7), .mv (.t 27), none, 0, true⟩])
          (.seq (.reg [⟨(some 29), .mv (.t 0), none, 0, true⟩,
              ⟨(some 30), .nilck (.t 29), none, 0, true⟩,
              ⟨(some 31), .fieldA 14 (.t 30), none, 0, true⟩,
              ⟨(some 32), .load1 (.t 31), none, 0, true⟩,
              ⟨(some 33), .mv (.t 7), none, 0, true⟩,
              ⟨(some 34), .lookup false [(.str [])] (.int .i64 0) true (.t 32) (.t 33), none, 0, true⟩,
              ⟨(some 28), .mv (.t 34), none, 0, true⟩,
              ⟨(some 35), .ext 0 (.t 28), none, 0, true⟩,
              ⟨(some 36), .ext 1 (.t 28), none, 0, true⟩,
              ⟨(some 8), .mv (.t 35), none, 0, true⟩,
              ⟨(some 9), .mv (.t 36), none, 0, true⟩])
          (.seq (.reg [⟨(some 37), .mv (.t 9), none, 0, true⟩,
              ⟨(some 38), .mv (.t 37), none, 0, true⟩,
              ⟨(some 39), .mv (.t 8), (some (38, true)), 0, true⟩,
              ⟨(some 40), .mv (.t 5), (some (38, true)), 0, true⟩,
              ⟨(some 41), .nilck (.t 40), (some (38, true)), 0, true⟩,
              ⟨(some 42), .fieldA 1 (.t 41), (some (38, true)), 0, true⟩,
              ⟨(some 43), .load1 (.t 42), (some (38, true)), 0, true⟩,
              ⟨(some 44), .bin .gtr (.t 39) (.t 43), (some (38, true)), 0, true⟩,
              ⟨(some 45), .pick (.t 38) (.t 44) (.c (.bool false)), none, 0, true⟩])
          (.cond (.t 45)
            (.seq (.reg [⟨(some 4), .mv (.c (.int .i64 13)), none, 0, true⟩])
            (.ret))
            (.skip)))))))))))
  (.seq (.seq (.reg [⟨(some 46), .mv (.t 0), none, 0, true⟩,
        ⟨(some 47), .nilck (.t 46), none, 0, true⟩,
        ⟨(some 48), .fieldA 1 (.t 47), none, 0, true⟩,
        ⟨(some 49), .load1 (.t 48), none, 0, true⟩,
        ⟨(some 50), .bin .eql (.t 49) (.c (.int .i64 1073741824)), none, 0, true⟩])
    (.cond (.t 50)
      (.seq (.reg [⟨(some 4), .mv (.c (.int .i64 4)), none, 0, true⟩])
      (.ret))
      (.skip)))
  (.seq (.reg [⟨(some 4), .mv (.c (.int .i64 0)), none, 0, true⟩])
  (.ret))))))
theorem k25 : codeOf Try.prog 25 = some (c25, [.tmp 4], 51, false) := by kernel_rfl

/-- (*regesta/txn.Manager).High -/
def c26 : XCode :=
  .seq (.reg [⟨(some 2), .mv (.c (.int .i64 0)), none, 0, true⟩])
  (.seq (.seq (.reg [⟨(some 3), .mv (.t 0), none, 0, true⟩,
        ⟨(some 4), .eqp false (.t 3) (.c .nilp), none, 0, true⟩])
    (.cond (.t 4)
      (.seq (.reg [⟨(some 2), .mv (.c (.int .i64 0)), none, 0, true⟩])
      (.ret))
      (.skip)))
  (.seq (.reg [⟨(some 5), .mv (.t 0), none, 0, true⟩,
      ⟨(some 6), .nilck (.t 5), none, 0, true⟩,
      ⟨(some 7), .fieldA 1 (.t 6), none, 0, true⟩,
      ⟨(some 8), .load1 (.t 7), none, 0, true⟩,
      ⟨(some 2), .mv (.t 8), none, 0, true⟩])
  (.ret)))
theorem k26 : codeOf Try.prog 26 = some (c26, [.tmp 2], 9, false) := by kernel_rfl

/-- (*regesta/txn.Manager).one -/
def c28 : XCode :=
  .seq (.reg [⟨(some 4), .mv (.c .nilp), none, 0, true⟩,
      ⟨(some 5), .mv (.c (.int .i64 0)), none, 0, true⟩])
  (.seq (.block 0 (
      .seq (.reg [⟨(some 7), .mv (.t 0), none, 0, true⟩,
          ⟨(some 8), .eqp false (.t 7) (.c .nilp), none, 0, true⟩,
          ⟨(some 6), .mv (.t 8), none, 0, true⟩])
      (.cond (.t 6)
        (.seq (.reg [⟨(some 4), .mv (.c .nilp), none, 0, true⟩,
            ⟨(some 5), .mv (.c (.int .i64 1)), none, 0, true⟩])
        (.ret))
        (.seq (.reg [⟨(some 10), .mv (.t 1), none, 0, true⟩,
            ⟨(some 11), .bin .lss (.t 10) (.c (.int .i64 0)), none, 0, true⟩,
            ⟨(some 12), .mv (.t 11), none, 0, true⟩,
            ⟨(some 13), .mv (.t 1), (some (12, false)), 0, true⟩,
            ⟨(some 14), .bin .geq (.t 13) (.c (.int .i64 4)), (some (12, false)), 0, true⟩,
            ⟨(some 15), .pick (.t 12) (.c (.bool true)) (.t 14), none, 0, true⟩,
            ⟨(some 9), .mv (.t 15), none, 0, true⟩])
        (.cond (.t 9)
          (.seq (.reg [⟨(some 4), .mv (.c .nilp), none, 0, true⟩,
              ⟨(some 5), .mv (.c (.int .i64 2)), none, 0, true⟩])
          (.ret))
          (.skip))))))
  (.seq (.reg [⟨(some 16), .mv (.t 0), none, 0, true⟩,
      ⟨(some 17), .mv (.t 1), none, 0, true⟩,
      ⟨(some 18), .nilck (.t 16), none, 0, true⟩,
      ⟨(some 19), .fieldA 2 (.t 18), none, 0, true⟩,
      ⟨(some 20), .indexA 3 4 (.t 19) (.t 17), none, 0, true⟩,
      ⟨(some 4), .mv (.t 20), none, 0, true⟩,
      ⟨(some 5), .mv (.c (.int .i64 0)), none, 0, true⟩])
  (.ret)))
theorem k28 : codeOf Try.prog 28 = some (c28, [.tmp 4, .tmp 5], 21, false) := by kernel_rfl

/-- (*regesta/txn.Manager).opened -/
def c29 : XCode :=
  .seq (.reg [⟨(some 4), .mv (.c .nilp), none, 0, true⟩,
      ⟨(some 5), .mv (.c (.int .i64 0)), none, 0, true⟩])
  (.seq (.reg [⟨(some 9), .mv (.t 0), none, 0, true⟩,
      ⟨(some 10), .mv (.t 1), none, 0, true⟩,
      ⟨(some 11), .call 28 [(.t 9), (.t 10)], none, 0, true⟩,
      ⟨(some 8), .mv (.t 11), none, 0, true⟩,
      ⟨(some 12), .ext 0 (.t 8), none, 0, true⟩,
      ⟨(some 13), .ext 1 (.t 8), none, 0, true⟩,
      ⟨(some 6), .mv (.t 12), none, 0, true⟩,
      ⟨(some 7), .mv (.t 13), none, 0, true⟩])
  (.seq (.seq (.reg [⟨(some 14), .mv (.t 7), none, 0, true⟩,
        ⟨(some 15), .bin .eql (.t 14) (.c (.int .i64 0)), none, 0, true⟩,
        ⟨(some 16), .mv (.t 15), none, 0, true⟩,
        ⟨(some 17), .mv (.t 6), (some (16, true)), 0, true⟩,
        ⟨(some 18), .nilck (.t 17), (some (16, true)), 0, true⟩,
        ⟨(some 19), .fieldA 0 (.t 18), (some (16, true)), 0, true⟩,
        ⟨(some 20), .load1 (.t 19), (some (16, true)), 0, true⟩,
        ⟨(some 21), .not (.t 20), (some (16, true)), 0, true⟩,
        ⟨(some 22), .pick (.t 16) (.t 21) (.c (.bool false)), none, 0, true⟩])
    (.cond (.t 22)
      (.seq (.reg [⟨(some 4), .mv (.c .nilp), none, 0, true⟩,
          ⟨(some 5), .mv (.c (.int .i64 7)), none, 0, true⟩])
      (.ret))
      (.skip)))
  (.seq (.reg [⟨(some 23), .mv (.t 6), none, 0, true⟩,
      ⟨(some 24), .mv (.t 7), none, 0, true⟩,
      ⟨(some 4), .mv (.t 23), none, 0, true⟩,
      ⟨(some 5), .mv (.t 24), none, 0, true⟩])
  (.ret))))
theorem k29 : codeOf Try.prog 29 = some (c29, [.tmp 4, .tmp 5], 25, false) := by kernel_rfl

/-- slices.Min[[]int,int] -/
def c46 : XCode :=
  .seq (.reg [⟨(some 2), .mv (.c (.int .i64 0)), none, 0, true⟩])
  (.seq (.seq (.reg [⟨(some 5), .mv (.t 0), none, 0, true⟩,
        ⟨(some 6), .lenS (.t 5), none, 0, true⟩,
        ⟨(some 7), .bin .lss (.t 6) (.c (.int .i64 1)), none, 0, true⟩])
    (.cond (.t 7)
      (.reg [⟨(some 8), .never, none, 0, true⟩,
        ⟨none, .never, none, 0, true⟩])
      (.skip)))
  (.seq (.reg [⟨(some 9), .mv (.t 0), none, 0, true⟩,
      ⟨(some 10), .indexS 1 (.t 9) (.c (.int .i64 0)), none, 0, true⟩,
      ⟨(some 11), .load1 (.t 10), none, 0, true⟩,
      ⟨(some 3), .mv (.t 11), none, 0, true⟩])
  (.seq (.seq (.reg [⟨(some 4), .mv (.c (.int .i64 1)), none, 0, true⟩])
    (.block 0 (
      .loop (
        .seq (.seq (.reg [⟨(some 12), .mv (.t 4), none, 0, true⟩,
              ⟨(some 13), .mv (.t 0), none, 0, true⟩,
              ⟨(some 14), .lenS (.t 13), none, 0, true⟩,
              ⟨(some 15), .bin .lss (.t 12) (.t 14), none, 0, true⟩])
          (.cond (.t 15)
            (.skip)
            (.exit 0)))
        (.seq (.block 1 (
            .reg [⟨(some 18), .mv (.t 3), none, 0, true⟩,
              ⟨(some 19), .mv (.t 0), none, 0, true⟩,
              ⟨(some 20), .mv (.t 4), none, 0, true⟩,
              ⟨(some 21), .indexS 1 (.t 19) (.t 20), none, 0, true⟩,
              ⟨(some 22), .load1 (.t 21), none, 0, true⟩,
              ⟨(some 23), .min2 (.t 18) (.t 22), none, 0, true⟩,
              ⟨(some 3), .mv (.t 23), none, 0, true⟩]))
        (.reg [⟨(some 16), .mv (.t 4), none, 0, true⟩,
          ⟨(some 17), .bin .add (.t 16) (.c (.int .i64 1)), none, 0, true⟩,
          ⟨(some 4), .mv (.t 17), none, 0, true⟩]))))))
  (.seq (.reg [⟨(some 24), .mv (.t 3), none, 0, true⟩,
      ⟨(some 2), .mv (.t 24), none, 0, true⟩])
  (.ret)))))
theorem k46 : codeOf Try.prog 46 = some (c46, [.tmp 2], 25, false) := by kernel_rfl

end Go.Vx
