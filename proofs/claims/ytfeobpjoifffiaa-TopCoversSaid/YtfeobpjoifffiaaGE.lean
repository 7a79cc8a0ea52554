/- The code of the functions, turned. Printed by a program (mkc.py). -/
import Derived.Test.YtfeobpjoifffiaaGD
import Derived.Test.YtfeobpjoifffiaaChecked
import Derived.KernelRfl
set_option maxRecDepth 100000
namespace Go.Vx
open Go
open Go.Proofs

theorem mixed : Try.prog.follows .mixedOrders = true := Try.checked.mixed

/-- regesta/regestalaw01.SpanJoins -/
def c3 : XCode :=
  .seq (.reg [⟨(some 3), .box 23 2 (.t 1), none, 0, true, false⟩,
      ⟨(some 4), .mv (.c (.bool false)), none, 0, true, false⟩])
  (.seq (.reg [⟨(some 10), .mv (.t 0), none, 0, true, false⟩,
      ⟨(some 11), .call 10 [(.t 10)], none, 0, true, false⟩,
      ⟨(some 0), .mv (.t 11), none, 0, true, false⟩])
  (.seq (.reg [⟨(some 12), .mv (.t 0), none, 0, true, false⟩,
      ⟨(some 13), .call 11 [(.t 12)], none, 0, true, false⟩,
      ⟨(some 5), .mv (.t 13), none, 0, true, false⟩])
  (.seq (.seq (.reg [⟨(some 6), .mv (.c (.int .i64 1)), none, 0, true, false⟩])
    (.block 0 (
      .loop (
        .seq (.seq (.reg [⟨(some 14), .mv (.t 6), none, 0, true, false⟩,
              ⟨(some 15), .mv (.t 5), none, 0, true, false⟩,
              ⟨(some 16), .lenS (.t 15), none, 0, true, false⟩,
              ⟨(some 17), .bin .lss (.t 14) (.t 16), none, 0, true, false⟩])
          (.cond (.t 17)
            (.skip)
            (.exit 0)))
        (.seq (.block 1 (
            .seq (.regD [⟨(some 20), .mv (.t 5), none, 0, false, false⟩,
                ⟨(some 21), .mv (.t 6), none, 0, false, false⟩,
                ⟨(some 22), .bin .sub (.t 21) (.c (.int .i64 1)), none, 2, false, false⟩,
                ⟨(some 23), .indexS 2 (.t 20) (.t 22), none, 7, false, false⟩,
                ⟨(some 24), .fieldA 1 (.t 23), none, 15, false, false⟩,
                ⟨(some 25), .load1 (.t 24), none, 31, false, false⟩,
                ⟨(some 26), .mv (.t 5), none, 0, false, false⟩,
                ⟨(some 27), .mv (.t 6), none, 0, false, false⟩,
                ⟨(some 28), .indexS 2 (.t 26) (.t 27), none, 192, false, false⟩,
                ⟨(some 29), .fieldA 0 (.t 28), none, 448, false, false⟩,
                ⟨(some 30), .load1 (.t 29), none, 960, false, false⟩,
                ⟨(some 31), .bin .geq (.t 25) (.t 30), none, 2047, false, false⟩])
            (.cond (.t 31)
              (.seq (.reg [⟨(some 4), .mv (.c (.bool false)), none, 0, true, false⟩])
              (.ret))
              (.skip))))
        (.reg [⟨(some 18), .mv (.t 6), none, 0, true, false⟩,
          ⟨(some 19), .bin .add (.t 18) (.c (.int .i64 1)), none, 0, true, false⟩,
          ⟨(some 6), .mv (.t 19), none, 0, true, false⟩]))))))
  (.seq (.seq (.reg [⟨(some 32), .mv (.t 0), none, 0, true, false⟩,
        ⟨(some 33), .lenS (.t 32), none, 0, true, false⟩,
        ⟨(some 34), .bin .eql (.t 33) (.c (.int .i64 0)), none, 0, true, false⟩])
    (.cond (.t 34)
      (.seq (.reg [⟨(some 35), .call 12 [], none, 0, true, false⟩,
          ⟨(some 36), .mv (.t 35), none, 0, true, false⟩,
          ⟨(some 37), .mv (.t 5), (some (36, true)), 0, true, false⟩,
          ⟨(some 38), .lenS (.t 37), (some (36, true)), 0, true, false⟩,
          ⟨(some 39), .bin .eql (.t 38) (.c (.int .i64 0)), (some (36, true)), 0, true, false⟩,
          ⟨(some 40), .pick (.t 36) (.t 39) (.c (.bool false)), none, 0, true, false⟩,
          ⟨(some 4), .mv (.t 40), none, 0, true, false⟩])
      (.ret))
      (.skip)))
  (.seq (.reg [⟨(some 41), .mkrow 26 2 0 [(.int .i64 0), (.int .i64 0)] [], none, 0, true, false⟩,
      ⟨(some 42), .mv (.t 0), none, 0, true, false⟩,
      ⟨(some 43), .append 26 2 16 (.t 41) (.t 42), none, 0, true, false⟩,
      ⟨(some 7), .mv (.t 43), none, 0, true, false⟩])
  (.seq (.regD [⟨(some 44), .indexA 1 2 (.t 3) (.c (.int .i64 0)), none, 0, false, false⟩,
      ⟨(some 45), .load1 (.t 44), none, 1, false, false⟩,
      ⟨(some 46), .conv .i64 (.t 45), none, 3, false, false⟩,
      ⟨(some 47), .mv (.t 7), none, 0, false, false⟩,
      ⟨(some 48), .lenS (.t 47), none, 8, false, false⟩,
      ⟨(some 49), .bin .rem (.t 46) (.t 48), none, 31, false, false⟩,
      ⟨(some 50), .indexA 1 2 (.t 3) (.c (.int .i64 1)), none, 0, false, false⟩,
      ⟨(some 51), .load1 (.t 50), none, 64, false, false⟩,
      ⟨(some 52), .conv .i64 (.t 51), none, 192, false, false⟩,
      ⟨(some 53), .mv (.t 7), none, 0, false, false⟩,
      ⟨(some 54), .lenS (.t 53), none, 512, false, false⟩,
      ⟨(some 55), .bin .rem (.t 52) (.t 54), none, 1984, false, false⟩,
      ⟨(some 8), .mv (.t 49), none, 63, false, false⟩,
      ⟨(some 9), .mv (.t 55), none, 8191, false, false⟩])
  (.seq (.regD [⟨(some 56), .mv (.t 7), none, 0, false, false⟩,
      ⟨(some 57), .mv (.t 8), none, 0, false, false⟩,
      ⟨(some 58), .mv (.t 7), none, 0, false, false⟩,
      ⟨(some 59), .mv (.t 9), none, 0, false, false⟩,
      ⟨(some 60), .mv (.t 7), none, 0, false, false⟩,
      ⟨(some 61), .mv (.t 9), none, 0, false, false⟩,
      ⟨(some 62), .indexS 2 (.t 60) (.t 61), none, 48, false, false⟩,
      ⟨(some 63), .loadn 2 (.t 62), none, 112, false, false⟩,
      ⟨(some 64), .mv (.t 7), none, 0, false, false⟩,
      ⟨(some 65), .mv (.t 8), none, 0, false, false⟩,
      ⟨(some 66), .indexS 2 (.t 64) (.t 65), none, 768, false, false⟩,
      ⟨(some 67), .loadn 2 (.t 66), none, 1792, false, false⟩,
      ⟨(some 68), .indexS 2 (.t 56) (.t 57), none, 4083, true, false⟩,
      ⟨none, .store 2 (.t 68) (.t 63), none, 8179, true, false⟩,
      ⟨(some 69), .indexS 2 (.t 58) (.t 59), none, 16383, true, false⟩,
      ⟨none, .store 2 (.t 69) (.t 67), none, 32767, true, false⟩])
  (.seq (.reg [⟨(some 70), .call 12 [], none, 0, true, false⟩,
      ⟨(some 71), .mv (.t 70), none, 0, true, false⟩,
      ⟨(some 72), .mv (.t 5), (some (71, true)), 0, true, false⟩,
      ⟨(some 73), .call 11 [(.t 72)], (some (71, true)), 0, true, false⟩,
      ⟨(some 74), .mv (.t 5), (some (71, true)), 0, true, false⟩,
      ⟨(some 75), .call 13 [(.t 73), (.t 74)], (some (71, true)), 0, true, false⟩,
      ⟨(some 76), .pick (.t 71) (.t 75) (.c (.bool false)), none, 0, true, false⟩,
      ⟨(some 77), .mv (.t 76), none, 0, true, false⟩,
      ⟨(some 78), .mv (.t 7), (some (77, true)), 0, true, false⟩,
      ⟨(some 79), .call 11 [(.t 78)], (some (77, true)), 0, true, false⟩,
      ⟨(some 80), .mv (.t 5), (some (77, true)), 0, true, false⟩,
      ⟨(some 81), .call 13 [(.t 79), (.t 80)], (some (77, true)), 0, true, false⟩,
      ⟨(some 82), .pick (.t 77) (.t 81) (.c (.bool false)), none, 0, true, false⟩,
      ⟨(some 4), .mv (.t 82), none, 0, true, false⟩])
  (.ret)))))))))
theorem k3 : codeOf Try.prog 3 = some (c3, [.tmp 4], 83, false) := by kernel_rfl

/-- regesta/regestalaw01.SpanTells -/
def c4 : XCode :=
  .seq (.reg [⟨(some 3), .box 26 2 (.t 0), none, 0, true, false⟩,
      ⟨(some 4), .box 26 2 (.t 1), none, 0, true, false⟩,
      ⟨(some 6), .mv (.c (.bool false)), none, 0, true, false⟩])
  (.seq (.reg [⟨(some 12), .loadn 2 (.t 3), none, 0, true, false⟩,
      ⟨(some 13), .loadn 2 (.t 4), none, 0, true, false⟩,
      ⟨(some 14), .call 14 [(.t 12), (.t 13)], none, 0, true, false⟩,
      ⟨(some 11), .mv (.t 14), none, 0, true, false⟩,
      ⟨(some 15), .ext 0 (.t 11), none, 0, true, false⟩,
      ⟨(some 16), .ext 1 (.t 11), none, 0, true, false⟩,
      ⟨(some 7), .alloc 26 [(.int .i64 0), (.int .i64 0)], none, 0, true, false⟩,
      ⟨none, .store 2 (.t 7) (.t 15), none, 0, true, false⟩,
      ⟨(some 8), .mv (.t 16), none, 0, true, false⟩])
  (.seq (.reg [⟨(some 18), .loadn 2 (.t 3), none, 0, true, false⟩,
      ⟨(some 19), .loadn 2 (.t 4), none, 0, true, false⟩,
      ⟨(some 20), .call 15 [(.t 18), (.t 19)], none, 0, true, false⟩,
      ⟨(some 17), .mv (.t 20), none, 0, true, false⟩,
      ⟨(some 21), .ext 0 (.t 17), none, 0, true, false⟩,
      ⟨(some 22), .ext 1 (.t 17), none, 0, true, false⟩,
      ⟨(some 9), .alloc 26 [(.int .i64 0), (.int .i64 0)], none, 0, true, false⟩,
      ⟨none, .store 2 (.t 9) (.t 21), none, 0, true, false⟩,
      ⟨(some 10), .mv (.t 22), none, 0, true, false⟩])
  (.seq (.regD [⟨(some 23), .call 12 [], none, 0, true, false⟩,
      ⟨(some 24), .mv (.t 23), none, 1, false, false⟩,
      ⟨(some 25), .loadn 2 (.t 3), (some (24, true)), 3, false, false⟩,
      ⟨(some 26), .call 16 [(.t 25)], (some (24, true)), 7, false, true⟩,
      ⟨(some 27), .loadn 2 (.t 3), (some (24, true)), 3, false, false⟩,
      ⟨(some 28), .call 17 [(.t 27)], (some (24, true)), 31, true, false⟩,
      ⟨(some 29), .eqb false (.t 26) (.t 28), (some (24, true)), 63, false, false⟩,
      ⟨(some 30), .pick (.t 24) (.t 29) (.c (.bool false)), none, 127, false, false⟩,
      ⟨(some 31), .mv (.t 30), none, 255, false, false⟩,
      ⟨(some 32), .loadn 2 (.t 3), (some (31, true)), 511, false, false⟩,
      ⟨(some 33), .mv (.t 2), (some (31, true)), 511, false, false⟩,
      ⟨(some 34), .call 18 [(.t 32), (.t 33)], (some (31, true)), 2047, false, true⟩,
      ⟨(some 35), .loadn 2 (.t 3), (some (31, true)), 511, false, false⟩,
      ⟨(some 36), .mv (.t 2), (some (31, true)), 511, false, false⟩,
      ⟨(some 37), .call 19 [(.t 35), (.t 36)], (some (31, true)), 16383, true, false⟩,
      ⟨(some 38), .eqb false (.t 34) (.t 37), (some (31, true)), 32767, false, false⟩,
      ⟨(some 39), .pick (.t 31) (.t 38) (.c (.bool false)), none, 65535, false, false⟩,
      ⟨(some 40), .mv (.t 39), none, 131071, false, false⟩,
      ⟨(some 41), .loadn 2 (.t 3), (some (40, true)), 262143, false, false⟩,
      ⟨(some 42), .loadn 2 (.t 4), (some (40, true)), 262143, false, false⟩,
      ⟨(some 43), .call 20 [(.t 41), (.t 42)], (some (40, true)), 1048575, false, true⟩,
      ⟨(some 44), .loadn 2 (.t 3), (some (40, true)), 262143, false, false⟩,
      ⟨(some 45), .loadn 2 (.t 4), (some (40, true)), 262143, false, false⟩,
      ⟨(some 46), .call 21 [(.t 44), (.t 45)], (some (40, true)), 8388607, true, false⟩,
      ⟨(some 47), .eqb false (.t 43) (.t 46), (some (40, true)), 16777215, false, false⟩,
      ⟨(some 48), .pick (.t 40) (.t 47) (.c (.bool false)), none, 33554431, false, false⟩,
      ⟨(some 49), .mv (.t 48), none, 67108863, false, false⟩,
      ⟨(some 50), .loadn 2 (.t 3), (some (49, true)), 134217727, false, false⟩,
      ⟨(some 51), .loadn 2 (.t 4), (some (49, true)), 134217727, false, false⟩,
      ⟨(some 52), .call 22 [(.t 50), (.t 51)], (some (49, true)), 536870911, false, true⟩,
      ⟨(some 53), .loadn 2 (.t 3), (some (49, true)), 134217727, false, false⟩,
      ⟨(some 54), .loadn 2 (.t 4), (some (49, true)), 134217727, false, false⟩,
      ⟨(some 55), .call 23 [(.t 53), (.t 54)], (some (49, true)), 4294967295, true, false⟩,
      ⟨(some 56), .eqb false (.t 52) (.t 55), (some (49, true)), 8589934591, false, false⟩,
      ⟨(some 57), .pick (.t 49) (.t 56) (.c (.bool false)), none, 17179869183, false, false⟩,
      ⟨(some 58), .mv (.t 57), none, 34359738367, false, false⟩,
      ⟨(some 59), .loadn 2 (.t 7), (some (58, true)), 68719476735, false, false⟩,
      ⟨(some 60), .loadn 2 (.t 9), (some (58, true)), 68719476735, false, false⟩,
      ⟨(some 61), .eqs false [(.int .i64 0), (.int .i64 0)] (.t 59) (.t 60), (some (58, true)), 274877906943, false, false⟩,
      ⟨(some 62), .pick (.t 58) (.t 61) (.c (.bool false)), none, 549755813887, false, false⟩,
      ⟨(some 63), .mv (.t 62), none, 1099511627775, false, false⟩,
      ⟨(some 64), .mv (.t 8), (some (63, true)), 2199023255551, false, false⟩,
      ⟨(some 65), .mv (.t 10), (some (63, true)), 2199023255551, false, false⟩,
      ⟨(some 66), .eqb false (.t 64) (.t 65), (some (63, true)), 8796093022207, false, false⟩,
      ⟨(some 67), .pick (.t 63) (.t 66) (.c (.bool false)), none, 17592186044415, false, false⟩,
      ⟨(some 6), .mv (.t 67), none, 35184372088831, false, false⟩])
  (.ret))))
theorem k4 : codeOf Try.prog 4 = some (c4, [.tmp 6], 68, false) := by kernel_rfl

/-- regesta/regestalaw01.SpanParts -/
def c5 : XCode :=
  .seq (.reg [⟨(some 3), .box 26 2 (.t 0), none, 0, true, false⟩,
      ⟨(some 4), .box 26 2 (.t 1), none, 0, true, false⟩,
      ⟨(some 6), .mv (.c (.bool false)), none, 0, true, false⟩])
  (.seq (.reg [⟨(some 7), .mv (.c (.int .i64 0)), none, 0, true, false⟩])
  (.seq (.seq (.reg [⟨(some 13), .loadn 2 (.t 3), none, 0, true, false⟩,
        ⟨(some 14), .loadn 2 (.t 4), none, 0, true, false⟩,
        ⟨(some 15), .call 14 [(.t 13), (.t 14)], none, 0, true, false⟩,
        ⟨(some 12), .mv (.t 15), none, 0, true, false⟩,
        ⟨(some 16), .ext 0 (.t 12), none, 0, true, false⟩,
        ⟨(some 17), .ext 1 (.t 12), none, 0, true, false⟩,
        ⟨(some 8), .alloc 26 [(.int .i64 0), (.int .i64 0)], none, 0, true, false⟩,
        ⟨none, .store 2 (.t 8) (.t 16), none, 0, true, false⟩,
        ⟨(some 9), .mv (.t 17), none, 0, true, false⟩])
    (.seq (.reg [⟨(some 18), .mv (.t 9), none, 0, true, false⟩,
        ⟨(some 19), .mv (.t 18), none, 0, true, false⟩,
        ⟨(some 20), .loadn 2 (.t 8), (some (19, true)), 0, true, false⟩,
        ⟨(some 21), .mv (.t 2), (some (19, true)), 0, true, false⟩,
        ⟨(some 22), .call 18 [(.t 20), (.t 21)], (some (19, true)), 0, true, false⟩,
        ⟨(some 23), .pick (.t 19) (.t 22) (.c (.bool false)), none, 0, true, false⟩])
    (.cond (.t 23)
      (.reg [⟨(some 24), .mv (.t 7), none, 0, true, false⟩,
        ⟨(some 25), .bin .add (.t 24) (.c (.int .i64 1)), none, 0, true, false⟩,
        ⟨(some 7), .mv (.t 25), none, 0, true, false⟩])
      (.skip))))
  (.seq (.reg [⟨(some 26), .loadn 2 (.t 3), none, 0, true, false⟩,
      ⟨(some 27), .loadn 2 (.t 4), none, 0, true, false⟩,
      ⟨(some 28), .call 24 [(.t 26), (.t 27)], none, 0, true, false⟩,
      ⟨(some 10), .mv (.t 28), none, 0, true, false⟩])
  (.seq (.seq (.reg [⟨(some 11), .mv (.c (.int .i64 0)), none, 0, true, false⟩])
    (.block 0 (
      .loop (
        .seq (.seq (.reg [⟨(some 29), .mv (.t 11), none, 0, true, false⟩,
              ⟨(some 30), .mv (.t 10), none, 0, true, false⟩,
              ⟨(some 31), .lenS (.t 30), none, 0, true, false⟩,
              ⟨(some 32), .bin .lss (.t 29) (.t 31), none, 0, true, false⟩])
          (.cond (.t 32)
            (.skip)
            (.exit 0)))
        (.seq (.block 1 (
            .seq (.reg [⟨(some 35), .mv (.t 10), none, 0, true, false⟩,
                ⟨(some 36), .mv (.t 11), none, 0, true, false⟩,
                ⟨(some 37), .indexS 2 (.t 35) (.t 36), none, 0, true, false⟩,
                ⟨(some 38), .loadn 2 (.t 37), none, 0, true, false⟩,
                ⟨(some 39), .mv (.t 2), none, 0, true, false⟩,
                ⟨(some 40), .call 18 [(.t 38), (.t 39)], none, 0, true, false⟩])
            (.cond (.t 40)
              (.reg [⟨(some 41), .mv (.t 7), none, 0, true, false⟩,
                ⟨(some 42), .bin .add (.t 41) (.c (.int .i64 1)), none, 0, true, false⟩,
                ⟨(some 7), .mv (.t 42), none, 0, true, false⟩])
              (.skip))))
        (.reg [⟨(some 33), .mv (.t 11), none, 0, true, false⟩,
          ⟨(some 34), .bin .add (.t 33) (.c (.int .i64 1)), none, 0, true, false⟩,
          ⟨(some 11), .mv (.t 34), none, 0, true, false⟩]))))))
  (.seq (.reg [⟨(some 43), .call 12 [], none, 0, true, false⟩,
      ⟨(some 44), .mv (.t 43), none, 0, true, false⟩,
      ⟨(some 45), .mv (.t 7), (some (44, true)), 0, true, false⟩,
      ⟨(some 46), .bin .eql (.t 45) (.c (.int .i64 1)), (some (44, true)), 0, true, false⟩,
      ⟨(some 47), .loadn 2 (.t 3), (some (44, true)), 0, true, false⟩,
      ⟨(some 48), .mv (.t 2), (some (44, true)), 0, true, false⟩,
      ⟨(some 49), .call 18 [(.t 47), (.t 48)], (some (44, true)), 0, true, false⟩,
      ⟨(some 50), .eqb false (.t 46) (.t 49), (some (44, true)), 0, true, false⟩,
      ⟨(some 51), .pick (.t 44) (.t 50) (.c (.bool false)), none, 0, true, false⟩,
      ⟨(some 52), .mv (.t 51), none, 0, true, false⟩,
      ⟨(some 53), .mv (.t 7), (some (52, true)), 0, true, false⟩,
      ⟨(some 54), .bin .leq (.t 53) (.c (.int .i64 1)), (some (52, true)), 0, true, false⟩,
      ⟨(some 55), .pick (.t 52) (.t 54) (.c (.bool false)), none, 0, true, false⟩,
      ⟨(some 56), .mv (.t 55), none, 0, true, false⟩,
      ⟨(some 57), .mv (.t 10), (some (56, true)), 0, true, false⟩,
      ⟨(some 58), .lenS (.t 57), (some (56, true)), 0, true, false⟩,
      ⟨(some 59), .bin .leq (.t 58) (.c (.int .i64 2)), (some (56, true)), 0, true, false⟩,
      ⟨(some 60), .pick (.t 56) (.t 59) (.c (.bool false)), none, 0, true, false⟩,
      ⟨(some 6), .mv (.t 60), none, 0, true, false⟩])
  (.ret))))))
theorem k5 : codeOf Try.prog 5 = some (c5, [.tmp 6], 61, false) := by kernel_rfl

/-- regesta/regestalaw01.SpanGaps -/
def c6 : XCode :=
  .seq (.reg [⟨(some 3), .box 26 2 (.t 1), none, 0, true, false⟩,
      ⟨(some 4), .mv (.c (.bool false)), none, 0, true, false⟩])
  (.seq (.reg [⟨(some 9), .mv (.t 0), none, 0, true, false⟩,
      ⟨(some 10), .call 10 [(.t 9)], none, 0, true, false⟩,
      ⟨(some 0), .mv (.t 10), none, 0, true, false⟩])
  (.seq (.reg [⟨(some 11), .mv (.t 0), none, 0, true, false⟩,
      ⟨(some 12), .loadn 2 (.t 3), none, 0, true, false⟩,
      ⟨(some 13), .call 25 [(.t 11), (.t 12)], none, 0, true, false⟩,
      ⟨(some 5), .mv (.t 13), none, 0, true, false⟩])
  (.seq (.reg [⟨(some 14), .mv (.t 5), none, 0, true, false⟩,
      ⟨(some 15), .loadn 2 (.t 3), none, 0, true, false⟩,
      ⟨(some 16), .call 25 [(.t 14), (.t 15)], none, 0, true, false⟩,
      ⟨(some 6), .mv (.t 16), none, 0, true, false⟩])
  (.seq (.reg [⟨(some 17), .mkrow 26 2 0 [(.int .i64 0), (.int .i64 0)] [], none, 0, true, false⟩,
      ⟨(some 18), .mv (.t 5), none, 0, true, false⟩,
      ⟨(some 19), .append 26 2 16 (.t 17) (.t 18), none, 0, true, false⟩,
      ⟨(some 20), .mv (.t 6), none, 0, true, false⟩,
      ⟨(some 21), .append 26 2 16 (.t 19) (.t 20), none, 0, true, false⟩,
      ⟨(some 22), .call 11 [(.t 21)], none, 0, true, false⟩,
      ⟨(some 7), .mv (.t 22), none, 0, true, false⟩])
  (.seq (.seq (.reg [⟨(some 23), .loadn 2 (.t 3), none, 0, true, false⟩,
        ⟨(some 24), .call 16 [(.t 23)], none, 0, true, false⟩,
        ⟨(some 25), .not (.t 24), none, 0, true, false⟩])
    (.cond (.t 25)
      (.seq (.reg [⟨(some 26), .call 12 [], none, 0, true, false⟩,
          ⟨(some 27), .mv (.t 26), none, 0, true, false⟩,
          ⟨(some 28), .mv (.t 5), (some (27, true)), 0, true, false⟩,
          ⟨(some 29), .lenS (.t 28), (some (27, true)), 0, true, false⟩,
          ⟨(some 30), .bin .eql (.t 29) (.c (.int .i64 0)), (some (27, true)), 0, true, false⟩,
          ⟨(some 31), .pick (.t 27) (.t 30) (.c (.bool false)), none, 0, true, false⟩,
          ⟨(some 32), .mv (.t 31), none, 0, true, false⟩,
          ⟨(some 33), .mv (.t 6), (some (32, true)), 0, true, false⟩,
          ⟨(some 34), .lenS (.t 33), (some (32, true)), 0, true, false⟩,
          ⟨(some 35), .bin .eql (.t 34) (.c (.int .i64 0)), (some (32, true)), 0, true, false⟩,
          ⟨(some 36), .pick (.t 32) (.t 35) (.c (.bool false)), none, 0, true, false⟩,
          ⟨(some 4), .mv (.t 36), none, 0, true, false⟩])
      (.ret))
      (.skip)))
  (.seq (.seq (.reg [⟨(some 8), .mv (.c (.int .i64 0)), none, 0, true, false⟩])
    (.block 0 (
      .loop (
        .seq (.seq (.reg [⟨(some 37), .mv (.t 8), none, 0, true, false⟩,
              ⟨(some 38), .mv (.t 6), none, 0, true, false⟩,
              ⟨(some 39), .lenS (.t 38), none, 0, true, false⟩,
              ⟨(some 40), .bin .lss (.t 37) (.t 39), none, 0, true, false⟩])
          (.cond (.t 40)
            (.skip)
            (.exit 0)))
        (.seq (.block 1 (
            .seq (.reg [⟨(some 43), .mv (.t 0), none, 0, true, false⟩,
                ⟨(some 44), .mv (.t 6), none, 0, true, false⟩,
                ⟨(some 45), .mv (.t 8), none, 0, true, false⟩,
                ⟨(some 46), .indexS 2 (.t 44) (.t 45), none, 0, true, false⟩,
                ⟨(some 47), .loadn 2 (.t 46), none, 0, true, false⟩,
                ⟨(some 48), .call 26 [(.t 43), (.t 47)], none, 0, true, false⟩,
                ⟨(some 49), .not (.t 48), none, 0, true, false⟩])
            (.cond (.t 49)
              (.seq (.reg [⟨(some 4), .mv (.c (.bool false)), none, 0, true, false⟩])
              (.ret))
              (.skip))))
        (.reg [⟨(some 41), .mv (.t 8), none, 0, true, false⟩,
          ⟨(some 42), .bin .add (.t 41) (.c (.int .i64 1)), none, 0, true, false⟩,
          ⟨(some 8), .mv (.t 42), none, 0, true, false⟩]))))))
  (.seq (.regD [⟨(some 50), .call 12 [], none, 0, true, false⟩,
      ⟨(some 51), .mv (.t 50), none, 1, false, false⟩,
      ⟨(some 52), .mv (.t 7), (some (51, true)), 3, false, false⟩,
      ⟨(some 53), .lenS (.t 52), (some (51, true)), 7, false, false⟩,
      ⟨(some 54), .bin .eql (.t 53) (.c (.int .i64 1)), (some (51, true)), 15, false, false⟩,
      ⟨(some 55), .pick (.t 51) (.t 54) (.c (.bool false)), none, 31, false, false⟩,
      ⟨(some 56), .mv (.t 55), none, 63, false, false⟩,
      ⟨(some 57), .mv (.t 7), (some (56, true)), 127, false, false⟩,
      ⟨(some 58), .indexS 2 (.t 57) (.c (.int .i64 0)), (some (56, true)), 255, false, false⟩,
      ⟨(some 59), .loadn 2 (.t 58), (some (56, true)), 511, false, false⟩,
      ⟨(some 60), .loadn 2 (.t 3), (some (56, true)), 127, false, false⟩,
      ⟨(some 61), .eqs false [(.int .i64 0), (.int .i64 0)] (.t 59) (.t 60), (some (56, true)), 2047, false, false⟩,
      ⟨(some 62), .pick (.t 56) (.t 61) (.c (.bool false)), none, 4095, false, false⟩,
      ⟨(some 63), .mv (.t 62), none, 8191, false, false⟩,
      ⟨(some 64), .mv (.t 5), (some (63, true)), 16383, false, false⟩,
      ⟨(some 65), .call 27 [(.t 64)], (some (63, true)), 32767, false, true⟩,
      ⟨(some 66), .mv (.t 6), (some (63, true)), 16383, false, false⟩,
      ⟨(some 67), .call 27 [(.t 66)], (some (63, true)), 131071, false, true⟩,
      ⟨(some 68), .bin .add (.t 65) (.t 67), (some (63, true)), 262143, false, false⟩,
      ⟨(some 69), .fieldA 1 (.t 3), (some (63, true)), 16383, false, false⟩,
      ⟨(some 70), .load1 (.t 69), (some (63, true)), 540671, false, false⟩,
      ⟨(some 71), .fieldA 0 (.t 3), (some (63, true)), 16383, false, false⟩,
      ⟨(some 72), .load1 (.t 71), (some (63, true)), 2113535, false, false⟩,
      ⟨(some 73), .bin .sub (.t 70) (.t 72), (some (63, true)), 7880703, false, false⟩,
      ⟨(some 74), .bin .eql (.t 68) (.t 73), (some (63, true)), 16777215, false, false⟩,
      ⟨(some 75), .pick (.t 63) (.t 74) (.c (.bool false)), none, 33554431, false, false⟩,
      ⟨(some 4), .mv (.t 75), none, 67108863, false, false⟩])
  (.ret))))))))
theorem k6 : codeOf Try.prog 6 = some (c6, [.tmp 4], 76, false) := by kernel_rfl

/-- regesta/regestalaw01.SpanLists -/
def c7 : XCode :=
  .seq (.reg [⟨(some 3), .box 26 2 (.t 0), none, 0, true, false⟩,
      ⟨(some 4), .box 26 2 (.t 1), none, 0, true, false⟩,
      ⟨(some 6), .mv (.c (.bool false)), none, 0, true, false⟩])
  (.seq (.reg [⟨(some 7), .mv (.t 2), none, 0, true, false⟩,
      ⟨(some 8), .call 10 [(.t 7)], none, 0, true, false⟩,
      ⟨(some 2), .mv (.t 8), none, 0, true, false⟩])
  (.seq (.regD [⟨(some 9), .call 12 [], none, 0, true, false⟩,
      ⟨(some 10), .mv (.t 9), none, 1, false, false⟩,
      ⟨(some 11), .loadn 2 (.t 3), (some (10, true)), 3, false, false⟩,
      ⟨(some 12), .loadn 2 (.t 4), (some (10, true)), 3, false, false⟩,
      ⟨(some 13), .call 24 [(.t 11), (.t 12)], (some (10, true)), 15, false, true⟩,
      ⟨(some 14), .loadn 2 (.t 3), (some (10, true)), 3, false, false⟩,
      ⟨(some 15), .loadn 2 (.t 4), (some (10, true)), 3, false, false⟩,
      ⟨(some 16), .call 28 [(.t 14), (.t 15)], (some (10, true)), 127, true, false⟩,
      ⟨(some 17), .call 13 [(.t 13), (.t 16)], (some (10, true)), 255, true, false⟩,
      ⟨(some 18), .pick (.t 10) (.t 17) (.c (.bool false)), none, 511, false, false⟩,
      ⟨(some 19), .mv (.t 18), none, 1023, false, false⟩,
      ⟨(some 20), .mv (.t 2), (some (19, true)), 2047, false, false⟩,
      ⟨(some 21), .call 11 [(.t 20)], (some (19, true)), 4095, true, false⟩,
      ⟨(some 22), .mv (.t 2), (some (19, true)), 2047, false, false⟩,
      ⟨(some 23), .call 29 [(.t 22)], (some (19, true)), 16383, true, false⟩,
      ⟨(some 24), .call 13 [(.t 21), (.t 23)], (some (19, true)), 32767, true, false⟩,
      ⟨(some 25), .pick (.t 19) (.t 24) (.c (.bool false)), none, 65535, false, false⟩,
      ⟨(some 26), .mv (.t 25), none, 131071, false, false⟩,
      ⟨(some 27), .mv (.t 2), (some (26, true)), 262143, false, false⟩,
      ⟨(some 28), .loadn 2 (.t 3), (some (26, true)), 262143, false, false⟩,
      ⟨(some 29), .call 25 [(.t 27), (.t 28)], (some (26, true)), 1048575, false, true⟩,
      ⟨(some 30), .mv (.t 2), (some (26, true)), 262143, false, false⟩,
      ⟨(some 31), .loadn 2 (.t 3), (some (26, true)), 262143, false, false⟩,
      ⟨(some 32), .call 30 [(.t 30), (.t 31)], (some (26, true)), 8388607, true, false⟩,
      ⟨(some 33), .call 13 [(.t 29), (.t 32)], (some (26, true)), 16777215, true, false⟩,
      ⟨(some 34), .pick (.t 26) (.t 33) (.c (.bool false)), none, 33554431, false, false⟩,
      ⟨(some 35), .mv (.t 34), none, 67108863, false, false⟩,
      ⟨(some 36), .mv (.t 2), (some (35, true)), 134217727, false, false⟩,
      ⟨(some 37), .loadn 2 (.t 3), (some (35, true)), 134217727, false, false⟩,
      ⟨(some 38), .call 26 [(.t 36), (.t 37)], (some (35, true)), 536870911, false, true⟩,
      ⟨(some 39), .mv (.t 2), (some (35, true)), 134217727, false, false⟩,
      ⟨(some 40), .loadn 2 (.t 3), (some (35, true)), 134217727, false, false⟩,
      ⟨(some 41), .call 31 [(.t 39), (.t 40)], (some (35, true)), 4294967295, true, false⟩,
      ⟨(some 42), .eqb false (.t 38) (.t 41), (some (35, true)), 8589934591, false, false⟩,
      ⟨(some 43), .pick (.t 35) (.t 42) (.c (.bool false)), none, 17179869183, false, false⟩,
      ⟨(some 44), .mv (.t 43), none, 34359738367, false, false⟩,
      ⟨(some 45), .mv (.t 2), (some (44, true)), 68719476735, false, false⟩,
      ⟨(some 46), .call 27 [(.t 45)], (some (44, true)), 137438953471, true, false⟩,
      ⟨(some 47), .mv (.t 2), (some (44, true)), 68719476735, false, false⟩,
      ⟨(some 48), .call 32 [(.t 47)], (some (44, true)), 549755813887, true, false⟩,
      ⟨(some 49), .bin .eql (.t 46) (.t 48), (some (44, true)), 1099511627775, false, false⟩,
      ⟨(some 50), .pick (.t 44) (.t 49) (.c (.bool false)), none, 2199023255551, false, false⟩,
      ⟨(some 51), .mv (.t 50), none, 4398046511103, false, false⟩,
      ⟨(some 52), .mv (.t 2), (some (51, true)), 8796093022207, false, false⟩,
      ⟨(some 53), .call 33 [(.t 52)], (some (51, true)), 17592186044415, true, false⟩,
      ⟨(some 54), .mv (.t 2), (some (51, true)), 8796093022207, false, false⟩,
      ⟨(some 55), .call 34 [(.t 54)], (some (51, true)), 70368744177663, true, false⟩,
      ⟨(some 56), .eqb false (.t 53) (.t 55), (some (51, true)), 140737488355327, false, false⟩,
      ⟨(some 57), .pick (.t 51) (.t 56) (.c (.bool false)), none, 281474976710655, false, false⟩,
      ⟨(some 58), .mv (.t 57), none, 562949953421311, false, false⟩,
      ⟨(some 59), .mv (.t 2), (some (58, true)), 1125899906842623, false, false⟩,
      ⟨(some 60), .call 11 [(.t 59)], (some (58, true)), 2251799813685247, true, false⟩,
      ⟨(some 61), .call 33 [(.t 60)], (some (58, true)), 4503599627370495, true, false⟩,
      ⟨(some 62), .pick (.t 58) (.t 61) (.c (.bool false)), none, 9007199254740991, false, false⟩,
      ⟨(some 6), .mv (.t 62), none, 18014398509481983, false, false⟩])
  (.ret)))
theorem k7 : codeOf Try.prog 7 = some (c7, [.tmp 6], 63, false) := by kernel_rfl

/-- regesta/regestalaw01.SpanCuts -/
def c8 : XCode :=
  .seq (.reg [⟨(some 2), .box 26 2 (.t 0), none, 0, true, false⟩,
      ⟨(some 4), .mv (.c (.bool false)), none, 0, true, false⟩])
  (.seq (.seq (.reg [⟨(some 8), .mv (.t 1), none, 0, true, false⟩,
        ⟨(some 9), .lenS (.t 8), none, 0, true, false⟩,
        ⟨(some 10), .bin .gtr (.t 9) (.c (.int .i64 30)), none, 0, true, false⟩])
    (.cond (.t 10)
      (.reg [⟨(some 11), .mv (.t 1), none, 0, true, false⟩,
        ⟨(some 12), .sliceS 1 (.t 11) none (some (.c (.int .i64 30))), none, 0, true, false⟩,
        ⟨(some 1), .mv (.t 12), none, 0, true, false⟩])
      (.skip)))
  (.seq (.reg [⟨(some 13), .loadn 2 (.t 2), none, 0, true, false⟩,
      ⟨(some 14), .mv (.t 1), none, 0, true, false⟩,
      ⟨(some 15), .call 35 [(.t 13), (.t 14)], none, 0, true, false⟩,
      ⟨(some 5), .mv (.t 15), none, 0, true, false⟩])
  (.seq (.seq (.reg [⟨(some 16), .mv (.t 5), none, 0, true, false⟩,
        ⟨(some 17), .loadn 2 (.t 2), none, 0, true, false⟩,
        ⟨(some 18), .mv (.t 1), none, 0, true, false⟩,
        ⟨(some 19), .call 36 [(.t 17), (.t 18)], none, 0, true, false⟩,
        ⟨(some 20), .call 13 [(.t 16), (.t 19)], none, 0, true, false⟩,
        ⟨(some 21), .not (.t 20), none, 0, true, false⟩])
    (.cond (.t 21)
      (.seq (.reg [⟨(some 4), .mv (.c (.bool false)), none, 0, true, false⟩])
      (.ret))
      (.skip)))
  (.seq (.seq (.reg [⟨(some 6), .mv (.c (.int .i64 1)), none, 0, true, false⟩])
    (.block 0 (
      .loop (
        .seq (.seq (.reg [⟨(some 22), .mv (.t 6), none, 0, true, false⟩,
              ⟨(some 23), .mv (.t 5), none, 0, true, false⟩,
              ⟨(some 24), .lenS (.t 23), none, 0, true, false⟩,
              ⟨(some 25), .bin .lss (.t 22) (.t 24), none, 0, true, false⟩])
          (.cond (.t 25)
            (.skip)
            (.exit 0)))
        (.seq (.block 1 (
            .seq (.regD [⟨(some 28), .mv (.t 5), none, 0, false, false⟩,
                ⟨(some 29), .mv (.t 6), none, 0, false, false⟩,
                ⟨(some 30), .bin .sub (.t 29) (.c (.int .i64 1)), none, 2, false, false⟩,
                ⟨(some 31), .indexS 2 (.t 28) (.t 30), none, 7, false, false⟩,
                ⟨(some 32), .loadn 2 (.t 31), none, 15, false, false⟩,
                ⟨(some 33), .mv (.t 5), none, 0, false, false⟩,
                ⟨(some 34), .mv (.t 6), none, 0, false, false⟩,
                ⟨(some 35), .indexS 2 (.t 33) (.t 34), none, 96, false, false⟩,
                ⟨(some 36), .loadn 2 (.t 35), none, 224, false, false⟩,
                ⟨(some 37), .call 22 [(.t 32), (.t 36)], none, 511, true, false⟩,
                ⟨(some 38), .not (.t 37), none, 1023, false, false⟩])
            (.cond (.t 38)
              (.seq (.reg [⟨(some 4), .mv (.c (.bool false)), none, 0, true, false⟩])
              (.ret))
              (.skip))))
        (.reg [⟨(some 26), .mv (.t 6), none, 0, true, false⟩,
          ⟨(some 27), .bin .add (.t 26) (.c (.int .i64 1)), none, 0, true, false⟩,
          ⟨(some 6), .mv (.t 27), none, 0, true, false⟩]))))))
  (.seq (.reg [⟨(some 39), .mv (.t 5), none, 0, true, false⟩,
      ⟨(some 40), .call 11 [(.t 39)], none, 0, true, false⟩,
      ⟨(some 7), .mv (.t 40), none, 0, true, false⟩])
  (.seq (.regD [⟨(some 41), .call 12 [], none, 0, true, false⟩,
      ⟨(some 42), .mv (.t 41), none, 1, false, false⟩,
      ⟨(some 43), .loadn 2 (.t 2), (some (42, true)), 3, true, false⟩,
      ⟨(some 44), .call 16 [(.t 43)], (some (42, true)), 7, true, false⟩,
      ⟨(some 45), .mv (.t 44), (some (42, true)), 15, false, false⟩,
      ⟨(some 46), .mv (.t 7), (some (45, true)), 31, false, false⟩,
      ⟨(some 47), .lenS (.t 46), (some (45, true)), 63, false, false⟩,
      ⟨(some 48), .bin .eql (.t 47) (.c (.int .i64 1)), (some (45, true)), 127, false, false⟩,
      ⟨(some 49), .pick (.t 45) (.t 48) (.c (.bool false)), (some (42, true)), 255, false, false⟩,
      ⟨(some 50), .mv (.t 49), (some (42, true)), 511, false, false⟩,
      ⟨(some 51), .mv (.t 7), (some (50, true)), 1023, false, false⟩,
      ⟨(some 52), .indexS 2 (.t 51) (.c (.int .i64 0)), (some (50, true)), 2047, false, false⟩,
      ⟨(some 53), .loadn 2 (.t 52), (some (50, true)), 4095, false, false⟩,
      ⟨(some 54), .loadn 2 (.t 2), (some (50, true)), 1023, false, false⟩,
      ⟨(some 55), .eqs false [(.int .i64 0), (.int .i64 0)] (.t 53) (.t 54), (some (50, true)), 16383, false, false⟩,
      ⟨(some 56), .pick (.t 50) (.t 55) (.c (.bool false)), (some (42, true)), 32767, false, false⟩,
      ⟨(some 57), .mv (.t 56), (some (42, true)), 65535, false, false⟩,
      ⟨(some 58), .loadn 2 (.t 2), (some (57, false)), 131071, true, false⟩,
      ⟨(some 59), .call 16 [(.t 58)], (some (57, false)), 262143, true, false⟩,
      ⟨(some 60), .not (.t 59), (some (57, false)), 524287, false, false⟩,
      ⟨(some 61), .mv (.t 60), (some (57, false)), 1048575, false, false⟩,
      ⟨(some 62), .mv (.t 5), (some (61, true)), 2097151, false, false⟩,
      ⟨(some 63), .lenS (.t 62), (some (61, true)), 4194303, false, false⟩,
      ⟨(some 64), .bin .eql (.t 63) (.c (.int .i64 0)), (some (61, true)), 8388607, false, false⟩,
      ⟨(some 65), .pick (.t 61) (.t 64) (.c (.bool false)), (some (57, false)), 16777215, false, false⟩,
      ⟨(some 66), .pick (.t 57) (.c (.bool true)) (.t 65), (some (42, true)), 33554431, false, false⟩,
      ⟨(some 67), .pick (.t 42) (.t 66) (.c (.bool false)), none, 67108863, false, false⟩,
      ⟨(some 4), .mv (.t 67), none, 134217727, false, false⟩])
  (.ret)))))))
theorem k8 : codeOf Try.prog 8 = some (c8, [.tmp 4], 68, false) := by kernel_rfl

/-- regesta/regestalaw01.few -/
def c10 : XCode :=
  .seq (.reg [⟨(some 2), .nilrow 26 2, none, 0, true, false⟩])
  (.seq (.seq (.reg [⟨(some 3), .mv (.t 0), none, 0, true, false⟩,
        ⟨(some 4), .lenS (.t 3), none, 0, true, false⟩,
        ⟨(some 5), .bin .gtr (.t 4) (.c (.int .i64 30)), none, 0, true, false⟩])
    (.cond (.t 5)
      (.seq (.reg [⟨(some 6), .mv (.t 0), none, 0, true, false⟩,
          ⟨(some 7), .sliceS 2 (.t 6) none (some (.c (.int .i64 30))), none, 0, true, false⟩,
          ⟨(some 2), .mv (.t 7), none, 0, true, false⟩])
      (.ret))
      (.skip)))
  (.seq (.reg [⟨(some 8), .mv (.t 0), none, 0, true, false⟩,
      ⟨(some 2), .mv (.t 8), none, 0, true, false⟩])
  (.ret)))
theorem k10 : codeOf Try.prog 10 = some (c10, [.tmp 2], 9, false) := by kernel_rfl

/-- regesta/span.Join -/
def c11 : XCode :=
  .seq (.reg [⟨(some 2), .nilrow 26 2, none, 0, true, false⟩])
  (.seq (.reg [⟨(some 3), .nilrow 26 2, none, 0, true, false⟩])
  (.seq (.seq (.reg [⟨(some 7), .mv (.t 0), none, 0, true, false⟩,
        ⟨(some 8), .call 37 [(.t 7)], none, 0, true, false⟩,
        ⟨(some 9), .lenS (.t 8), none, 0, true, false⟩,
        ⟨(some 10), .mv (.c (.int .i64 0)), none, 0, true, false⟩])
    (.block 0 (
      .loop (
        .seq (.reg [⟨(some 11), .bin .lss (.t 10) (.t 9), none, 0, true, false⟩])
        (.seq (.cond (.t 11)
            (.skip)
            (.exit 0))
        (.seq (.block 1 (
            .seq (.reg [⟨(some 12), .indexS 2 (.t 8) (.t 10), none, 0, true, false⟩,
                ⟨(some 13), .loadn 2 (.t 12), none, 0, true, false⟩,
                ⟨(some 5), .alloc 26 [(.int .i64 0), (.int .i64 0)], none, 0, true, false⟩,
                ⟨none, .store 2 (.t 5) (.t 13), none, 0, true, false⟩])
            (.seq (.reg [⟨(some 14), .mv (.t 3), none, 0, true, false⟩,
                ⟨(some 15), .lenS (.t 14), none, 0, true, false⟩,
                ⟨(some 16), .bin .sub (.t 15) (.c (.int .i64 1)), none, 0, true, false⟩,
                ⟨(some 6), .mv (.t 16), none, 0, true, false⟩])
            (.seq (.seq (.regD [⟨(some 17), .mv (.t 6), none, 0, false, false⟩,
                  ⟨(some 18), .bin .lss (.t 17) (.c (.int .i64 0)), none, 1, false, false⟩,
                  ⟨(some 19), .mv (.t 18), none, 3, false, false⟩,
                  ⟨(some 20), .mv (.t 3), (some (19, false)), 7, false, false⟩,
                  ⟨(some 21), .mv (.t 6), (some (19, false)), 7, false, false⟩,
                  ⟨(some 22), .indexS 2 (.t 20) (.t 21), (some (19, false)), 31, false, false⟩,
                  ⟨(some 23), .fieldA 1 (.t 22), (some (19, false)), 63, false, false⟩,
                  ⟨(some 24), .load1 (.t 23), (some (19, false)), 127, false, false⟩,
                  ⟨(some 25), .fieldA 0 (.t 5), (some (19, false)), 7, false, false⟩,
                  ⟨(some 26), .load1 (.t 25), (some (19, false)), 263, false, false⟩,
                  ⟨(some 27), .bin .lss (.t 24) (.t 26), (some (19, false)), 1023, false, false⟩,
                  ⟨(some 28), .pick (.t 19) (.c (.bool true)) (.t 27), none, 2047, false, false⟩])
              (.cond (.t 28)
                (.seq (.reg [⟨(some 29), .mv (.t 3), none, 0, true, false⟩,
                    ⟨(some 30), .loadn 2 (.t 5), none, 0, true, false⟩,
                    ⟨(some 31), .mkrow 26 2 1 [(.int .i64 0), (.int .i64 0)] [(0, (.t 30))], none, 0, true, false⟩,
                    ⟨(some 32), .append 26 2 16 (.t 29) (.t 31), none, 0, true, false⟩,
                    ⟨(some 3), .mv (.t 32), none, 0, true, false⟩])
                (.exit 1))
                (.skip)))
            (.regD [⟨(some 33), .mv (.t 3), none, 0, false, false⟩,
              ⟨(some 34), .mv (.t 6), none, 0, false, false⟩,
              ⟨(some 35), .mv (.t 3), none, 0, false, false⟩,
              ⟨(some 36), .mv (.t 6), none, 0, false, false⟩,
              ⟨(some 37), .indexS 2 (.t 35) (.t 36), none, 12, false, false⟩,
              ⟨(some 38), .fieldA 1 (.t 37), none, 28, false, false⟩,
              ⟨(some 39), .load1 (.t 38), none, 60, false, false⟩,
              ⟨(some 40), .fieldA 1 (.t 5), none, 0, false, false⟩,
              ⟨(some 41), .load1 (.t 40), none, 128, false, false⟩,
              ⟨(some 42), .max2 (.t 39) (.t 41), none, 508, false, false⟩,
              ⟨(some 43), .indexS 2 (.t 33) (.t 34), none, 1023, true, false⟩,
              ⟨(some 44), .fieldA 1 (.t 43), none, 2047, false, false⟩,
              ⟨none, .store 1 (.t 44) (.t 42), none, 4095, true, false⟩])))))
        (.reg [⟨(some 45), .bin .add (.t 10) (.c (.int .i64 1)), none, 0, true, false⟩,
          ⟨(some 10), .mv (.t 45), none, 0, true, false⟩])))))))
  (.seq (.reg [⟨(some 46), .mv (.t 3), none, 0, true, false⟩,
      ⟨(some 2), .mv (.t 46), none, 0, true, false⟩])
  (.ret))))
theorem k11 : codeOf Try.prog 11 = some (c11, [.tmp 2], 47, false) := by kernel_rfl

/-- regesta/regestalaw01.live -/
def c12 : XCode :=
  .seq (.reg [⟨(some 0), .mv (.c (.bool false)), none, 0, true, false⟩])
  (.seq (.reg [⟨(some 3), .build [(.int .i64 0), (.int .i64 0)] [(0, 1, (.c (.int .i64 0))), (1, 1, (.c (.int .i64 10)))], none, 0, true, false⟩,
      ⟨(some 4), .build [(.int .i64 0), (.int .i64 0)] [(0, 1, (.c (.int .i64 3))), (1, 1, (.c (.int .i64 5)))], none, 0, true, false⟩,
      ⟨(some 5), .call 24 [(.t 3), (.t 4)], none, 0, true, false⟩,
      ⟨(some 1), .mv (.t 5), none, 0, true, false⟩])
  (.seq (.reg [⟨(some 6), .build [(.int .i64 0), (.int .i64 0)] [(0, 1, (.c (.int .i64 3))), (1, 1, (.c (.int .i64 5)))], none, 0, true, false⟩,
      ⟨(some 7), .build [(.int .i64 0), (.int .i64 0)] [(0, 1, (.c (.int .i64 0))), (1, 1, (.c (.int .i64 3)))], none, 0, true, false⟩,
      ⟨(some 8), .build [(.int .i64 0), (.int .i64 0)] [(0, 1, (.c (.int .i64 7))), (1, 1, (.c (.int .i64 8)))], none, 0, true, false⟩,
      ⟨(some 9), .mkrow 26 2 3 [(.int .i64 0), (.int .i64 0)] [(0, (.t 6)), (1, (.t 7)), (2, (.t 8))], none, 0, true, false⟩,
      ⟨(some 10), .call 11 [(.t 9)], none, 0, true, false⟩,
      ⟨(some 2), .mv (.t 10), none, 0, true, false⟩])
  (.seq (.reg [⟨(some 11), .mv (.t 1), none, 0, true, false⟩,
      ⟨(some 12), .lenS (.t 11), none, 0, true, false⟩,
      ⟨(some 13), .bin .eql (.t 12) (.c (.int .i64 2)), none, 0, true, false⟩,
      ⟨(some 14), .mv (.t 13), none, 0, true, false⟩,
      ⟨(some 15), .mv (.t 1), (some (14, true)), 0, true, false⟩,
      ⟨(some 16), .indexS 2 (.t 15) (.c (.int .i64 1)), (some (14, true)), 0, true, false⟩,
      ⟨(some 17), .fieldA 0 (.t 16), (some (14, true)), 0, true, false⟩,
      ⟨(some 18), .load1 (.t 17), (some (14, true)), 0, true, false⟩,
      ⟨(some 19), .bin .eql (.t 18) (.c (.int .i64 5)), (some (14, true)), 0, true, false⟩,
      ⟨(some 20), .pick (.t 14) (.t 19) (.c (.bool false)), none, 0, true, false⟩,
      ⟨(some 21), .mv (.t 20), none, 0, true, false⟩,
      ⟨(some 22), .mv (.t 2), (some (21, true)), 0, true, false⟩,
      ⟨(some 23), .lenS (.t 22), (some (21, true)), 0, true, false⟩,
      ⟨(some 24), .bin .eql (.t 23) (.c (.int .i64 2)), (some (21, true)), 0, true, false⟩,
      ⟨(some 25), .pick (.t 21) (.t 24) (.c (.bool false)), none, 0, true, false⟩,
      ⟨(some 26), .mv (.t 25), none, 0, true, false⟩,
      ⟨(some 27), .mv (.t 2), (some (26, true)), 0, true, false⟩,
      ⟨(some 28), .indexS 2 (.t 27) (.c (.int .i64 0)), (some (26, true)), 0, true, false⟩,
      ⟨(some 29), .fieldA 1 (.t 28), (some (26, true)), 0, true, false⟩,
      ⟨(some 30), .load1 (.t 29), (some (26, true)), 0, true, false⟩,
      ⟨(some 31), .bin .eql (.t 30) (.c (.int .i64 5)), (some (26, true)), 0, true, false⟩,
      ⟨(some 32), .pick (.t 26) (.t 31) (.c (.bool false)), none, 0, true, false⟩,
      ⟨(some 33), .mv (.t 32), none, 0, true, false⟩,
      ⟨(some 34), .mv (.t 1), (some (33, true)), 0, true, false⟩,
      ⟨(some 35), .indexS 2 (.t 34) (.c (.int .i64 0)), (some (33, true)), 0, true, false⟩,
      ⟨(some 36), .loadn 2 (.t 35), (some (33, true)), 0, true, false⟩,
      ⟨(some 37), .build [(.int .i64 0), (.int .i64 0)] [(0, 1, (.c (.int .i64 3))), (1, 1, (.c (.int .i64 4)))], (some (33, true)), 0, true, false⟩,
      ⟨(some 38), .call 22 [(.t 36), (.t 37)], (some (33, true)), 0, true, false⟩,
      ⟨(some 39), .pick (.t 33) (.t 38) (.c (.bool false)), none, 0, true, false⟩,
      ⟨(some 40), .mv (.t 39), none, 0, true, false⟩,
      ⟨(some 41), .mv (.t 2), (some (40, true)), 0, true, false⟩,
      ⟨(some 42), .call 27 [(.t 41)], (some (40, true)), 0, true, false⟩,
      ⟨(some 43), .bin .eql (.t 42) (.c (.int .i64 6)), (some (40, true)), 0, true, false⟩,
      ⟨(some 44), .pick (.t 40) (.t 43) (.c (.bool false)), none, 0, true, false⟩,
      ⟨(some 45), .mv (.t 44), none, 0, true, false⟩,
      ⟨(some 46), .build [(.int .i64 0), (.int .i64 0)] [(0, 1, (.c (.int .i64 4))), (1, 1, (.c (.int .i64 4)))], (some (45, true)), 0, true, false⟩,
      ⟨(some 47), .call 16 [(.t 46)], (some (45, true)), 0, true, false⟩,
      ⟨(some 48), .not (.t 47), (some (45, true)), 0, true, false⟩,
      ⟨(some 49), .pick (.t 45) (.t 48) (.c (.bool false)), none, 0, true, false⟩,
      ⟨(some 0), .mv (.t 49), none, 0, true, false⟩])
  (.ret))))
theorem k12 : codeOf Try.prog 12 = some (c12, [.tmp 0], 50, false) := by kernel_rfl

/-- regesta/regestaref01.Same -/
def c13 : XCode :=
  .seq (.reg [⟨(some 4), .mv (.c (.bool false)), none, 0, true, false⟩])
  (.seq (.seq (.reg [⟨(some 6), .mv (.t 0), none, 0, true, false⟩,
        ⟨(some 7), .lenS (.t 6), none, 0, true, false⟩,
        ⟨(some 8), .mv (.t 1), none, 0, true, false⟩,
        ⟨(some 9), .lenS (.t 8), none, 0, true, false⟩,
        ⟨(some 10), .bin .neq (.t 7) (.t 9), none, 0, true, false⟩])
    (.cond (.t 10)
      (.seq (.reg [⟨(some 4), .mv (.c (.bool false)), none, 0, true, false⟩])
      (.ret))
      (.skip)))
  (.seq (.seq (.reg [⟨(some 5), .mv (.c (.int .i64 0)), none, 0, true, false⟩])
    (.block 0 (
      .loop (
        .seq (.seq (.reg [⟨(some 11), .mv (.t 5), none, 0, true, false⟩,
              ⟨(some 12), .mv (.t 0), none, 0, true, false⟩,
              ⟨(some 13), .lenS (.t 12), none, 0, true, false⟩,
              ⟨(some 14), .bin .lss (.t 11) (.t 13), none, 0, true, false⟩])
          (.cond (.t 14)
            (.skip)
            (.exit 0)))
        (.seq (.block 1 (
            .seq (.regD [⟨(some 17), .mv (.t 0), none, 0, false, false⟩,
                ⟨(some 18), .mv (.t 5), none, 0, false, false⟩,
                ⟨(some 19), .indexS 2 (.t 17) (.t 18), none, 3, false, false⟩,
                ⟨(some 20), .loadn 2 (.t 19), none, 7, false, false⟩,
                ⟨(some 21), .mv (.t 1), none, 0, false, false⟩,
                ⟨(some 22), .mv (.t 5), none, 0, false, false⟩,
                ⟨(some 23), .indexS 2 (.t 21) (.t 22), none, 48, false, false⟩,
                ⟨(some 24), .loadn 2 (.t 23), none, 112, false, false⟩,
                ⟨(some 25), .eqs true [(.int .i64 0), (.int .i64 0)] (.t 20) (.t 24), none, 255, false, false⟩])
            (.cond (.t 25)
              (.seq (.reg [⟨(some 4), .mv (.c (.bool false)), none, 0, true, false⟩])
              (.ret))
              (.skip))))
        (.reg [⟨(some 15), .mv (.t 5), none, 0, true, false⟩,
          ⟨(some 16), .bin .add (.t 15) (.c (.int .i64 1)), none, 0, true, false⟩,
          ⟨(some 5), .mv (.t 16), none, 0, true, false⟩]))))))
  (.seq (.reg [⟨(some 4), .mv (.c (.bool true)), none, 0, true, false⟩])
  (.ret))))
theorem k13 : codeOf Try.prog 13 = some (c13, [.tmp 4], 26, false) := by kernel_rfl

/-- regesta/span.Both -/
def c14 : XCode :=
  .seq (.reg [⟨(some 2), .box 26 2 (.t 0), none, 0, true, false⟩,
      ⟨(some 3), .box 26 2 (.t 1), none, 0, true, false⟩,
      ⟨(some 4), .alloc 26 [(.int .i64 0), (.int .i64 0)], none, 0, true, false⟩,
      ⟨(some 5), .mv (.c (.bool false)), none, 0, true, false⟩])
  (.seq (.seq (.reg [⟨(some 6), .loadn 2 (.t 2), none, 0, true, false⟩,
        ⟨(some 7), .loadn 2 (.t 3), none, 0, true, false⟩,
        ⟨(some 8), .call 20 [(.t 6), (.t 7)], none, 0, true, false⟩,
        ⟨(some 9), .not (.t 8), none, 0, true, false⟩])
    (.cond (.t 9)
      (.seq (.reg [⟨(some 10), .build [(.int .i64 0), (.int .i64 0)] [], none, 0, true, false⟩,
          ⟨none, .store 2 (.t 4) (.t 10), none, 0, true, false⟩,
          ⟨(some 5), .mv (.c (.bool false)), none, 0, true, false⟩])
      (.ret))
      (.skip)))
  (.seq (.reg [⟨(some 11), .fieldA 0 (.t 2), none, 0, true, false⟩,
      ⟨(some 12), .load1 (.t 11), none, 0, true, false⟩,
      ⟨(some 13), .fieldA 0 (.t 3), none, 0, true, false⟩,
      ⟨(some 14), .load1 (.t 13), none, 0, true, false⟩,
      ⟨(some 15), .max2 (.t 12) (.t 14), none, 0, true, false⟩,
      ⟨(some 16), .fieldA 1 (.t 2), none, 0, true, false⟩,
      ⟨(some 17), .load1 (.t 16), none, 0, true, false⟩,
      ⟨(some 18), .fieldA 1 (.t 3), none, 0, true, false⟩,
      ⟨(some 19), .load1 (.t 18), none, 0, true, false⟩,
      ⟨(some 20), .min2 (.t 17) (.t 19), none, 0, true, false⟩,
      ⟨(some 21), .build [(.int .i64 0), (.int .i64 0)] [(0, 1, (.t 15)), (1, 1, (.t 20))], none, 0, true, false⟩,
      ⟨none, .store 2 (.t 4) (.t 21), none, 0, true, false⟩,
      ⟨(some 5), .mv (.c (.bool true)), none, 0, true, false⟩])
  (.ret)))
theorem k14 : codeOf Try.prog 14 = some (c14, [.celln 4 2, .tmp 5], 22, false) := by kernel_rfl

/-- regesta/regestaref01.Both -/
def c15 : XCode :=
  .seq (.reg [⟨(some 2), .box 26 2 (.t 0), none, 0, true, false⟩,
      ⟨(some 3), .box 26 2 (.t 1), none, 0, true, false⟩,
      ⟨(some 4), .alloc 26 [(.int .i64 0), (.int .i64 0)], none, 0, true, false⟩,
      ⟨(some 5), .mv (.c (.bool false)), none, 0, true, false⟩])
  (.seq (.seq (.reg [⟨(some 7), .loadn 2 (.t 2), none, 0, true, false⟩,
        ⟨(some 8), .call 17 [(.t 7)], none, 0, true, false⟩,
        ⟨(some 9), .not (.t 8), none, 0, true, false⟩,
        ⟨(some 10), .mv (.t 9), none, 0, true, false⟩,
        ⟨(some 11), .loadn 2 (.t 3), (some (10, false)), 0, true, false⟩,
        ⟨(some 12), .call 17 [(.t 11)], (some (10, false)), 0, true, false⟩,
        ⟨(some 13), .not (.t 12), (some (10, false)), 0, true, false⟩,
        ⟨(some 14), .pick (.t 10) (.c (.bool true)) (.t 13), none, 0, true, false⟩])
    (.cond (.t 14)
      (.seq (.reg [⟨(some 15), .build [(.int .i64 0), (.int .i64 0)] [], none, 0, true, false⟩,
          ⟨none, .store 2 (.t 4) (.t 15), none, 0, true, false⟩,
          ⟨(some 5), .mv (.c (.bool false)), none, 0, true, false⟩])
      (.ret))
      (.skip)))
  (.seq (.reg [⟨(some 16), .fieldA 0 (.t 2), none, 0, true, false⟩,
      ⟨(some 17), .load1 (.t 16), none, 0, true, false⟩,
      ⟨(some 18), .fieldA 0 (.t 3), none, 0, true, false⟩,
      ⟨(some 19), .load1 (.t 18), none, 0, true, false⟩,
      ⟨(some 20), .max2 (.t 17) (.t 19), none, 0, true, false⟩,
      ⟨(some 21), .fieldA 1 (.t 2), none, 0, true, false⟩,
      ⟨(some 22), .load1 (.t 21), none, 0, true, false⟩,
      ⟨(some 23), .fieldA 1 (.t 3), none, 0, true, false⟩,
      ⟨(some 24), .load1 (.t 23), none, 0, true, false⟩,
      ⟨(some 25), .min2 (.t 22) (.t 24), none, 0, true, false⟩,
      ⟨(some 26), .build [(.int .i64 0), (.int .i64 0)] [(0, 1, (.t 20)), (1, 1, (.t 25))], none, 0, true, false⟩,
      ⟨(some 6), .alloc 26 [(.int .i64 0), (.int .i64 0)], none, 0, true, false⟩,
      ⟨none, .store 2 (.t 6) (.t 26), none, 0, true, false⟩])
  (.seq (.seq (.reg [⟨(some 27), .fieldA 0 (.t 6), none, 0, true, false⟩,
        ⟨(some 28), .load1 (.t 27), none, 0, true, false⟩,
        ⟨(some 29), .fieldA 1 (.t 6), none, 0, true, false⟩,
        ⟨(some 30), .load1 (.t 29), none, 0, true, false⟩,
        ⟨(some 31), .bin .geq (.t 28) (.t 30), none, 0, true, false⟩])
    (.cond (.t 31)
      (.seq (.reg [⟨(some 32), .build [(.int .i64 0), (.int .i64 0)] [], none, 0, true, false⟩,
          ⟨none, .store 2 (.t 4) (.t 32), none, 0, true, false⟩,
          ⟨(some 5), .mv (.c (.bool false)), none, 0, true, false⟩])
      (.ret))
      (.skip)))
  (.seq (.reg [⟨(some 33), .loadn 2 (.t 6), none, 0, true, false⟩,
      ⟨none, .store 2 (.t 4) (.t 33), none, 0, true, false⟩,
      ⟨(some 5), .mv (.c (.bool true)), none, 0, true, false⟩])
  (.ret)))))
theorem k15 : codeOf Try.prog 15 = some (c15, [.celln 4 2, .tmp 5], 34, false) := by kernel_rfl

/-- regesta/span.Right -/
def c16 : XCode :=
  .seq (.reg [⟨(some 1), .box 26 2 (.t 0), none, 0, true, false⟩,
      ⟨(some 2), .mv (.c (.bool false)), none, 0, true, false⟩])
  (.seq (.reg [⟨(some 3), .fieldA 0 (.t 1), none, 0, true, false⟩,
      ⟨(some 4), .load1 (.t 3), none, 0, true, false⟩,
      ⟨(some 5), .bin .leq (.c (.int .i64 (-1000))) (.t 4), none, 0, true, false⟩,
      ⟨(some 6), .mv (.t 5), none, 0, true, false⟩,
      ⟨(some 7), .fieldA 0 (.t 1), (some (6, true)), 0, true, false⟩,
      ⟨(some 8), .load1 (.t 7), (some (6, true)), 0, true, false⟩,
      ⟨(some 9), .fieldA 1 (.t 1), (some (6, true)), 0, true, false⟩,
      ⟨(some 10), .load1 (.t 9), (some (6, true)), 0, true, false⟩,
      ⟨(some 11), .bin .lss (.t 8) (.t 10), (some (6, true)), 0, true, false⟩,
      ⟨(some 12), .pick (.t 6) (.t 11) (.c (.bool false)), none, 0, true, false⟩,
      ⟨(some 13), .mv (.t 12), none, 0, true, false⟩,
      ⟨(some 14), .fieldA 1 (.t 1), (some (13, true)), 0, true, false⟩,
      ⟨(some 15), .load1 (.t 14), (some (13, true)), 0, true, false⟩,
      ⟨(some 16), .bin .leq (.t 15) (.c (.int .i64 1000)), (some (13, true)), 0, true, false⟩,
      ⟨(some 17), .pick (.t 13) (.t 16) (.c (.bool false)), none, 0, true, false⟩,
      ⟨(some 2), .mv (.t 17), none, 0, true, false⟩])
  (.ret))
theorem k16 : codeOf Try.prog 16 = some (c16, [.tmp 2], 18, false) := by kernel_rfl

/-- regesta/regestaref01.Right -/
def c17 : XCode :=
  .seq (.reg [⟨(some 1), .box 26 2 (.t 0), none, 0, true, false⟩,
      ⟨(some 2), .mv (.c (.bool false)), none, 0, true, false⟩])
  (.seq (.reg [⟨(some 3), .fieldA 0 (.t 1), none, 0, true, false⟩,
      ⟨(some 4), .load1 (.t 3), none, 0, true, false⟩,
      ⟨(some 5), .bin .geq (.t 4) (.c (.int .i64 (-1000))), none, 0, true, false⟩,
      ⟨(some 6), .mv (.t 5), none, 0, true, false⟩,
      ⟨(some 7), .fieldA 0 (.t 1), (some (6, true)), 0, true, false⟩,
      ⟨(some 8), .load1 (.t 7), (some (6, true)), 0, true, false⟩,
      ⟨(some 9), .fieldA 1 (.t 1), (some (6, true)), 0, true, false⟩,
      ⟨(some 10), .load1 (.t 9), (some (6, true)), 0, true, false⟩,
      ⟨(some 11), .bin .lss (.t 8) (.t 10), (some (6, true)), 0, true, false⟩,
      ⟨(some 12), .pick (.t 6) (.t 11) (.c (.bool false)), none, 0, true, false⟩,
      ⟨(some 13), .mv (.t 12), none, 0, true, false⟩,
      ⟨(some 14), .fieldA 1 (.t 1), (some (13, true)), 0, true, false⟩,
      ⟨(some 15), .load1 (.t 14), (some (13, true)), 0, true, false⟩,
      ⟨(some 16), .bin .leq (.t 15) (.c (.int .i64 1000)), (some (13, true)), 0, true, false⟩,
      ⟨(some 17), .pick (.t 13) (.t 16) (.c (.bool false)), none, 0, true, false⟩,
      ⟨(some 2), .mv (.t 17), none, 0, true, false⟩])
  (.ret))
theorem k17 : codeOf Try.prog 17 = some (c17, [.tmp 2], 18, false) := by kernel_rfl

/-- regesta/span.Has -/
def c18 : XCode :=
  .seq (.reg [⟨(some 2), .box 26 2 (.t 0), none, 0, true, false⟩,
      ⟨(some 4), .mv (.c (.bool false)), none, 0, true, false⟩])
  (.seq (.reg [⟨(some 5), .loadn 2 (.t 2), none, 0, true, false⟩,
      ⟨(some 6), .call 16 [(.t 5)], none, 0, true, false⟩,
      ⟨(some 7), .mv (.t 6), none, 0, true, false⟩,
      ⟨(some 8), .mv (.t 1), (some (7, true)), 0, true, false⟩,
      ⟨(some 9), .fieldA 0 (.t 2), (some (7, true)), 0, true, false⟩,
      ⟨(some 10), .load1 (.t 9), (some (7, true)), 0, true, false⟩,
      ⟨(some 11), .bin .geq (.t 8) (.t 10), (some (7, true)), 0, true, false⟩,
      ⟨(some 12), .pick (.t 7) (.t 11) (.c (.bool false)), none, 0, true, false⟩,
      ⟨(some 13), .mv (.t 12), none, 0, true, false⟩,
      ⟨(some 14), .mv (.t 1), (some (13, true)), 0, true, false⟩,
      ⟨(some 15), .fieldA 1 (.t 2), (some (13, true)), 0, true, false⟩,
      ⟨(some 16), .load1 (.t 15), (some (13, true)), 0, true, false⟩,
      ⟨(some 17), .bin .lss (.t 14) (.t 16), (some (13, true)), 0, true, false⟩,
      ⟨(some 18), .pick (.t 13) (.t 17) (.c (.bool false)), none, 0, true, false⟩,
      ⟨(some 4), .mv (.t 18), none, 0, true, false⟩])
  (.ret))
theorem k18 : codeOf Try.prog 18 = some (c18, [.tmp 4], 19, false) := by kernel_rfl

/-- regesta/regestaref01.Has -/
def c19 : XCode :=
  .seq (.reg [⟨(some 2), .box 26 2 (.t 0), none, 0, true, false⟩,
      ⟨(some 4), .mv (.c (.bool false)), none, 0, true, false⟩])
  (.seq (.reg [⟨(some 5), .loadn 2 (.t 2), none, 0, true, false⟩,
      ⟨(some 6), .call 17 [(.t 5)], none, 0, true, false⟩,
      ⟨(some 7), .mv (.t 6), none, 0, true, false⟩,
      ⟨(some 8), .fieldA 0 (.t 2), (some (7, true)), 0, true, false⟩,
      ⟨(some 9), .load1 (.t 8), (some (7, true)), 0, true, false⟩,
      ⟨(some 10), .mv (.t 1), (some (7, true)), 0, true, false⟩,
      ⟨(some 11), .bin .leq (.t 9) (.t 10), (some (7, true)), 0, true, false⟩,
      ⟨(some 12), .pick (.t 7) (.t 11) (.c (.bool false)), none, 0, true, false⟩,
      ⟨(some 13), .mv (.t 12), none, 0, true, false⟩,
      ⟨(some 14), .mv (.t 1), (some (13, true)), 0, true, false⟩,
      ⟨(some 15), .fieldA 1 (.t 2), (some (13, true)), 0, true, false⟩,
      ⟨(some 16), .load1 (.t 15), (some (13, true)), 0, true, false⟩,
      ⟨(some 17), .bin .lss (.t 14) (.t 16), (some (13, true)), 0, true, false⟩,
      ⟨(some 18), .pick (.t 13) (.t 17) (.c (.bool false)), none, 0, true, false⟩,
      ⟨(some 4), .mv (.t 18), none, 0, true, false⟩])
  (.ret))
theorem k19 : codeOf Try.prog 19 = some (c19, [.tmp 4], 19, false) := by kernel_rfl

/-- regesta/span.Overlaps -/
def c20 : XCode :=
  .seq (.reg [⟨(some 2), .box 26 2 (.t 0), none, 0, true, false⟩,
      ⟨(some 3), .box 26 2 (.t 1), none, 0, true, false⟩,
      ⟨(some 4), .mv (.c (.bool false)), none, 0, true, false⟩])
  (.seq (.reg [⟨(some 5), .loadn 2 (.t 2), none, 0, true, false⟩,
      ⟨(some 6), .call 16 [(.t 5)], none, 0, true, false⟩,
      ⟨(some 7), .mv (.t 6), none, 0, true, false⟩,
      ⟨(some 8), .loadn 2 (.t 3), (some (7, true)), 0, true, false⟩,
      ⟨(some 9), .call 16 [(.t 8)], (some (7, true)), 0, true, false⟩,
      ⟨(some 10), .pick (.t 7) (.t 9) (.c (.bool false)), none, 0, true, false⟩,
      ⟨(some 11), .mv (.t 10), none, 0, true, false⟩,
      ⟨(some 12), .fieldA 0 (.t 2), (some (11, true)), 0, true, false⟩,
      ⟨(some 13), .load1 (.t 12), (some (11, true)), 0, true, false⟩,
      ⟨(some 14), .fieldA 1 (.t 3), (some (11, true)), 0, true, false⟩,
      ⟨(some 15), .load1 (.t 14), (some (11, true)), 0, true, false⟩,
      ⟨(some 16), .bin .lss (.t 13) (.t 15), (some (11, true)), 0, true, false⟩,
      ⟨(some 17), .pick (.t 11) (.t 16) (.c (.bool false)), none, 0, true, false⟩,
      ⟨(some 18), .mv (.t 17), none, 0, true, false⟩,
      ⟨(some 19), .fieldA 0 (.t 3), (some (18, true)), 0, true, false⟩,
      ⟨(some 20), .load1 (.t 19), (some (18, true)), 0, true, false⟩,
      ⟨(some 21), .fieldA 1 (.t 2), (some (18, true)), 0, true, false⟩,
      ⟨(some 22), .load1 (.t 21), (some (18, true)), 0, true, false⟩,
      ⟨(some 23), .bin .lss (.t 20) (.t 22), (some (18, true)), 0, true, false⟩,
      ⟨(some 24), .pick (.t 18) (.t 23) (.c (.bool false)), none, 0, true, false⟩,
      ⟨(some 4), .mv (.t 24), none, 0, true, false⟩])
  (.ret))
theorem k20 : codeOf Try.prog 20 = some (c20, [.tmp 4], 25, false) := by kernel_rfl

/-- regesta/regestaref01.Overlaps -/
def c21 : XCode :=
  .seq (.reg [⟨(some 2), .box 26 2 (.t 0), none, 0, true, false⟩,
      ⟨(some 3), .box 26 2 (.t 1), none, 0, true, false⟩,
      ⟨(some 4), .mv (.c (.bool false)), none, 0, true, false⟩])
  (.seq (.reg [⟨(some 8), .loadn 2 (.t 2), none, 0, true, false⟩,
      ⟨(some 9), .loadn 2 (.t 3), none, 0, true, false⟩,
      ⟨(some 10), .call 15 [(.t 8), (.t 9)], none, 0, true, false⟩,
      ⟨(some 7), .mv (.t 10), none, 0, true, false⟩,
      ⟨(some 11), .ext 0 (.t 7), none, 0, true, false⟩,
      ⟨(some 12), .ext 1 (.t 7), none, 0, true, false⟩,
      ⟨(some 5), .alloc 26 [(.int .i64 0), (.int .i64 0)], none, 0, true, false⟩,
      ⟨none, .store 2 (.t 5) (.t 11), none, 0, true, false⟩,
      ⟨(some 6), .mv (.t 12), none, 0, true, false⟩])
  (.seq (.reg [⟨(some 13), .mv (.t 6), none, 0, true, false⟩,
      ⟨(some 4), .mv (.t 13), none, 0, true, false⟩])
  (.ret)))
theorem k21 : codeOf Try.prog 21 = some (c21, [.tmp 4], 14, false) := by kernel_rfl

/-- regesta/span.Meets -/
def c22 : XCode :=
  .seq (.reg [⟨(some 2), .box 26 2 (.t 0), none, 0, true, false⟩,
      ⟨(some 3), .box 26 2 (.t 1), none, 0, true, false⟩,
      ⟨(some 4), .mv (.c (.bool false)), none, 0, true, false⟩])
  (.seq (.reg [⟨(some 5), .loadn 2 (.t 2), none, 0, true, false⟩,
      ⟨(some 6), .call 16 [(.t 5)], none, 0, true, false⟩,
      ⟨(some 7), .mv (.t 6), none, 0, true, false⟩,
      ⟨(some 8), .loadn 2 (.t 3), (some (7, true)), 0, true, false⟩,
      ⟨(some 9), .call 16 [(.t 8)], (some (7, true)), 0, true, false⟩,
      ⟨(some 10), .pick (.t 7) (.t 9) (.c (.bool false)), none, 0, true, false⟩,
      ⟨(some 11), .mv (.t 10), none, 0, true, false⟩,
      ⟨(some 12), .fieldA 1 (.t 2), (some (11, true)), 0, true, false⟩,
      ⟨(some 13), .load1 (.t 12), (some (11, true)), 0, true, false⟩,
      ⟨(some 14), .fieldA 0 (.t 3), (some (11, true)), 0, true, false⟩,
      ⟨(some 15), .load1 (.t 14), (some (11, true)), 0, true, false⟩,
      ⟨(some 16), .bin .eql (.t 13) (.t 15), (some (11, true)), 0, true, false⟩,
      ⟨(some 17), .pick (.t 11) (.t 16) (.c (.bool false)), none, 0, true, false⟩,
      ⟨(some 4), .mv (.t 17), none, 0, true, false⟩])
  (.ret))
theorem k22 : codeOf Try.prog 22 = some (c22, [.tmp 4], 18, false) := by kernel_rfl

/-- regesta/regestaref01.Meets -/
def c23 : XCode :=
  .seq (.reg [⟨(some 2), .box 26 2 (.t 0), none, 0, true, false⟩,
      ⟨(some 3), .box 26 2 (.t 1), none, 0, true, false⟩,
      ⟨(some 4), .mv (.c (.bool false)), none, 0, true, false⟩])
  (.seq (.reg [⟨(some 5), .loadn 2 (.t 2), none, 0, true, false⟩,
      ⟨(some 6), .call 17 [(.t 5)], none, 0, true, false⟩,
      ⟨(some 7), .mv (.t 6), none, 0, true, false⟩,
      ⟨(some 8), .loadn 2 (.t 3), (some (7, true)), 0, true, false⟩,
      ⟨(some 9), .call 17 [(.t 8)], (some (7, true)), 0, true, false⟩,
      ⟨(some 10), .pick (.t 7) (.t 9) (.c (.bool false)), none, 0, true, false⟩,
      ⟨(some 11), .mv (.t 10), none, 0, true, false⟩,
      ⟨(some 12), .fieldA 1 (.t 2), (some (11, true)), 0, true, false⟩,
      ⟨(some 13), .load1 (.t 12), (some (11, true)), 0, true, false⟩,
      ⟨(some 14), .fieldA 0 (.t 3), (some (11, true)), 0, true, false⟩,
      ⟨(some 15), .load1 (.t 14), (some (11, true)), 0, true, false⟩,
      ⟨(some 16), .bin .eql (.t 13) (.t 15), (some (11, true)), 0, true, false⟩,
      ⟨(some 17), .pick (.t 11) (.t 16) (.c (.bool false)), none, 0, true, false⟩,
      ⟨(some 4), .mv (.t 17), none, 0, true, false⟩])
  (.ret))
theorem k23 : codeOf Try.prog 23 = some (c23, [.tmp 4], 18, false) := by kernel_rfl

/-- regesta/span.Minus -/
def c24 : XCode :=
  .seq (.reg [⟨(some 2), .box 26 2 (.t 0), none, 0, true, false⟩,
      ⟨(some 3), .box 26 2 (.t 1), none, 0, true, false⟩,
      ⟨(some 4), .nilrow 26 2, none, 0, true, false⟩])
  (.seq (.reg [⟨(some 9), .loadn 2 (.t 2), none, 0, true, false⟩,
      ⟨(some 10), .loadn 2 (.t 3), none, 0, true, false⟩,
      ⟨(some 11), .call 14 [(.t 9), (.t 10)], none, 0, true, false⟩,
      ⟨(some 8), .mv (.t 11), none, 0, true, false⟩,
      ⟨(some 12), .ext 0 (.t 8), none, 0, true, false⟩,
      ⟨(some 13), .ext 1 (.t 8), none, 0, true, false⟩,
      ⟨(some 5), .alloc 26 [(.int .i64 0), (.int .i64 0)], none, 0, true, false⟩,
      ⟨none, .store 2 (.t 5) (.t 12), none, 0, true, false⟩,
      ⟨(some 6), .mv (.t 13), none, 0, true, false⟩])
  (.block 0 (
    .seq (.reg [⟨(some 42), .loadn 2 (.t 2), none, 0, true, false⟩,
        ⟨(some 43), .call 16 [(.t 42)], none, 0, true, false⟩,
        ⟨(some 44), .not (.t 43), none, 0, true, false⟩,
        ⟨(some 41), .mv (.t 44), none, 0, true, false⟩])
    (.cond (.t 41)
      (.seq (.reg [⟨(some 4), .nilrow 26 2, none, 0, true, false⟩])
      (.ret))
      (.seq (.reg [⟨(some 46), .mv (.t 6), none, 0, true, false⟩,
          ⟨(some 47), .not (.t 46), none, 0, true, false⟩,
          ⟨(some 45), .mv (.t 47), none, 0, true, false⟩])
      (.cond (.t 45)
        (.seq (.reg [⟨(some 48), .loadn 2 (.t 2), none, 0, true, false⟩,
            ⟨(some 49), .mkrow 26 2 1 [(.int .i64 0), (.int .i64 0)] [(0, (.t 48))], none, 0, true, false⟩,
            ⟨(some 4), .mv (.t 49), none, 0, true, false⟩])
        (.ret))
        (.seq (.reg [⟨(some 51), .loadn 2 (.t 5), none, 0, true, false⟩,
            ⟨(some 52), .loadn 2 (.t 2), none, 0, true, false⟩,
            ⟨(some 53), .eqs false [(.int .i64 0), (.int .i64 0)] (.t 51) (.t 52), none, 0, true, false⟩,
            ⟨(some 50), .mv (.t 53), none, 0, true, false⟩])
        (.cond (.t 50)
          (.seq (.reg [⟨(some 4), .nilrow 26 2, none, 0, true, false⟩])
          (.ret))
          (.seq (.reg [⟨(some 7), .nilrow 26 2, none, 0, true, false⟩])
          (.seq (.seq (.reg [⟨(some 14), .fieldA 0 (.t 2), none, 0, true, false⟩,
                ⟨(some 15), .load1 (.t 14), none, 0, true, false⟩,
                ⟨(some 16), .fieldA 0 (.t 5), none, 0, true, false⟩,
                ⟨(some 17), .load1 (.t 16), none, 0, true, false⟩,
                ⟨(some 18), .bin .lss (.t 15) (.t 17), none, 0, true, false⟩])
            (.cond (.t 18)
              (.reg [⟨(some 19), .mv (.t 7), none, 0, true, false⟩,
                ⟨(some 20), .fieldA 0 (.t 2), none, 0, true, false⟩,
                ⟨(some 21), .load1 (.t 20), none, 0, true, false⟩,
                ⟨(some 22), .fieldA 0 (.t 5), none, 0, true, false⟩,
                ⟨(some 23), .load1 (.t 22), none, 0, true, false⟩,
                ⟨(some 24), .build [(.int .i64 0), (.int .i64 0)] [(0, 1, (.t 21)), (1, 1, (.t 23))], none, 0, true, false⟩,
                ⟨(some 25), .mkrow 26 2 1 [(.int .i64 0), (.int .i64 0)] [(0, (.t 24))], none, 0, true, false⟩,
                ⟨(some 26), .append 26 2 16 (.t 19) (.t 25), none, 0, true, false⟩,
                ⟨(some 7), .mv (.t 26), none, 0, true, false⟩])
              (.skip)))
          (.seq (.seq (.reg [⟨(some 27), .fieldA 1 (.t 5), none, 0, true, false⟩,
                ⟨(some 28), .load1 (.t 27), none, 0, true, false⟩,
                ⟨(some 29), .fieldA 1 (.t 2), none, 0, true, false⟩,
                ⟨(some 30), .load1 (.t 29), none, 0, true, false⟩,
                ⟨(some 31), .bin .lss (.t 28) (.t 30), none, 0, true, false⟩])
            (.cond (.t 31)
              (.reg [⟨(some 32), .mv (.t 7), none, 0, true, false⟩,
                ⟨(some 33), .fieldA 1 (.t 5), none, 0, true, false⟩,
                ⟨(some 34), .load1 (.t 33), none, 0, true, false⟩,
                ⟨(some 35), .fieldA 1 (.t 2), none, 0, true, false⟩,
                ⟨(some 36), .load1 (.t 35), none, 0, true, false⟩,
                ⟨(some 37), .build [(.int .i64 0), (.int .i64 0)] [(0, 1, (.t 34)), (1, 1, (.t 36))], none, 0, true, false⟩,
                ⟨(some 38), .mkrow 26 2 1 [(.int .i64 0), (.int .i64 0)] [(0, (.t 37))], none, 0, true, false⟩,
                ⟨(some 39), .append 26 2 16 (.t 32) (.t 38), none, 0, true, false⟩,
                ⟨(some 7), .mv (.t 39), none, 0, true, false⟩])
              (.skip)))
          (.seq (.reg [⟨(some 40), .mv (.t 7), none, 0, true, false⟩,
              ⟨(some 4), .mv (.t 40), none, 0, true, false⟩])
          (.ret)))))))))))))
theorem k24 : codeOf Try.prog 24 = some (c24, [.tmp 4], 54, false) := by kernel_rfl

/-- regesta/span.Gaps -/
def c25 : XCode :=
  .seq (.reg [⟨(some 3), .box 26 2 (.t 1), none, 0, true, false⟩,
      ⟨(some 4), .nilrow 26 2, none, 0, true, false⟩])
  (.seq (.seq (.reg [⟨(some 11), .loadn 2 (.t 3), none, 0, true, false⟩,
        ⟨(some 12), .call 16 [(.t 11)], none, 0, true, false⟩,
        ⟨(some 13), .not (.t 12), none, 0, true, false⟩])
    (.cond (.t 13)
      (.seq (.reg [⟨(some 4), .nilrow 26 2, none, 0, true, false⟩])
      (.ret))
      (.skip)))
  (.seq (.reg [⟨(some 5), .nilrow 26 2, none, 0, true, false⟩])
  (.seq (.reg [⟨(some 14), .fieldA 0 (.t 3), none, 0, true, false⟩,
      ⟨(some 15), .load1 (.t 14), none, 0, true, false⟩,
      ⟨(some 6), .mv (.t 15), none, 0, true, false⟩])
  (.seq (.seq (.reg [⟨(some 16), .mv (.t 0), none, 0, true, false⟩,
        ⟨(some 17), .call 11 [(.t 16)], none, 0, true, false⟩,
        ⟨(some 18), .lenS (.t 17), none, 0, true, false⟩,
        ⟨(some 19), .mv (.c (.int .i64 0)), none, 0, true, false⟩])
    (.block 0 (
      .loop (
        .seq (.reg [⟨(some 20), .bin .lss (.t 19) (.t 18), none, 0, true, false⟩])
        (.seq (.cond (.t 20)
            (.skip)
            (.exit 0))
        (.seq (.block 1 (
            .seq (.reg [⟨(some 21), .indexS 2 (.t 17) (.t 19), none, 0, true, false⟩,
                ⟨(some 22), .loadn 2 (.t 21), none, 0, true, false⟩,
                ⟨(some 8), .alloc 26 [(.int .i64 0), (.int .i64 0)], none, 0, true, false⟩,
                ⟨none, .store 2 (.t 8) (.t 22), none, 0, true, false⟩])
            (.seq (.reg [⟨(some 24), .loadn 2 (.t 8), none, 0, true, false⟩,
                ⟨(some 25), .loadn 2 (.t 3), none, 0, true, false⟩,
                ⟨(some 26), .call 14 [(.t 24), (.t 25)], none, 0, true, false⟩,
                ⟨(some 23), .mv (.t 26), none, 0, true, false⟩,
                ⟨(some 27), .ext 0 (.t 23), none, 0, true, false⟩,
                ⟨(some 28), .ext 1 (.t 23), none, 0, true, false⟩,
                ⟨(some 9), .alloc 26 [(.int .i64 0), (.int .i64 0)], none, 0, true, false⟩,
                ⟨none, .store 2 (.t 9) (.t 27), none, 0, true, false⟩,
                ⟨(some 10), .mv (.t 28), none, 0, true, false⟩])
            (.seq (.seq (.reg [⟨(some 29), .mv (.t 10), none, 0, true, false⟩,
                  ⟨(some 30), .not (.t 29), none, 0, true, false⟩])
              (.cond (.t 30)
                (.exit 1)
                (.skip)))
            (.seq (.seq (.reg [⟨(some 31), .mv (.t 6), none, 0, true, false⟩,
                  ⟨(some 32), .fieldA 0 (.t 9), none, 0, true, false⟩,
                  ⟨(some 33), .load1 (.t 32), none, 0, true, false⟩,
                  ⟨(some 34), .bin .lss (.t 31) (.t 33), none, 0, true, false⟩])
              (.cond (.t 34)
                (.reg [⟨(some 35), .mv (.t 5), none, 0, true, false⟩,
                  ⟨(some 36), .mv (.t 6), none, 0, true, false⟩,
                  ⟨(some 37), .fieldA 0 (.t 9), none, 0, true, false⟩,
                  ⟨(some 38), .load1 (.t 37), none, 0, true, false⟩,
                  ⟨(some 39), .build [(.int .i64 0), (.int .i64 0)] [(0, 1, (.t 36)), (1, 1, (.t 38))], none, 0, true, false⟩,
                  ⟨(some 40), .mkrow 26 2 1 [(.int .i64 0), (.int .i64 0)] [(0, (.t 39))], none, 0, true, false⟩,
                  ⟨(some 41), .append 26 2 16 (.t 35) (.t 40), none, 0, true, false⟩,
                  ⟨(some 5), .mv (.t 41), none, 0, true, false⟩])
                (.skip)))
            (.reg [⟨(some 42), .fieldA 1 (.t 9), none, 0, true, false⟩,
              ⟨(some 43), .load1 (.t 42), none, 0, true, false⟩,
              ⟨(some 6), .mv (.t 43), none, 0, true, false⟩]))))))
        (.reg [⟨(some 44), .bin .add (.t 19) (.c (.int .i64 1)), none, 0, true, false⟩,
          ⟨(some 19), .mv (.t 44), none, 0, true, false⟩])))))))
  (.seq (.seq (.reg [⟨(some 45), .mv (.t 6), none, 0, true, false⟩,
        ⟨(some 46), .fieldA 1 (.t 3), none, 0, true, false⟩,
        ⟨(some 47), .load1 (.t 46), none, 0, true, false⟩,
        ⟨(some 48), .bin .lss (.t 45) (.t 47), none, 0, true, false⟩])
    (.cond (.t 48)
      (.reg [⟨(some 49), .mv (.t 5), none, 0, true, false⟩,
        ⟨(some 50), .mv (.t 6), none, 0, true, false⟩,
        ⟨(some 51), .fieldA 1 (.t 3), none, 0, true, false⟩,
        ⟨(some 52), .load1 (.t 51), none, 0, true, false⟩,
        ⟨(some 53), .build [(.int .i64 0), (.int .i64 0)] [(0, 1, (.t 50)), (1, 1, (.t 52))], none, 0, true, false⟩,
        ⟨(some 54), .mkrow 26 2 1 [(.int .i64 0), (.int .i64 0)] [(0, (.t 53))], none, 0, true, false⟩,
        ⟨(some 55), .append 26 2 16 (.t 49) (.t 54), none, 0, true, false⟩,
        ⟨(some 5), .mv (.t 55), none, 0, true, false⟩])
      (.skip)))
  (.seq (.reg [⟨(some 56), .mv (.t 5), none, 0, true, false⟩,
      ⟨(some 4), .mv (.t 56), none, 0, true, false⟩])
  (.ret)))))))
theorem k25 : codeOf Try.prog 25 = some (c25, [.tmp 4], 57, false) := by kernel_rfl

/-- regesta/span.Covers -/
def c26 : XCode :=
  .seq (.reg [⟨(some 3), .box 26 2 (.t 1), none, 0, true, false⟩,
      ⟨(some 4), .mv (.c (.bool false)), none, 0, true, false⟩])
  (.seq (.reg [⟨(some 5), .loadn 2 (.t 3), none, 0, true, false⟩,
      ⟨(some 6), .call 16 [(.t 5)], none, 0, true, false⟩,
      ⟨(some 7), .mv (.t 6), none, 0, true, false⟩,
      ⟨(some 8), .mv (.t 0), (some (7, true)), 0, true, false⟩,
      ⟨(some 9), .loadn 2 (.t 3), (some (7, true)), 0, true, false⟩,
      ⟨(some 10), .call 25 [(.t 8), (.t 9)], (some (7, true)), 0, true, false⟩,
      ⟨(some 11), .lenS (.t 10), (some (7, true)), 0, true, false⟩,
      ⟨(some 12), .bin .eql (.t 11) (.c (.int .i64 0)), (some (7, true)), 0, true, false⟩,
      ⟨(some 13), .pick (.t 7) (.t 12) (.c (.bool false)), none, 0, true, false⟩,
      ⟨(some 4), .mv (.t 13), none, 0, true, false⟩])
  (.ret))
theorem k26 : codeOf Try.prog 26 = some (c26, [.tmp 4], 14, false) := by kernel_rfl

/-- regesta/span.Count -/
def c27 : XCode :=
  .seq (.reg [⟨(some 2), .mv (.c (.int .i64 0)), none, 0, true, false⟩])
  (.seq (.reg [⟨(some 3), .mv (.c (.int .i64 0)), none, 0, true, false⟩])
  (.seq (.seq (.reg [⟨(some 6), .mv (.t 0), none, 0, true, false⟩,
        ⟨(some 7), .call 11 [(.t 6)], none, 0, true, false⟩,
        ⟨(some 8), .lenS (.t 7), none, 0, true, false⟩,
        ⟨(some 9), .mv (.c (.int .i64 0)), none, 0, true, false⟩])
    (.block 0 (
      .loop (
        .seq (.reg [⟨(some 10), .bin .lss (.t 9) (.t 8), none, 0, true, false⟩])
        (.seq (.cond (.t 10)
            (.skip)
            (.exit 0))
        (.seq (.block 1 (
            .seq (.reg [⟨(some 11), .indexS 2 (.t 7) (.t 9), none, 0, true, false⟩,
                ⟨(some 12), .loadn 2 (.t 11), none, 0, true, false⟩,
                ⟨(some 5), .alloc 26 [(.int .i64 0), (.int .i64 0)], none, 0, true, false⟩,
                ⟨none, .store 2 (.t 5) (.t 12), none, 0, true, false⟩])
            (.reg [⟨(some 13), .mv (.t 3), none, 0, true, false⟩,
              ⟨(some 14), .fieldA 1 (.t 5), none, 0, true, false⟩,
              ⟨(some 15), .load1 (.t 14), none, 0, true, false⟩,
              ⟨(some 16), .fieldA 0 (.t 5), none, 0, true, false⟩,
              ⟨(some 17), .load1 (.t 16), none, 0, true, false⟩,
              ⟨(some 18), .bin .sub (.t 15) (.t 17), none, 0, true, false⟩,
              ⟨(some 19), .bin .add (.t 13) (.t 18), none, 0, true, false⟩,
              ⟨(some 3), .mv (.t 19), none, 0, true, false⟩])))
        (.reg [⟨(some 20), .bin .add (.t 9) (.c (.int .i64 1)), none, 0, true, false⟩,
          ⟨(some 9), .mv (.t 20), none, 0, true, false⟩])))))))
  (.seq (.reg [⟨(some 21), .mv (.t 3), none, 0, true, false⟩,
      ⟨(some 2), .mv (.t 21), none, 0, true, false⟩])
  (.ret))))
theorem k27 : codeOf Try.prog 27 = some (c27, [.tmp 2], 22, false) := by kernel_rfl

/-- regesta/regestaref01.Minus -/
def c28 : XCode :=
  .seq (.reg [⟨(some 2), .box 26 2 (.t 0), none, 0, true, false⟩,
      ⟨(some 3), .box 26 2 (.t 1), none, 0, true, false⟩,
      ⟨(some 4), .nilrow 26 2, none, 0, true, false⟩])
  (.seq (.reg [⟨(some 5), .loadn 2 (.t 3), none, 0, true, false⟩,
      ⟨(some 6), .mkrow 26 2 1 [(.int .i64 0), (.int .i64 0)] [(0, (.t 5))], none, 0, true, false⟩,
      ⟨(some 7), .loadn 2 (.t 2), none, 0, true, false⟩,
      ⟨(some 8), .call 30 [(.t 6), (.t 7)], none, 0, true, false⟩,
      ⟨(some 4), .mv (.t 8), none, 0, true, false⟩])
  (.ret))
theorem k28 : codeOf Try.prog 28 = some (c28, [.tmp 4], 9, false) := by kernel_rfl

/-- regesta/regestaref01.Join -/
def c29 : XCode :=
  .seq (.reg [⟨(some 2), .nilrow 26 2, none, 0, true, false⟩])
  (.seq (.reg [⟨(some 3), .mv (.t 0), none, 0, true, false⟩,
      ⟨(some 4), .call 39 [(.t 3)], none, 0, true, false⟩,
      ⟨(some 5), .call 38 [(.t 4)], none, 0, true, false⟩,
      ⟨(some 2), .mv (.t 5), none, 0, true, false⟩])
  (.ret))
theorem k29 : codeOf Try.prog 29 = some (c29, [.tmp 2], 6, false) := by kernel_rfl

/-- regesta/regestaref01.Gaps -/
def c30 : XCode :=
  .seq (.reg [⟨(some 3), .box 26 2 (.t 1), none, 0, true, false⟩,
      ⟨(some 4), .nilrow 26 2, none, 0, true, false⟩])
  (.seq (.reg [⟨(some 8), .mv (.t 0), none, 0, true, false⟩,
      ⟨(some 9), .call 39 [(.t 8)], none, 0, true, false⟩,
      ⟨(some 5), .mv (.t 9), none, 0, true, false⟩])
  (.seq (.reg [⟨(some 10), .loadn 2 (.t 3), none, 0, true, false⟩,
      ⟨(some 11), .mkrow 26 2 1 [(.int .i64 0), (.int .i64 0)] [(0, (.t 10))], none, 0, true, false⟩,
      ⟨(some 12), .call 39 [(.t 11)], none, 0, true, false⟩,
      ⟨(some 6), .mv (.t 12), none, 0, true, false⟩])
  (.seq (.seq (.reg [⟨(some 7), .mv (.c (.int .i64 0)), none, 0, true, false⟩])
    (.block 0 (
      .loop (
        .seq (.seq (.reg [⟨(some 13), .mv (.t 7), none, 0, true, false⟩,
              ⟨(some 14), .mv (.t 6), none, 0, true, false⟩,
              ⟨(some 15), .lenS (.t 14), none, 0, true, false⟩,
              ⟨(some 16), .bin .lss (.t 13) (.t 15), none, 0, true, false⟩])
          (.cond (.t 16)
            (.skip)
            (.exit 0)))
        (.seq (.block 1 (
            .reg [⟨(some 19), .mv (.t 6), none, 0, true, false⟩,
              ⟨(some 20), .mv (.t 7), none, 0, true, false⟩,
              ⟨(some 21), .mv (.t 6), none, 0, true, false⟩,
              ⟨(some 22), .mv (.t 7), none, 0, true, false⟩,
              ⟨(some 23), .indexS 1 (.t 21) (.t 22), none, 0, true, false⟩,
              ⟨(some 24), .load1 (.t 23), none, 0, true, false⟩,
              ⟨(some 25), .mv (.t 24), none, 0, true, false⟩,
              ⟨(some 26), .mv (.t 5), (some (25, true)), 0, true, false⟩,
              ⟨(some 27), .mv (.t 7), (some (25, true)), 0, true, false⟩,
              ⟨(some 28), .indexS 1 (.t 26) (.t 27), (some (25, true)), 0, true, false⟩,
              ⟨(some 29), .load1 (.t 28), (some (25, true)), 0, true, false⟩,
              ⟨(some 30), .not (.t 29), (some (25, true)), 0, true, false⟩,
              ⟨(some 31), .pick (.t 25) (.t 30) (.c (.bool false)), none, 0, true, false⟩,
              ⟨(some 32), .indexS 1 (.t 19) (.t 20), none, 0, true, false⟩,
              ⟨none, .store 1 (.t 32) (.t 31), none, 0, true, false⟩]))
        (.reg [⟨(some 17), .mv (.t 7), none, 0, true, false⟩,
          ⟨(some 18), .bin .add (.t 17) (.c (.int .i64 1)), none, 0, true, false⟩,
          ⟨(some 7), .mv (.t 18), none, 0, true, false⟩]))))))
  (.seq (.reg [⟨(some 33), .mv (.t 6), none, 0, true, false⟩,
      ⟨(some 34), .call 38 [(.t 33)], none, 0, true, false⟩,
      ⟨(some 4), .mv (.t 34), none, 0, true, false⟩])
  (.ret)))))
theorem k30 : codeOf Try.prog 30 = some (c30, [.tmp 4], 35, false) := by kernel_rfl

/-- regesta/regestaref01.Covers -/
def c31 : XCode :=
  .seq (.reg [⟨(some 3), .box 26 2 (.t 1), none, 0, true, false⟩,
      ⟨(some 4), .mv (.c (.bool false)), none, 0, true, false⟩])
  (.seq (.reg [⟨(some 5), .loadn 2 (.t 3), none, 0, true, false⟩,
      ⟨(some 6), .call 17 [(.t 5)], none, 0, true, false⟩,
      ⟨(some 7), .mv (.t 6), none, 0, true, false⟩,
      ⟨(some 8), .mv (.t 0), (some (7, true)), 0, true, false⟩,
      ⟨(some 9), .loadn 2 (.t 3), (some (7, true)), 0, true, false⟩,
      ⟨(some 10), .call 30 [(.t 8), (.t 9)], (some (7, true)), 0, true, false⟩,
      ⟨(some 11), .lenS (.t 10), (some (7, true)), 0, true, false⟩,
      ⟨(some 12), .bin .eql (.t 11) (.c (.int .i64 0)), (some (7, true)), 0, true, false⟩,
      ⟨(some 13), .pick (.t 7) (.t 12) (.c (.bool false)), none, 0, true, false⟩,
      ⟨(some 4), .mv (.t 13), none, 0, true, false⟩])
  (.ret))
theorem k31 : codeOf Try.prog 31 = some (c31, [.tmp 4], 14, false) := by kernel_rfl

/-- regesta/regestaref01.Count -/
def c32 : XCode :=
  .seq (.reg [⟨(some 2), .mv (.c (.int .i64 0)), none, 0, true, false⟩])
  (.seq (.reg [⟨(some 3), .mv (.c (.int .i64 0)), none, 0, true, false⟩])
  (.seq (.reg [⟨(some 6), .mv (.t 0), none, 0, true, false⟩,
      ⟨(some 7), .call 39 [(.t 6)], none, 0, true, false⟩,
      ⟨(some 4), .mv (.t 7), none, 0, true, false⟩])
  (.seq (.seq (.reg [⟨(some 5), .mv (.c (.int .i64 0)), none, 0, true, false⟩])
    (.block 0 (
      .loop (
        .seq (.seq (.reg [⟨(some 8), .mv (.t 5), none, 0, true, false⟩,
              ⟨(some 9), .mv (.t 4), none, 0, true, false⟩,
              ⟨(some 10), .lenS (.t 9), none, 0, true, false⟩,
              ⟨(some 11), .bin .lss (.t 8) (.t 10), none, 0, true, false⟩])
          (.cond (.t 11)
            (.skip)
            (.exit 0)))
        (.seq (.block 1 (
            .seq (.reg [⟨(some 14), .mv (.t 4), none, 0, true, false⟩,
                ⟨(some 15), .mv (.t 5), none, 0, true, false⟩,
                ⟨(some 16), .indexS 1 (.t 14) (.t 15), none, 0, true, false⟩,
                ⟨(some 17), .load1 (.t 16), none, 0, true, false⟩])
            (.cond (.t 17)
              (.reg [⟨(some 18), .mv (.t 3), none, 0, true, false⟩,
                ⟨(some 19), .bin .add (.t 18) (.c (.int .i64 1)), none, 0, true, false⟩,
                ⟨(some 3), .mv (.t 19), none, 0, true, false⟩])
              (.skip))))
        (.reg [⟨(some 12), .mv (.t 5), none, 0, true, false⟩,
          ⟨(some 13), .bin .add (.t 12) (.c (.int .i64 1)), none, 0, true, false⟩,
          ⟨(some 5), .mv (.t 13), none, 0, true, false⟩]))))))
  (.seq (.reg [⟨(some 20), .mv (.t 3), none, 0, true, false⟩,
      ⟨(some 2), .mv (.t 20), none, 0, true, false⟩])
  (.ret)))))
theorem k32 : codeOf Try.prog 32 = some (c32, [.tmp 2], 21, false) := by kernel_rfl

/-- regesta/span.Apart -/
def c33 : XCode :=
  .seq (.reg [⟨(some 2), .mv (.c (.bool false)), none, 0, true, false⟩])
  (.seq (.reg [⟨(some 5), .mv (.t 0), none, 0, true, false⟩,
      ⟨(some 6), .call 37 [(.t 5)], none, 0, true, false⟩,
      ⟨(some 3), .mv (.t 6), none, 0, true, false⟩])
  (.seq (.seq (.reg [⟨(some 4), .mv (.c (.int .i64 1)), none, 0, true, false⟩])
    (.block 0 (
      .loop (
        .seq (.seq (.reg [⟨(some 7), .mv (.t 4), none, 0, true, false⟩,
              ⟨(some 8), .mv (.t 3), none, 0, true, false⟩,
              ⟨(some 9), .lenS (.t 8), none, 0, true, false⟩,
              ⟨(some 10), .bin .lss (.t 7) (.t 9), none, 0, true, false⟩])
          (.cond (.t 10)
            (.skip)
            (.exit 0)))
        (.seq (.block 1 (
            .seq (.regD [⟨(some 13), .mv (.t 3), none, 0, false, false⟩,
                ⟨(some 14), .mv (.t 4), none, 0, false, false⟩,
                ⟨(some 15), .indexS 2 (.t 13) (.t 14), none, 3, false, false⟩,
                ⟨(some 16), .fieldA 0 (.t 15), none, 7, false, false⟩,
                ⟨(some 17), .load1 (.t 16), none, 15, false, false⟩,
                ⟨(some 18), .mv (.t 3), none, 0, false, false⟩,
                ⟨(some 19), .mv (.t 4), none, 0, false, false⟩,
                ⟨(some 20), .bin .sub (.t 19) (.c (.int .i64 1)), none, 64, false, false⟩,
                ⟨(some 21), .indexS 2 (.t 18) (.t 20), none, 224, false, false⟩,
                ⟨(some 22), .fieldA 1 (.t 21), none, 480, false, false⟩,
                ⟨(some 23), .load1 (.t 22), none, 992, false, false⟩,
                ⟨(some 24), .bin .lss (.t 17) (.t 23), none, 2047, false, false⟩])
            (.cond (.t 24)
              (.seq (.reg [⟨(some 2), .mv (.c (.bool false)), none, 0, true, false⟩])
              (.ret))
              (.skip))))
        (.reg [⟨(some 11), .mv (.t 4), none, 0, true, false⟩,
          ⟨(some 12), .bin .add (.t 11) (.c (.int .i64 1)), none, 0, true, false⟩,
          ⟨(some 4), .mv (.t 12), none, 0, true, false⟩]))))))
  (.seq (.reg [⟨(some 2), .mv (.c (.bool true)), none, 0, true, false⟩])
  (.ret))))
theorem k33 : codeOf Try.prog 33 = some (c33, [.tmp 2], 25, false) := by kernel_rfl

/-- regesta/regestaref01.Apart -/
def c34 : XCode :=
  .seq (.reg [⟨(some 2), .mv (.c (.bool false)), none, 0, true, false⟩])
  (.seq (.seq (.reg [⟨(some 3), .mv (.c (.int .i64 0)), none, 0, true, false⟩])
    (.block 0 (
      .loop (
        .seq (.seq (.reg [⟨(some 5), .mv (.t 3), none, 0, true, false⟩,
              ⟨(some 6), .mv (.t 0), none, 0, true, false⟩,
              ⟨(some 7), .lenS (.t 6), none, 0, true, false⟩,
              ⟨(some 8), .bin .lss (.t 5) (.t 7), none, 0, true, false⟩])
          (.cond (.t 8)
            (.skip)
            (.exit 0)))
        (.seq (.block 1 (
            .seq (.reg [⟨(some 4), .mv (.c (.int .i64 0)), none, 0, true, false⟩])
            (.block 2 (
              .loop (
                .seq (.seq (.reg [⟨(some 11), .mv (.t 4), none, 0, true, false⟩,
                      ⟨(some 12), .mv (.t 3), none, 0, true, false⟩,
                      ⟨(some 13), .bin .lss (.t 11) (.t 12), none, 0, true, false⟩])
                  (.cond (.t 13)
                    (.skip)
                    (.exit 2)))
                (.seq (.block 3 (
                    .seq (.regD [⟨(some 16), .mv (.t 0), none, 0, false, false⟩,
                        ⟨(some 17), .mv (.t 3), none, 0, false, false⟩,
                        ⟨(some 18), .indexS 2 (.t 16) (.t 17), none, 3, false, false⟩,
                        ⟨(some 19), .loadn 2 (.t 18), none, 7, false, false⟩,
                        ⟨(some 20), .mv (.t 0), none, 0, false, false⟩,
                        ⟨(some 21), .mv (.t 4), none, 0, false, false⟩,
                        ⟨(some 22), .indexS 2 (.t 20) (.t 21), none, 48, false, false⟩,
                        ⟨(some 23), .loadn 2 (.t 22), none, 112, false, false⟩,
                        ⟨(some 24), .call 21 [(.t 19), (.t 23)], none, 255, true, false⟩])
                    (.cond (.t 24)
                      (.seq (.reg [⟨(some 2), .mv (.c (.bool false)), none, 0, true, false⟩])
                      (.ret))
                      (.skip))))
                (.reg [⟨(some 14), .mv (.t 4), none, 0, true, false⟩,
                  ⟨(some 15), .bin .add (.t 14) (.c (.int .i64 1)), none, 0, true, false⟩,
                  ⟨(some 4), .mv (.t 15), none, 0, true, false⟩])))))))
        (.reg [⟨(some 9), .mv (.t 3), none, 0, true, false⟩,
          ⟨(some 10), .bin .add (.t 9) (.c (.int .i64 1)), none, 0, true, false⟩,
          ⟨(some 3), .mv (.t 10), none, 0, true, false⟩]))))))
  (.seq (.reg [⟨(some 2), .mv (.c (.bool true)), none, 0, true, false⟩])
  (.ret)))
theorem k34 : codeOf Try.prog 34 = some (c34, [.tmp 2], 25, false) := by kernel_rfl

/-- regesta/span.Cut -/
def c35 : XCode :=
  .seq (.reg [⟨(some 2), .box 26 2 (.t 0), none, 0, true, false⟩,
      ⟨(some 4), .nilrow 26 2, none, 0, true, false⟩])
  (.seq (.seq (.reg [⟨(some 11), .loadn 2 (.t 2), none, 0, true, false⟩,
        ⟨(some 12), .call 16 [(.t 11)], none, 0, true, false⟩,
        ⟨(some 13), .not (.t 12), none, 0, true, false⟩])
    (.cond (.t 13)
      (.seq (.reg [⟨(some 4), .nilrow 26 2, none, 0, true, false⟩])
      (.ret))
      (.skip)))
  (.seq (.reg [⟨(some 14), .fieldA 1 (.t 2), none, 0, true, false⟩,
      ⟨(some 15), .load1 (.t 14), none, 0, true, false⟩,
      ⟨(some 16), .mkrow 3 1 1 [(.int .i64 0)] [(0, (.t 15))], none, 0, true, false⟩,
      ⟨(some 5), .mv (.t 16), none, 0, true, false⟩])
  (.seq (.seq (.reg [⟨(some 17), .mv (.t 1), none, 0, true, false⟩,
        ⟨(some 18), .lenS (.t 17), none, 0, true, false⟩,
        ⟨(some 19), .mv (.c (.int .i64 0)), none, 0, true, false⟩])
    (.block 0 (
      .loop (
        .seq (.reg [⟨(some 20), .bin .lss (.t 19) (.t 18), none, 0, true, false⟩])
        (.seq (.cond (.t 20)
            (.skip)
            (.exit 0))
        (.seq (.block 1 (
            .seq (.reg [⟨(some 21), .indexS 1 (.t 17) (.t 19), none, 0, true, false⟩,
                ⟨(some 22), .load1 (.t 21), none, 0, true, false⟩,
                ⟨(some 7), .mv (.t 22), none, 0, true, false⟩])
            (.seq (.reg [⟨(some 23), .fieldA 0 (.t 2), none, 0, true, false⟩,
                ⟨(some 24), .load1 (.t 23), none, 0, true, false⟩,
                ⟨(some 25), .mv (.t 7), none, 0, true, false⟩,
                ⟨(some 26), .bin .lss (.t 24) (.t 25), none, 0, true, false⟩,
                ⟨(some 27), .mv (.t 26), none, 0, true, false⟩,
                ⟨(some 28), .mv (.t 7), (some (27, true)), 0, true, false⟩,
                ⟨(some 29), .fieldA 1 (.t 2), (some (27, true)), 0, true, false⟩,
                ⟨(some 30), .load1 (.t 29), (some (27, true)), 0, true, false⟩,
                ⟨(some 31), .bin .lss (.t 28) (.t 30), (some (27, true)), 0, true, false⟩,
                ⟨(some 32), .pick (.t 27) (.t 31) (.c (.bool false)), none, 0, true, false⟩])
            (.cond (.t 32)
              (.reg [⟨(some 33), .mv (.t 5), none, 0, true, false⟩,
                ⟨(some 34), .mv (.t 7), none, 0, true, false⟩,
                ⟨(some 35), .mkrow 3 1 1 [(.int .i64 0)] [(0, (.t 34))], none, 0, true, false⟩,
                ⟨(some 36), .append 3 1 8 (.t 33) (.t 35), none, 0, true, false⟩,
                ⟨(some 5), .mv (.t 36), none, 0, true, false⟩])
              (.skip)))))
        (.reg [⟨(some 37), .bin .add (.t 19) (.c (.int .i64 1)), none, 0, true, false⟩,
          ⟨(some 19), .mv (.t 37), none, 0, true, false⟩])))))))
  (.seq (.reg [⟨(some 38), .mv (.t 5), none, 0, true, false⟩,
      ⟨(some 39), .call 40 [(.t 38)], none, 0, true, false⟩])
  (.seq (.reg [⟨(some 40), .mv (.t 5), none, 0, true, false⟩,
      ⟨(some 41), .call 41 [(.t 40)], none, 0, true, false⟩,
      ⟨(some 5), .mv (.t 41), none, 0, true, false⟩])
  (.seq (.reg [⟨(some 42), .mv (.t 5), none, 0, true, false⟩,
      ⟨(some 43), .lenS (.t 42), none, 0, true, false⟩,
      ⟨(some 44), .mkslice 26 2 16 [(.int .i64 0), (.int .i64 0)] (.t 43) (.t 43), none, 0, true, false⟩,
      ⟨(some 8), .mv (.t 44), none, 0, true, false⟩])
  (.seq (.reg [⟨(some 45), .fieldA 0 (.t 2), none, 0, true, false⟩,
      ⟨(some 46), .load1 (.t 45), none, 0, true, false⟩,
      ⟨(some 9), .mv (.t 46), none, 0, true, false⟩])
  (.seq (.seq (.reg [⟨(some 47), .mv (.t 5), none, 0, true, false⟩,
        ⟨(some 48), .lenS (.t 47), none, 0, true, false⟩,
        ⟨(some 49), .mv (.c (.int .i64 0)), none, 0, true, false⟩])
    (.block 2 (
      .loop (
        .seq (.reg [⟨(some 50), .bin .lss (.t 49) (.t 48), none, 0, true, false⟩])
        (.seq (.cond (.t 50)
            (.skip)
            (.exit 2))
        (.seq (.block 3 (
            .seq (.reg [⟨(some 51), .mv (.t 49), none, 0, true, false⟩,
                ⟨(some 10), .mv (.t 51), none, 0, true, false⟩])
            (.seq (.reg [⟨(some 52), .mv (.t 8), none, 0, true, false⟩,
                ⟨(some 53), .mv (.t 10), none, 0, true, false⟩,
                ⟨(some 54), .mv (.t 9), none, 0, true, false⟩,
                ⟨(some 55), .mv (.t 5), none, 0, true, false⟩,
                ⟨(some 56), .mv (.t 10), none, 0, true, false⟩,
                ⟨(some 57), .indexS 1 (.t 55) (.t 56), none, 0, true, false⟩,
                ⟨(some 58), .load1 (.t 57), none, 0, true, false⟩,
                ⟨(some 59), .build [(.int .i64 0), (.int .i64 0)] [(0, 1, (.t 54)), (1, 1, (.t 58))], none, 0, true, false⟩,
                ⟨(some 60), .indexS 2 (.t 52) (.t 53), none, 0, true, false⟩,
                ⟨none, .store 2 (.t 60) (.t 59), none, 0, true, false⟩])
            (.reg [⟨(some 61), .mv (.t 5), none, 0, true, false⟩,
              ⟨(some 62), .mv (.t 10), none, 0, true, false⟩,
              ⟨(some 63), .indexS 1 (.t 61) (.t 62), none, 0, true, false⟩,
              ⟨(some 64), .load1 (.t 63), none, 0, true, false⟩,
              ⟨(some 9), .mv (.t 64), none, 0, true, false⟩]))))
        (.reg [⟨(some 65), .bin .add (.t 49) (.c (.int .i64 1)), none, 0, true, false⟩,
          ⟨(some 49), .mv (.t 65), none, 0, true, false⟩])))))))
  (.seq (.reg [⟨(some 66), .mv (.t 8), none, 0, true, false⟩,
      ⟨(some 4), .mv (.t 66), none, 0, true, false⟩])
  (.ret))))))))))
theorem k35 : codeOf Try.prog 35 = some (c35, [.tmp 4], 67, false) := by kernel_rfl

/-- regesta/regestaref01.Cut -/
def c36 : XCode :=
  .seq (.reg [⟨(some 2), .box 26 2 (.t 0), none, 0, true, false⟩,
      ⟨(some 4), .nilrow 26 2, none, 0, true, false⟩])
  (.seq (.reg [⟨(some 5), .nilrow 26 2, none, 0, true, false⟩])
  (.seq (.seq (.reg [⟨(some 10), .loadn 2 (.t 2), none, 0, true, false⟩,
        ⟨(some 11), .call 17 [(.t 10)], none, 0, true, false⟩,
        ⟨(some 12), .not (.t 11), none, 0, true, false⟩])
    (.cond (.t 12)
      (.seq (.reg [⟨(some 4), .nilrow 26 2, none, 0, true, false⟩])
      (.ret))
      (.skip)))
  (.seq (.reg [⟨(some 13), .fieldA 0 (.t 2), none, 0, true, false⟩,
      ⟨(some 14), .load1 (.t 13), none, 0, true, false⟩,
      ⟨(some 6), .mv (.t 14), none, 0, true, false⟩])
  (.seq (.seq (.reg [⟨(some 15), .fieldA 0 (.t 2), none, 0, true, false⟩,
        ⟨(some 16), .load1 (.t 15), none, 0, true, false⟩,
        ⟨(some 17), .bin .add (.t 16) (.c (.int .i64 1)), none, 0, true, false⟩,
        ⟨(some 7), .mv (.t 17), none, 0, true, false⟩])
    (.block 0 (
      .loop (
        .seq (.seq (.reg [⟨(some 18), .mv (.t 7), none, 0, true, false⟩,
              ⟨(some 19), .fieldA 1 (.t 2), none, 0, true, false⟩,
              ⟨(some 20), .load1 (.t 19), none, 0, true, false⟩,
              ⟨(some 21), .bin .leq (.t 18) (.t 20), none, 0, true, false⟩])
          (.cond (.t 21)
            (.skip)
            (.exit 0)))
        (.seq (.block 1 (
            .seq (.reg [⟨(some 24), .mv (.t 7), none, 0, true, false⟩,
                ⟨(some 25), .fieldA 1 (.t 2), none, 0, true, false⟩,
                ⟨(some 26), .load1 (.t 25), none, 0, true, false⟩,
                ⟨(some 27), .bin .eql (.t 24) (.t 26), none, 0, true, false⟩,
                ⟨(some 8), .mv (.t 27), none, 0, true, false⟩])
            (.seq (.seq (.reg [⟨(some 9), .mv (.c (.int .i64 0)), none, 0, true, false⟩])
              (.block 2 (
                .loop (
                  .seq (.seq (.reg [⟨(some 28), .mv (.t 9), none, 0, true, false⟩,
                        ⟨(some 29), .mv (.t 1), none, 0, true, false⟩,
                        ⟨(some 30), .lenS (.t 29), none, 0, true, false⟩,
                        ⟨(some 31), .bin .lss (.t 28) (.t 30), none, 0, true, false⟩])
                    (.cond (.t 31)
                      (.skip)
                      (.exit 2)))
                  (.seq (.block 3 (
                      .reg [⟨(some 34), .mv (.t 8), none, 0, true, false⟩,
                        ⟨(some 35), .mv (.t 34), none, 0, true, false⟩,
                        ⟨(some 36), .mv (.t 1), (some (35, false)), 0, true, false⟩,
                        ⟨(some 37), .mv (.t 9), (some (35, false)), 0, true, false⟩,
                        ⟨(some 38), .indexS 1 (.t 36) (.t 37), (some (35, false)), 0, true, false⟩,
                        ⟨(some 39), .load1 (.t 38), (some (35, false)), 0, true, false⟩,
                        ⟨(some 40), .mv (.t 7), (some (35, false)), 0, true, false⟩,
                        ⟨(some 41), .bin .eql (.t 39) (.t 40), (some (35, false)), 0, true, false⟩,
                        ⟨(some 42), .pick (.t 35) (.c (.bool true)) (.t 41), none, 0, true, false⟩,
                        ⟨(some 8), .mv (.t 42), none, 0, true, false⟩]))
                  (.reg [⟨(some 32), .mv (.t 9), none, 0, true, false⟩,
                    ⟨(some 33), .bin .add (.t 32) (.c (.int .i64 1)), none, 0, true, false⟩,
                    ⟨(some 9), .mv (.t 33), none, 0, true, false⟩]))))))
            (.seq (.reg [⟨(some 43), .mv (.t 8), none, 0, true, false⟩])
            (.cond (.t 43)
              (.seq (.reg [⟨(some 44), .mv (.t 5), none, 0, true, false⟩,
                  ⟨(some 45), .mv (.t 6), none, 0, true, false⟩,
                  ⟨(some 46), .mv (.t 7), none, 0, true, false⟩,
                  ⟨(some 47), .build [(.int .i64 0), (.int .i64 0)] [(0, 1, (.t 45)), (1, 1, (.t 46))], none, 0, true, false⟩,
                  ⟨(some 48), .mkrow 26 2 1 [(.int .i64 0), (.int .i64 0)] [(0, (.t 47))], none, 0, true, false⟩,
                  ⟨(some 49), .append 26 2 16 (.t 44) (.t 48), none, 0, true, false⟩,
                  ⟨(some 5), .mv (.t 49), none, 0, true, false⟩])
              (.reg [⟨(some 50), .mv (.t 7), none, 0, true, false⟩,
                ⟨(some 6), .mv (.t 50), none, 0, true, false⟩]))
              (.skip))))))
        (.reg [⟨(some 22), .mv (.t 7), none, 0, true, false⟩,
          ⟨(some 23), .bin .add (.t 22) (.c (.int .i64 1)), none, 0, true, false⟩,
          ⟨(some 7), .mv (.t 23), none, 0, true, false⟩]))))))
  (.seq (.reg [⟨(some 51), .mv (.t 5), none, 0, true, false⟩,
      ⟨(some 4), .mv (.t 51), none, 0, true, false⟩])
  (.ret))))))
theorem k36 : codeOf Try.prog 36 = some (c36, [.tmp 4], 52, false) := by kernel_rfl

/-- regesta/span.sorted -/
def c37 : XCode :=
  .seq (.reg [⟨(some 2), .nilrow 26 2, none, 0, true, false⟩])
  (.seq (.reg [⟨(some 3), .nilrow 26 2, none, 0, true, false⟩])
  (.seq (.seq (.reg [⟨(some 6), .mv (.t 0), none, 0, true, false⟩,
        ⟨(some 7), .lenS (.t 6), none, 0, true, false⟩,
        ⟨(some 8), .mv (.c (.int .i64 0)), none, 0, true, false⟩])
    (.block 0 (
      .loop (
        .seq (.reg [⟨(some 9), .bin .lss (.t 8) (.t 7), none, 0, true, false⟩])
        (.seq (.cond (.t 9)
            (.skip)
            (.exit 0))
        (.seq (.block 1 (
            .seq (.reg [⟨(some 10), .indexS 2 (.t 6) (.t 8), none, 0, true, false⟩,
                ⟨(some 11), .loadn 2 (.t 10), none, 0, true, false⟩,
                ⟨(some 5), .alloc 26 [(.int .i64 0), (.int .i64 0)], none, 0, true, false⟩,
                ⟨none, .store 2 (.t 5) (.t 11), none, 0, true, false⟩])
            (.seq (.reg [⟨(some 12), .loadn 2 (.t 5), none, 0, true, false⟩,
                ⟨(some 13), .call 16 [(.t 12)], none, 0, true, false⟩])
            (.cond (.t 13)
              (.reg [⟨(some 14), .mv (.t 3), none, 0, true, false⟩,
                ⟨(some 15), .loadn 2 (.t 5), none, 0, true, false⟩,
                ⟨(some 16), .mkrow 26 2 1 [(.int .i64 0), (.int .i64 0)] [(0, (.t 15))], none, 0, true, false⟩,
                ⟨(some 17), .append 26 2 16 (.t 14) (.t 16), none, 0, true, false⟩,
                ⟨(some 3), .mv (.t 17), none, 0, true, false⟩])
              (.skip)))))
        (.reg [⟨(some 18), .bin .add (.t 8) (.c (.int .i64 1)), none, 0, true, false⟩,
          ⟨(some 8), .mv (.t 18), none, 0, true, false⟩])))))))
  (.seq (.reg [⟨(some 19), .mv (.t 3), none, 0, true, false⟩,
      ⟨(some 20), .call 42 [(.t 19), (.c (.fn 43 []))], none, 0, true, false⟩])
  (.seq (.reg [⟨(some 21), .mv (.t 3), none, 0, true, false⟩,
      ⟨(some 2), .mv (.t 21), none, 0, true, false⟩])
  (.ret)))))
theorem k37 : codeOf Try.prog 37 = some (c37, [.tmp 2], 22, false) := by kernel_rfl

/-- regesta/regestaref01.of -/
def c38 : XCode :=
  .seq (.reg [⟨(some 2), .nilrow 26 2, none, 0, true, false⟩])
  (.seq (.reg [⟨(some 3), .nilrow 26 2, none, 0, true, false⟩])
  (.seq (.seq (.reg [⟨(some 4), .mv (.c (.int .i64 0)), none, 0, true, false⟩])
    (.block 0 (
      .loop (
        .seq (.seq (.reg [⟨(some 6), .mv (.t 4), none, 0, true, false⟩,
              ⟨(some 7), .mv (.t 0), none, 0, true, false⟩,
              ⟨(some 8), .lenS (.t 7), none, 0, true, false⟩,
              ⟨(some 9), .bin .lss (.t 6) (.t 8), none, 0, true, false⟩])
          (.cond (.t 9)
            (.skip)
            (.exit 0)))
        (.seq (.block 1 (
            .seq (.seq (.reg [⟨(some 12), .mv (.t 0), none, 0, true, false⟩,
                  ⟨(some 13), .mv (.t 4), none, 0, true, false⟩,
                  ⟨(some 14), .indexS 1 (.t 12) (.t 13), none, 0, true, false⟩,
                  ⟨(some 15), .load1 (.t 14), none, 0, true, false⟩,
                  ⟨(some 16), .not (.t 15), none, 0, true, false⟩])
              (.cond (.t 16)
                (.exit 1)
                (.skip)))
            (.seq (.reg [⟨(some 17), .mv (.t 4), none, 0, true, false⟩,
                ⟨(some 5), .mv (.t 17), none, 0, true, false⟩])
            (.seq (.block 2 (
                .loop (
                  .seq (.seq (.reg [⟨(some 18), .mv (.t 5), none, 0, true, false⟩,
                        ⟨(some 19), .mv (.t 0), none, 0, true, false⟩,
                        ⟨(some 20), .lenS (.t 19), none, 0, true, false⟩,
                        ⟨(some 21), .bin .lss (.t 18) (.t 20), none, 0, true, false⟩,
                        ⟨(some 22), .mv (.t 21), none, 0, true, false⟩,
                        ⟨(some 23), .mv (.t 0), (some (22, true)), 0, true, false⟩,
                        ⟨(some 24), .mv (.t 5), (some (22, true)), 0, true, false⟩,
                        ⟨(some 25), .indexS 1 (.t 23) (.t 24), (some (22, true)), 0, true, false⟩,
                        ⟨(some 26), .load1 (.t 25), (some (22, true)), 0, true, false⟩,
                        ⟨(some 27), .pick (.t 22) (.t 26) (.c (.bool false)), none, 0, true, false⟩])
                    (.cond (.t 27)
                      (.skip)
                      (.exit 2)))
                  (.block 3 (
                    .reg [⟨(some 28), .mv (.t 5), none, 0, true, false⟩,
                      ⟨(some 29), .bin .add (.t 28) (.c (.int .i64 1)), none, 0, true, false⟩,
                      ⟨(some 5), .mv (.t 29), none, 0, true, false⟩])))))
            (.seq (.reg [⟨(some 30), .mv (.t 3), none, 0, true, false⟩,
                ⟨(some 31), .mv (.t 4), none, 0, true, false⟩,
                ⟨(some 32), .bin .add (.c (.int .i64 (-1000))) (.t 31), none, 0, true, false⟩,
                ⟨(some 33), .mv (.t 5), none, 0, true, false⟩,
                ⟨(some 34), .bin .add (.c (.int .i64 (-1000))) (.t 33), none, 0, true, false⟩,
                ⟨(some 35), .build [(.int .i64 0), (.int .i64 0)] [(0, 1, (.t 32)), (1, 1, (.t 34))], none, 0, true, false⟩,
                ⟨(some 36), .mkrow 26 2 1 [(.int .i64 0), (.int .i64 0)] [(0, (.t 35))], none, 0, true, false⟩,
                ⟨(some 37), .append 26 2 16 (.t 30) (.t 36), none, 0, true, false⟩,
                ⟨(some 3), .mv (.t 37), none, 0, true, false⟩])
            (.reg [⟨(some 38), .mv (.t 5), none, 0, true, false⟩,
              ⟨(some 4), .mv (.t 38), none, 0, true, false⟩]))))))
        (.reg [⟨(some 10), .mv (.t 4), none, 0, true, false⟩,
          ⟨(some 11), .bin .add (.t 10) (.c (.int .i64 1)), none, 0, true, false⟩,
          ⟨(some 4), .mv (.t 11), none, 0, true, false⟩]))))))
  (.seq (.reg [⟨(some 39), .mv (.t 3), none, 0, true, false⟩,
      ⟨(some 2), .mv (.t 39), none, 0, true, false⟩])
  (.ret))))
theorem k38 : codeOf Try.prog 38 = some (c38, [.tmp 2], 40, false) := by kernel_rfl

/-- regesta/regestaref01.marks -/
def c39 : XCode :=
  .seq (.reg [⟨(some 2), .nilrow 4 1, none, 0, true, false⟩])
  (.seq (.reg [⟨(some 6), .mkslice 4 1 1 [(.bool false)] (.c (.int .i64 2000)) (.c (.int .i64 2000)), none, 0, true, false⟩,
      ⟨(some 3), .mv (.t 6), none, 0, true, false⟩])
  (.seq (.seq (.reg [⟨(some 4), .mv (.c (.int .i64 0)), none, 0, true, false⟩])
    (.block 0 (
      .loop (
        .seq (.seq (.reg [⟨(some 7), .mv (.t 4), none, 0, true, false⟩,
              ⟨(some 8), .mv (.t 0), none, 0, true, false⟩,
              ⟨(some 9), .lenS (.t 8), none, 0, true, false⟩,
              ⟨(some 10), .bin .lss (.t 7) (.t 9), none, 0, true, false⟩])
          (.cond (.t 10)
            (.skip)
            (.exit 0)))
        (.seq (.block 1 (
            .seq (.reg [⟨(some 13), .mv (.t 0), none, 0, true, false⟩,
                ⟨(some 14), .mv (.t 4), none, 0, true, false⟩,
                ⟨(some 15), .indexS 2 (.t 13) (.t 14), none, 0, true, false⟩,
                ⟨(some 16), .loadn 2 (.t 15), none, 0, true, false⟩,
                ⟨(some 17), .call 17 [(.t 16)], none, 0, true, false⟩])
            (.cond (.t 17)
              (.seq (.reg [⟨(some 18), .mv (.t 0), none, 0, true, false⟩,
                  ⟨(some 19), .mv (.t 4), none, 0, true, false⟩,
                  ⟨(some 20), .indexS 2 (.t 18) (.t 19), none, 0, true, false⟩,
                  ⟨(some 21), .fieldA 0 (.t 20), none, 0, true, false⟩,
                  ⟨(some 22), .load1 (.t 21), none, 0, true, false⟩,
                  ⟨(some 5), .mv (.t 22), none, 0, true, false⟩])
              (.block 2 (
                .loop (
                  .seq (.seq (.reg [⟨(some 23), .mv (.t 5), none, 0, true, false⟩,
                        ⟨(some 24), .mv (.t 0), none, 0, true, false⟩,
                        ⟨(some 25), .mv (.t 4), none, 0, true, false⟩,
                        ⟨(some 26), .indexS 2 (.t 24) (.t 25), none, 0, true, false⟩,
                        ⟨(some 27), .fieldA 1 (.t 26), none, 0, true, false⟩,
                        ⟨(some 28), .load1 (.t 27), none, 0, true, false⟩,
                        ⟨(some 29), .bin .lss (.t 23) (.t 28), none, 0, true, false⟩])
                    (.cond (.t 29)
                      (.skip)
                      (.exit 2)))
                  (.seq (.block 3 (
                      .reg [⟨(some 32), .mv (.t 3), none, 0, true, false⟩,
                        ⟨(some 33), .mv (.t 5), none, 0, true, false⟩,
                        ⟨(some 34), .bin .sub (.t 33) (.c (.int .i64 (-1000))), none, 0, true, false⟩,
                        ⟨(some 35), .indexS 1 (.t 32) (.t 34), none, 0, true, false⟩,
                        ⟨none, .store 1 (.t 35) (.c (.bool true)), none, 0, true, false⟩]))
                  (.reg [⟨(some 30), .mv (.t 5), none, 0, true, false⟩,
                    ⟨(some 31), .bin .add (.t 30) (.c (.int .i64 1)), none, 0, true, false⟩,
                    ⟨(some 5), .mv (.t 31), none, 0, true, false⟩]))))))
              (.skip))))
        (.reg [⟨(some 11), .mv (.t 4), none, 0, true, false⟩,
          ⟨(some 12), .bin .add (.t 11) (.c (.int .i64 1)), none, 0, true, false⟩,
          ⟨(some 4), .mv (.t 12), none, 0, true, false⟩]))))))
  (.seq (.reg [⟨(some 36), .mv (.t 3), none, 0, true, false⟩,
      ⟨(some 2), .mv (.t 36), none, 0, true, false⟩])
  (.ret))))
theorem k39 : codeOf Try.prog 39 = some (c39, [.tmp 2], 37, false) := by kernel_rfl

/-- regesta/span.sorted$1 -/
def c43 : XCode :=
  .seq (.reg [⟨(some 2), .box 26 2 (.t 0), none, 0, true, false⟩,
      ⟨(some 3), .box 26 2 (.t 1), none, 0, true, false⟩,
      ⟨(some 4), .mv (.c (.int .i64 0)), none, 0, true, false⟩])
  (.seq (.regD [⟨(some 5), .fieldA 0 (.t 2), none, 0, false, false⟩,
      ⟨(some 6), .load1 (.t 5), none, 1, false, false⟩,
      ⟨(some 7), .fieldA 0 (.t 3), none, 0, false, false⟩,
      ⟨(some 8), .load1 (.t 7), none, 4, false, false⟩,
      ⟨(some 9), .call 45 [(.t 6), (.t 8)], none, 15, false, true⟩,
      ⟨(some 10), .fieldA 1 (.t 2), none, 0, false, false⟩,
      ⟨(some 11), .load1 (.t 10), none, 32, false, false⟩,
      ⟨(some 12), .fieldA 1 (.t 3), none, 0, false, false⟩,
      ⟨(some 13), .load1 (.t 12), none, 128, false, false⟩,
      ⟨(some 14), .call 45 [(.t 11), (.t 13)], none, 511, true, false⟩,
      ⟨(some 15), .mkrow 3 1 2 [(.int .i64 0)] [(0, (.t 9)), (1, (.t 14))], none, 1023, true, false⟩,
      ⟨(some 16), .call 44 [(.t 15)], none, 2047, true, false⟩,
      ⟨(some 4), .mv (.t 16), none, 4095, false, false⟩])
  (.ret))
theorem k43 : codeOf Try.prog 43 = some (c43, [.tmp 4], 17, false) := by kernel_rfl

/-- cmp.Or[int] -/
def c44 : XCode :=
  .seq (.reg [⟨(some 2), .mv (.c (.int .i64 0)), none, 0, true, false⟩])
  (.seq (.reg [⟨(some 3), .mv (.c (.int .i64 0)), none, 0, true, false⟩])
  (.seq (.seq (.reg [⟨(some 6), .mv (.t 0), none, 0, true, false⟩,
        ⟨(some 7), .lenS (.t 6), none, 0, true, false⟩,
        ⟨(some 8), .mv (.c (.int .i64 0)), none, 0, true, false⟩])
    (.block 0 (
      .loop (
        .seq (.reg [⟨(some 9), .bin .lss (.t 8) (.t 7), none, 0, true, false⟩])
        (.seq (.cond (.t 9)
            (.skip)
            (.exit 0))
        (.seq (.block 1 (
            .seq (.reg [⟨(some 10), .indexS 1 (.t 6) (.t 8), none, 0, true, false⟩,
                ⟨(some 11), .load1 (.t 10), none, 0, true, false⟩,
                ⟨(some 5), .mv (.t 11), none, 0, true, false⟩])
            (.seq (.reg [⟨(some 12), .mv (.t 5), none, 0, true, false⟩,
                ⟨(some 13), .mv (.t 3), none, 0, true, false⟩,
                ⟨(some 14), .bin .neq (.t 12) (.t 13), none, 0, true, false⟩])
            (.cond (.t 14)
              (.seq (.reg [⟨(some 15), .mv (.t 5), none, 0, true, false⟩,
                  ⟨(some 2), .mv (.t 15), none, 0, true, false⟩])
              (.ret))
              (.skip)))))
        (.reg [⟨(some 16), .bin .add (.t 8) (.c (.int .i64 1)), none, 0, true, false⟩,
          ⟨(some 8), .mv (.t 16), none, 0, true, false⟩])))))))
  (.seq (.reg [⟨(some 17), .mv (.t 3), none, 0, true, false⟩,
      ⟨(some 2), .mv (.t 17), none, 0, true, false⟩])
  (.ret))))
theorem k44 : codeOf Try.prog 44 = some (c44, [.tmp 2], 18, false) := by kernel_rfl

/-- cmp.Compare[int] -/
def c45 : XCode :=
  .seq (.reg [⟨(some 4), .mv (.c (.int .i64 0)), none, 0, true, false⟩])
  (.seq (.reg [⟨(some 7), .mv (.t 0), none, 0, true, false⟩,
      ⟨(some 8), .call 49 [(.t 7)], none, 0, true, false⟩,
      ⟨(some 5), .mv (.t 8), none, 0, true, false⟩])
  (.seq (.reg [⟨(some 9), .mv (.t 1), none, 0, true, false⟩,
      ⟨(some 10), .call 49 [(.t 9)], none, 0, true, false⟩,
      ⟨(some 6), .mv (.t 10), none, 0, true, false⟩])
  (.seq (.seq (.reg [⟨(some 11), .mv (.t 5), none, 0, true, false⟩])
    (.cond (.t 11)
      (.seq (.seq (.reg [⟨(some 12), .mv (.t 6), none, 0, true, false⟩])
        (.cond (.t 12)
          (.seq (.reg [⟨(some 4), .mv (.c (.int .i64 0)), none, 0, true, false⟩])
          (.ret))
          (.skip)))
      (.seq (.reg [⟨(some 4), .mv (.c (.int .i64 (-1))), none, 0, true, false⟩])
      (.ret)))
      (.skip)))
  (.seq (.seq (.reg [⟨(some 13), .mv (.t 6), none, 0, true, false⟩])
    (.cond (.t 13)
      (.seq (.reg [⟨(some 4), .mv (.c (.int .i64 1)), none, 0, true, false⟩])
      (.ret))
      (.skip)))
  (.seq (.seq (.reg [⟨(some 14), .mv (.t 0), none, 0, true, false⟩,
        ⟨(some 15), .mv (.t 1), none, 0, true, false⟩,
        ⟨(some 16), .bin .lss (.t 14) (.t 15), none, 0, true, false⟩])
    (.cond (.t 16)
      (.seq (.reg [⟨(some 4), .mv (.c (.int .i64 (-1))), none, 0, true, false⟩])
      (.ret))
      (.skip)))
  (.seq (.seq (.reg [⟨(some 17), .mv (.t 0), none, 0, true, false⟩,
        ⟨(some 18), .mv (.t 1), none, 0, true, false⟩,
        ⟨(some 19), .bin .gtr (.t 17) (.t 18), none, 0, true, false⟩])
    (.cond (.t 19)
      (.seq (.reg [⟨(some 4), .mv (.c (.int .i64 1)), none, 0, true, false⟩])
      (.ret))
      (.skip)))
  (.seq (.reg [⟨(some 4), .mv (.c (.int .i64 0)), none, 0, true, false⟩])
  (.ret))))))))
theorem k45 : codeOf Try.prog 45 = some (c45, [.tmp 4], 20, false) := by kernel_rfl

/-- cmp.isNaN[int] -/
def c49 : XCode :=
  .seq (.reg [⟨(some 2), .mv (.c (.bool false)), none, 0, true, false⟩])
  (.seq (.reg [⟨(some 3), .mv (.t 0), none, 0, true, false⟩,
      ⟨(some 4), .mv (.t 0), none, 0, true, false⟩,
      ⟨(some 5), .bin .neq (.t 3) (.t 4), none, 0, true, false⟩,
      ⟨(some 2), .mv (.t 5), none, 0, true, false⟩])
  (.ret))
theorem k49 : codeOf Try.prog 49 = some (c49, [.tmp 2], 6, false) := by kernel_rfl

end Go.Vx
