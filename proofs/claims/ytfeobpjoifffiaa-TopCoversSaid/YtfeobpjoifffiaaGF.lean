/- Walks of the functions about spans that have no loop. -/
import Derived.Test.YtfeobpjoifffiaaGE
import Derived.Test.YtfeobpjoifffiaaGD
import Derived.IntWalk
set_option linter.unusedSimpArgs false
set_option linter.unusedVariables false
namespace Go.Vx
open Go Go.Proofs

abbrev Sp := Int × Int
/-- A span's cells. -/
def isp (s : Sp) : List PV := [.int .i64 s.1, .int .i64 s.2]
def sps (l : List Sp) : List (List PV) := l.map isp
theorem sps_len {l : List Sp} : (sps l).length = l.length := by simp [sps]
theorem sps_get {l : List Sp} {i : Nat} : (sps l)[i]? = (l[i]?).map isp := by simp [sps]
theorem sps_take {l : List Sp} {i : Nat} : (sps l).take i = sps (l.take i) := by simp [sps]
/-- An argument that is a span. -/
abbrev asp (x y : Int) : PV := .agg [.int .i64 x, .int .i64 y]

def rightB (x y : Int) : Bool := decide (-1000 ≤ x) && decide (x < y) && decide (y ≤ 1000)
def overB (x y u v : Int) : Bool := rightB x y && rightB u v && decide (x < v) && decide (u < y)
def bothF (x y u v : Int) : PV := if overB x y u v then .tup [asp (max x u) (min y v), .bool true] else .tup [asp 0 0, .bool false]
def bothR (x y u v : Int) : PV := if rightB x y && rightB u v && !decide (min y v ≤ max x u) then .tup [asp (max x u) (min y v), .bool true] else .tup [asp 0 0, .bool false]
def overR (x y u v : Int) : Bool := rightB x y && rightB u v && !decide (min y v ≤ max x u)
def hasB (x y p : Int) : Bool := rightB x y && decide (x ≤ p) && decide (p < y)
def meetB (x y u v : Int) : Bool := rightB x y && rightB u v && decide (y = u)
def minusF (x y u v : Int) : List Sp :=
  if rightB x y then if overB x y u v then if max x u = x ∧ min y v = y then [] else (if x < max x u then [(x, max x u)] else []) ++ (if min y v < y then [(min y v, y)] else []) else [(x, y)] else []
def cmpI (x y : Int) : Int := if x < y then -1 else if y < x then 1 else 0

section
variable {P : Program}

theorem w16 (x y : Int) (b : Nat) : VW P c16 (PRet (Ends [.tmp 2] b (.bool (rightB x y)) mt)) (fun t => [asp x y][t]?) mt b := by
  unfold c16
  repeat' (first
    | exact True.intro
    | refine VW.seq ?_
    | refine VW.block ?_
    | ((first | refine VW.skip ?_ | refine VW.exit ?_ | refine VW.reg ?_ | refine VW.regD ?_ | refine VW.ret ?_ | show goA _ _ _ _ _ _ _ _ _ _ | show goB _ _ _ _ _ _ _ _ _ | show goAD _ _ _ _ _ _ _ _ _ _ _ _ _ _ | show goBD _ _ _ _ _ _ _ _ _ _ _); refine sx ?_)
    | refine VW.condT cx ?_
    | refine VW.condF cx ?_
    | refine VW.cond ex ?_ ?_
    | refine imp_nt ?_
    | refine imp_nf ?_
    | refine imp_dt (fun _ => ?_)
    | refine imp_df (fun _ => ?_)
    | (refine fun (_ : _ = true) => ?_)
    | (refine fun (_ : _ = false) => ?_)
    | refine vg_t ?_ ?_
    | refine vg_f ?_ ?_)
  all_goals refine .v (by simp -implicitDefEqProofs only [resF, resL, RX.ev, tup1, purT, eng, reduceIte, reduceCtorEq, Nat.reduceAdd, Nat.reduceMul, Nat.reduceSub, Nat.reduceEqDiff, Nat.reduceLeDiff, Nat.reduceLT, Nat.reduceDiv, Nat.reduceMod, Int.reduceLE, Int.reduceLT, Int.reduceEq, Int.reduceNeg, Int.reduceAdd, Int.reduceSub, Int.reduceToNat, Nat.reducePow, Int.ofNat_zero, Int.natCast_one, Int.cast_ofNat_Int, *] <;> rfl) (by simp -implicitDefEqProofs only [resF, resL, RX.ev, tup1, purT, rightB, eng, reduceIte, reduceCtorEq, Nat.reduceAdd, Nat.reduceMul, Nat.reduceSub, Nat.reduceEqDiff, Nat.reduceLeDiff, Nat.reduceLT, Nat.reduceDiv, Nat.reduceMod, Int.reduceLE, Int.reduceLT, Int.reduceEq, Int.reduceNeg, Int.reduceAdd, Int.reduceSub, Int.reduceToNat, Nat.reducePow, Int.ofNat_zero, Int.natCast_one, Int.cast_ofNat_Int, *])

theorem w17 (x y : Int) (b : Nat) : VW P c17 (PRet (Ends [.tmp 2] b (.bool (rightB x y)) mt)) (fun t => [asp x y][t]?) mt b := by
  unfold c17
  repeat' (first
    | exact True.intro
    | refine VW.seq ?_
    | refine VW.block ?_
    | ((first | refine VW.skip ?_ | refine VW.exit ?_ | refine VW.reg ?_ | refine VW.regD ?_ | refine VW.ret ?_ | show goA _ _ _ _ _ _ _ _ _ _ | show goB _ _ _ _ _ _ _ _ _ | show goAD _ _ _ _ _ _ _ _ _ _ _ _ _ _ | show goBD _ _ _ _ _ _ _ _ _ _ _); refine sx ?_)
    | refine VW.condT cx ?_
    | refine VW.condF cx ?_
    | refine VW.cond ex ?_ ?_
    | refine imp_nt ?_
    | refine imp_nf ?_
    | refine imp_dt (fun _ => ?_)
    | refine imp_df (fun _ => ?_)
    | (refine fun (_ : _ = true) => ?_)
    | (refine fun (_ : _ = false) => ?_)
    | refine vg_t ?_ ?_
    | refine vg_f ?_ ?_)
  all_goals refine .v (by simp -implicitDefEqProofs only [resF, resL, RX.ev, tup1, purT, eng, reduceIte, reduceCtorEq, Nat.reduceAdd, Nat.reduceMul, Nat.reduceSub, Nat.reduceEqDiff, Nat.reduceLeDiff, Nat.reduceLT, Nat.reduceDiv, Nat.reduceMod, Int.reduceLE, Int.reduceLT, Int.reduceEq, Int.reduceNeg, Int.reduceAdd, Int.reduceSub, Int.reduceToNat, Nat.reducePow, Int.ofNat_zero, Int.natCast_one, Int.cast_ofNat_Int, *] <;> rfl) (by simp -implicitDefEqProofs only [resF, resL, RX.ev, tup1, purT, rightB, eng, reduceIte, reduceCtorEq, Nat.reduceAdd, Nat.reduceMul, Nat.reduceSub, Nat.reduceEqDiff, Nat.reduceLeDiff, Nat.reduceLT, Nat.reduceDiv, Nat.reduceMod, Int.reduceLE, Int.reduceLT, Int.reduceEq, Int.reduceNeg, Int.reduceAdd, Int.reduceSub, Int.reduceToNat, Nat.reducePow, Int.ofNat_zero, Int.natCast_one, Int.cast_ofNat_Int, *])

theorem w20 (h16 : ∀ x y b, V P 16 [asp x y] mt b (.bool (rightB x y)) mt) (x y u v : Int) (b : Nat) : VW P c20 (PRet (Ends [.tmp 4] b (.bool (overB x y u v)) mt)) (fun t => [asp x y, asp u v][t]?) mt b := by
  unfold c20
  repeat' (first
    | exact True.intro
    | refine VW.seq ?_
    | refine VW.block ?_
    | ((first | refine VW.skip ?_ | refine VW.exit ?_ | refine VW.reg ?_ | refine VW.regD ?_ | refine VW.ret ?_ | show goA _ _ _ _ _ _ _ _ _ _ | show goB _ _ _ _ _ _ _ _ _ | show goAD _ _ _ _ _ _ _ _ _ _ _ _ _ _ | show goBD _ _ _ _ _ _ _ _ _ _ _ | refine VC.p1 (h16 _ _ _) rfl rfl ?_); refine sx ?_)
    | refine VW.condT cx ?_
    | refine VW.condF cx ?_
    | refine VW.cond ex ?_ ?_
    | refine imp_nt ?_
    | refine imp_nf ?_
    | refine imp_dt (fun _ => ?_)
    | refine imp_df (fun _ => ?_)
    | (refine fun (_ : _ = true) => ?_)
    | (refine fun (_ : _ = false) => ?_)
    | refine vg_t ?_ ?_
    | refine vg_f ?_ ?_)
  all_goals refine .v (by simp -implicitDefEqProofs only [resF, resL, RX.ev, tup1, purT, eng, reduceIte, reduceCtorEq, Nat.reduceAdd, Nat.reduceMul, Nat.reduceSub, Nat.reduceEqDiff, Nat.reduceLeDiff, Nat.reduceLT, Nat.reduceDiv, Nat.reduceMod, Int.reduceLE, Int.reduceLT, Int.reduceEq, Int.reduceNeg, Int.reduceAdd, Int.reduceSub, Int.reduceToNat, Nat.reducePow, Int.ofNat_zero, Int.natCast_one, Int.cast_ofNat_Int, *] <;> rfl) (by simp -implicitDefEqProofs only [resF, resL, RX.ev, tup1, purT, overB, eng, reduceIte, reduceCtorEq, Nat.reduceAdd, Nat.reduceMul, Nat.reduceSub, Nat.reduceEqDiff, Nat.reduceLeDiff, Nat.reduceLT, Nat.reduceDiv, Nat.reduceMod, Int.reduceLE, Int.reduceLT, Int.reduceEq, Int.reduceNeg, Int.reduceAdd, Int.reduceSub, Int.reduceToNat, Nat.reducePow, Int.ofNat_zero, Int.natCast_one, Int.cast_ofNat_Int, *])

theorem w14 (h20 : ∀ x y u v b, V P 20 [asp x y, asp u v] mt b (.bool (overB x y u v)) mt) (x y u v : Int) (b : Nat) : VW P c14 (PRet (Ends [.celln 4 2, .tmp 5] b (bothF x y u v) mt)) (fun t => [asp x y, asp u v][t]?) mt b := by
  unfold c14
  repeat' (first
    | exact True.intro
    | refine VW.seq ?_
    | refine VW.block ?_
    | ((first | refine VW.skip ?_ | refine VW.exit ?_ | refine VW.reg ?_ | refine VW.regD ?_ | refine VW.ret ?_ | show goA _ _ _ _ _ _ _ _ _ _ | show goB _ _ _ _ _ _ _ _ _ | show goAD _ _ _ _ _ _ _ _ _ _ _ _ _ _ | show goBD _ _ _ _ _ _ _ _ _ _ _ | refine VC.p2 (h20 _ _ _ _ _) rfl rfl rfl rfl ?_); refine sx ?_)
    | refine VW.condT cx ?_
    | refine VW.condF cx ?_
    | refine VW.cond ex ?_ ?_
    | refine imp_nt ?_
    | refine imp_nf ?_
    | refine imp_dt (fun _ => ?_)
    | refine imp_df (fun _ => ?_)
    | (refine fun (_ : _ = true) => ?_)
    | (refine fun (_ : _ = false) => ?_)
    | refine vg_t ?_ ?_
    | refine vg_f ?_ ?_)
  all_goals refine .v (by simp -implicitDefEqProofs only [resF, resL, RX.ev, tup1, purT, eng, reduceIte, reduceCtorEq, Nat.reduceAdd, Nat.reduceMul, Nat.reduceSub, Nat.reduceEqDiff, Nat.reduceLeDiff, Nat.reduceLT, Nat.reduceDiv, Nat.reduceMod, Int.reduceLE, Int.reduceLT, Int.reduceEq, Int.reduceNeg, Int.reduceAdd, Int.reduceSub, Int.reduceToNat, Nat.reducePow, Int.ofNat_zero, Int.natCast_one, Int.cast_ofNat_Int, *] <;> rfl) (by simp -implicitDefEqProofs only [resF, resL, RX.ev, tup1, purT, bothF, eng, reduceIte, reduceCtorEq, Nat.reduceAdd, Nat.reduceMul, Nat.reduceSub, Nat.reduceEqDiff, Nat.reduceLeDiff, Nat.reduceLT, Nat.reduceDiv, Nat.reduceMod, Int.reduceLE, Int.reduceLT, Int.reduceEq, Int.reduceNeg, Int.reduceAdd, Int.reduceSub, Int.reduceToNat, Nat.reducePow, Int.ofNat_zero, Int.natCast_one, Int.cast_ofNat_Int, *])

theorem w15 (h17 : ∀ x y b, V P 17 [asp x y] mt b (.bool (rightB x y)) mt) (x y u v : Int) (b : Nat) : VW P c15 (PRet (Ends [.celln 4 2, .tmp 5] b (bothR x y u v) mt)) (fun t => [asp x y, asp u v][t]?) mt b := by
  unfold c15
  repeat' (first
    | exact True.intro
    | refine VW.seq ?_
    | refine VW.block ?_
    | ((first | refine VW.skip ?_ | refine VW.exit ?_ | refine VW.reg ?_ | refine VW.regD ?_ | refine VW.ret ?_ | show goA _ _ _ _ _ _ _ _ _ _ | show goB _ _ _ _ _ _ _ _ _ | show goAD _ _ _ _ _ _ _ _ _ _ _ _ _ _ | show goBD _ _ _ _ _ _ _ _ _ _ _ | refine VC.p1 (h17 _ _ _) rfl rfl ?_); refine sx ?_)
    | refine VW.condT cx ?_
    | refine VW.condF cx ?_
    | refine VW.cond ex ?_ ?_
    | refine imp_nt ?_
    | refine imp_nf ?_
    | refine imp_dt (fun _ => ?_)
    | refine imp_df (fun _ => ?_)
    | (refine fun (_ : _ = true) => ?_)
    | (refine fun (_ : _ = false) => ?_)
    | refine vg_t ?_ ?_
    | refine vg_f ?_ ?_)
  all_goals refine .v (by simp -implicitDefEqProofs only [resF, resL, RX.ev, tup1, purT, eng, reduceIte, reduceCtorEq, Nat.reduceAdd, Nat.reduceMul, Nat.reduceSub, Nat.reduceEqDiff, Nat.reduceLeDiff, Nat.reduceLT, Nat.reduceDiv, Nat.reduceMod, Int.reduceLE, Int.reduceLT, Int.reduceEq, Int.reduceNeg, Int.reduceAdd, Int.reduceSub, Int.reduceToNat, Nat.reducePow, Int.ofNat_zero, Int.natCast_one, Int.cast_ofNat_Int, *] <;> rfl) (by simp -implicitDefEqProofs only [resF, resL, RX.ev, tup1, purT, bothR, eng, reduceIte, reduceCtorEq, Nat.reduceAdd, Nat.reduceMul, Nat.reduceSub, Nat.reduceEqDiff, Nat.reduceLeDiff, Nat.reduceLT, Nat.reduceDiv, Nat.reduceMod, Int.reduceLE, Int.reduceLT, Int.reduceEq, Int.reduceNeg, Int.reduceAdd, Int.reduceSub, Int.reduceToNat, Nat.reducePow, Int.ofNat_zero, Int.natCast_one, Int.cast_ofNat_Int, *])

theorem w18 (h16 : ∀ x y b, V P 16 [asp x y] mt b (.bool (rightB x y)) mt) (x y p : Int) (b : Nat) : VW P c18 (PRet (Ends [.tmp 4] b (.bool (hasB x y p)) mt)) (fun t => [asp x y, .int .i64 p][t]?) mt b := by
  unfold c18
  repeat' (first
    | exact True.intro
    | refine VW.seq ?_
    | refine VW.block ?_
    | ((first | refine VW.skip ?_ | refine VW.exit ?_ | refine VW.reg ?_ | refine VW.regD ?_ | refine VW.ret ?_ | show goA _ _ _ _ _ _ _ _ _ _ | show goB _ _ _ _ _ _ _ _ _ | show goAD _ _ _ _ _ _ _ _ _ _ _ _ _ _ | show goBD _ _ _ _ _ _ _ _ _ _ _ | refine VC.p1 (h16 _ _ _) rfl rfl ?_); refine sx ?_)
    | refine VW.condT cx ?_
    | refine VW.condF cx ?_
    | refine VW.cond ex ?_ ?_
    | refine imp_nt ?_
    | refine imp_nf ?_
    | refine imp_dt (fun _ => ?_)
    | refine imp_df (fun _ => ?_)
    | (refine fun (_ : _ = true) => ?_)
    | (refine fun (_ : _ = false) => ?_)
    | refine vg_t ?_ ?_
    | refine vg_f ?_ ?_)
  all_goals refine .v (by simp -implicitDefEqProofs only [resF, resL, RX.ev, tup1, purT, eng, reduceIte, reduceCtorEq, Nat.reduceAdd, Nat.reduceMul, Nat.reduceSub, Nat.reduceEqDiff, Nat.reduceLeDiff, Nat.reduceLT, Nat.reduceDiv, Nat.reduceMod, Int.reduceLE, Int.reduceLT, Int.reduceEq, Int.reduceNeg, Int.reduceAdd, Int.reduceSub, Int.reduceToNat, Nat.reducePow, Int.ofNat_zero, Int.natCast_one, Int.cast_ofNat_Int, *] <;> rfl) (by simp -implicitDefEqProofs only [resF, resL, RX.ev, tup1, purT, hasB, eng, reduceIte, reduceCtorEq, Nat.reduceAdd, Nat.reduceMul, Nat.reduceSub, Nat.reduceEqDiff, Nat.reduceLeDiff, Nat.reduceLT, Nat.reduceDiv, Nat.reduceMod, Int.reduceLE, Int.reduceLT, Int.reduceEq, Int.reduceNeg, Int.reduceAdd, Int.reduceSub, Int.reduceToNat, Nat.reducePow, Int.ofNat_zero, Int.natCast_one, Int.cast_ofNat_Int, *])

theorem w19 (h17 : ∀ x y b, V P 17 [asp x y] mt b (.bool (rightB x y)) mt) (x y p : Int) (b : Nat) : VW P c19 (PRet (Ends [.tmp 4] b (.bool (hasB x y p)) mt)) (fun t => [asp x y, .int .i64 p][t]?) mt b := by
  unfold c19
  repeat' (first
    | exact True.intro
    | refine VW.seq ?_
    | refine VW.block ?_
    | ((first | refine VW.skip ?_ | refine VW.exit ?_ | refine VW.reg ?_ | refine VW.regD ?_ | refine VW.ret ?_ | show goA _ _ _ _ _ _ _ _ _ _ | show goB _ _ _ _ _ _ _ _ _ | show goAD _ _ _ _ _ _ _ _ _ _ _ _ _ _ | show goBD _ _ _ _ _ _ _ _ _ _ _ | refine VC.p1 (h17 _ _ _) rfl rfl ?_); refine sx ?_)
    | refine VW.condT cx ?_
    | refine VW.condF cx ?_
    | refine VW.cond ex ?_ ?_
    | refine imp_nt ?_
    | refine imp_nf ?_
    | refine imp_dt (fun _ => ?_)
    | refine imp_df (fun _ => ?_)
    | (refine fun (_ : _ = true) => ?_)
    | (refine fun (_ : _ = false) => ?_)
    | refine vg_t ?_ ?_
    | refine vg_f ?_ ?_)
  all_goals refine .v (by simp -implicitDefEqProofs only [resF, resL, RX.ev, tup1, purT, eng, reduceIte, reduceCtorEq, Nat.reduceAdd, Nat.reduceMul, Nat.reduceSub, Nat.reduceEqDiff, Nat.reduceLeDiff, Nat.reduceLT, Nat.reduceDiv, Nat.reduceMod, Int.reduceLE, Int.reduceLT, Int.reduceEq, Int.reduceNeg, Int.reduceAdd, Int.reduceSub, Int.reduceToNat, Nat.reducePow, Int.ofNat_zero, Int.natCast_one, Int.cast_ofNat_Int, *] <;> rfl) (by simp -implicitDefEqProofs only [resF, resL, RX.ev, tup1, purT, hasB, eng, reduceIte, reduceCtorEq, Nat.reduceAdd, Nat.reduceMul, Nat.reduceSub, Nat.reduceEqDiff, Nat.reduceLeDiff, Nat.reduceLT, Nat.reduceDiv, Nat.reduceMod, Int.reduceLE, Int.reduceLT, Int.reduceEq, Int.reduceNeg, Int.reduceAdd, Int.reduceSub, Int.reduceToNat, Nat.reducePow, Int.ofNat_zero, Int.natCast_one, Int.cast_ofNat_Int, *])

theorem w22 (h16 : ∀ x y b, V P 16 [asp x y] mt b (.bool (rightB x y)) mt) (x y u v : Int) (b : Nat) : VW P c22 (PRet (Ends [.tmp 4] b (.bool (meetB x y u v)) mt)) (fun t => [asp x y, asp u v][t]?) mt b := by
  unfold c22
  repeat' (first
    | exact True.intro
    | refine VW.seq ?_
    | refine VW.block ?_
    | ((first | refine VW.skip ?_ | refine VW.exit ?_ | refine VW.reg ?_ | refine VW.regD ?_ | refine VW.ret ?_ | show goA _ _ _ _ _ _ _ _ _ _ | show goB _ _ _ _ _ _ _ _ _ | show goAD _ _ _ _ _ _ _ _ _ _ _ _ _ _ | show goBD _ _ _ _ _ _ _ _ _ _ _ | refine VC.p1 (h16 _ _ _) rfl rfl ?_); refine sx ?_)
    | refine VW.condT cx ?_
    | refine VW.condF cx ?_
    | refine VW.cond ex ?_ ?_
    | refine imp_nt ?_
    | refine imp_nf ?_
    | refine imp_dt (fun _ => ?_)
    | refine imp_df (fun _ => ?_)
    | (refine fun (_ : _ = true) => ?_)
    | (refine fun (_ : _ = false) => ?_)
    | refine vg_t ?_ ?_
    | refine vg_f ?_ ?_)
  all_goals refine .v (by simp -implicitDefEqProofs only [resF, resL, RX.ev, tup1, purT, eng, reduceIte, reduceCtorEq, Nat.reduceAdd, Nat.reduceMul, Nat.reduceSub, Nat.reduceEqDiff, Nat.reduceLeDiff, Nat.reduceLT, Nat.reduceDiv, Nat.reduceMod, Int.reduceLE, Int.reduceLT, Int.reduceEq, Int.reduceNeg, Int.reduceAdd, Int.reduceSub, Int.reduceToNat, Nat.reducePow, Int.ofNat_zero, Int.natCast_one, Int.cast_ofNat_Int, *] <;> rfl) (by simp -implicitDefEqProofs only [resF, resL, RX.ev, tup1, purT, meetB, eng, reduceIte, reduceCtorEq, Nat.reduceAdd, Nat.reduceMul, Nat.reduceSub, Nat.reduceEqDiff, Nat.reduceLeDiff, Nat.reduceLT, Nat.reduceDiv, Nat.reduceMod, Int.reduceLE, Int.reduceLT, Int.reduceEq, Int.reduceNeg, Int.reduceAdd, Int.reduceSub, Int.reduceToNat, Nat.reducePow, Int.ofNat_zero, Int.natCast_one, Int.cast_ofNat_Int, *])

theorem w23 (h17 : ∀ x y b, V P 17 [asp x y] mt b (.bool (rightB x y)) mt) (x y u v : Int) (b : Nat) : VW P c23 (PRet (Ends [.tmp 4] b (.bool (meetB x y u v)) mt)) (fun t => [asp x y, asp u v][t]?) mt b := by
  unfold c23
  repeat' (first
    | exact True.intro
    | refine VW.seq ?_
    | refine VW.block ?_
    | ((first | refine VW.skip ?_ | refine VW.exit ?_ | refine VW.reg ?_ | refine VW.regD ?_ | refine VW.ret ?_ | show goA _ _ _ _ _ _ _ _ _ _ | show goB _ _ _ _ _ _ _ _ _ | show goAD _ _ _ _ _ _ _ _ _ _ _ _ _ _ | show goBD _ _ _ _ _ _ _ _ _ _ _ | refine VC.p1 (h17 _ _ _) rfl rfl ?_); refine sx ?_)
    | refine VW.condT cx ?_
    | refine VW.condF cx ?_
    | refine VW.cond ex ?_ ?_
    | refine imp_nt ?_
    | refine imp_nf ?_
    | refine imp_dt (fun _ => ?_)
    | refine imp_df (fun _ => ?_)
    | (refine fun (_ : _ = true) => ?_)
    | (refine fun (_ : _ = false) => ?_)
    | refine vg_t ?_ ?_
    | refine vg_f ?_ ?_)
  all_goals refine .v (by simp -implicitDefEqProofs only [resF, resL, RX.ev, tup1, purT, eng, reduceIte, reduceCtorEq, Nat.reduceAdd, Nat.reduceMul, Nat.reduceSub, Nat.reduceEqDiff, Nat.reduceLeDiff, Nat.reduceLT, Nat.reduceDiv, Nat.reduceMod, Int.reduceLE, Int.reduceLT, Int.reduceEq, Int.reduceNeg, Int.reduceAdd, Int.reduceSub, Int.reduceToNat, Nat.reducePow, Int.ofNat_zero, Int.natCast_one, Int.cast_ofNat_Int, *] <;> rfl) (by simp -implicitDefEqProofs only [resF, resL, RX.ev, tup1, purT, meetB, eng, reduceIte, reduceCtorEq, Nat.reduceAdd, Nat.reduceMul, Nat.reduceSub, Nat.reduceEqDiff, Nat.reduceLeDiff, Nat.reduceLT, Nat.reduceDiv, Nat.reduceMod, Int.reduceLE, Int.reduceLT, Int.reduceEq, Int.reduceNeg, Int.reduceAdd, Int.reduceSub, Int.reduceToNat, Nat.reducePow, Int.ofNat_zero, Int.natCast_one, Int.cast_ofNat_Int, *])

theorem w21 (h15 : ∀ x y u v b, V P 15 [asp x y, asp u v] mt b (bothR x y u v) mt) (x y u v : Int) (b : Nat) : VW P c21 (PRet (Ends [.tmp 4] b (.bool (overR x y u v)) mt)) (fun t => [asp x y, asp u v][t]?) mt b := by
  unfold c21
  unfold bothR at h15
  cases h : overR x y u v
  all_goals
    have h2 := h
    unfold overR at h2
    have h15' := h15 x y u v
    simp -implicitDefEqProofs only [h2, eng, reduceIte, reduceCtorEq, Nat.reduceAdd, Nat.reduceMul, Nat.reduceSub, Nat.reduceEqDiff, Nat.reduceLeDiff, Nat.reduceLT, Nat.reduceDiv, Nat.reduceMod, Int.reduceLE, Int.reduceLT, Int.reduceEq, Int.reduceNeg, Int.reduceAdd, Int.reduceSub, Int.reduceToNat, Nat.reducePow, Int.ofNat_zero, Int.natCast_one, Int.cast_ofNat_Int] at h15'
    repeat' (first
    | exact True.intro
    | refine VW.seq ?_
    | refine VW.block ?_
    | ((first | refine VW.skip ?_ | refine VW.exit ?_ | refine VW.reg ?_ | refine VW.regD ?_ | refine VW.ret ?_ | show goA _ _ _ _ _ _ _ _ _ _ | show goB _ _ _ _ _ _ _ _ _ | show goAD _ _ _ _ _ _ _ _ _ _ _ _ _ _ | show goBD _ _ _ _ _ _ _ _ _ _ _ | refine VC.p2 (h15' _) rfl rfl rfl rfl ?_); refine sx ?_)
    | refine VW.condT cx ?_
    | refine VW.condF cx ?_
    | refine VW.cond ex ?_ ?_
    | refine imp_nt ?_
    | refine imp_nf ?_
    | refine imp_dt (fun _ => ?_)
    | refine imp_df (fun _ => ?_)
    | (refine fun (_ : _ = true) => ?_)
    | (refine fun (_ : _ = false) => ?_)
    | refine vg_t ?_ ?_
    | refine vg_f ?_ ?_)
    refine .v (by simp -implicitDefEqProofs only [resF, resL, RX.ev, tup1, purT, eng, reduceIte, reduceCtorEq, Nat.reduceAdd, Nat.reduceMul, Nat.reduceSub, Nat.reduceEqDiff, Nat.reduceLeDiff, Nat.reduceLT, Nat.reduceDiv, Nat.reduceMod, Int.reduceLE, Int.reduceLT, Int.reduceEq, Int.reduceNeg, Int.reduceAdd, Int.reduceSub, Int.reduceToNat, Nat.reducePow, Int.ofNat_zero, Int.natCast_one, Int.cast_ofNat_Int, *] <;> rfl) (by simp -implicitDefEqProofs only [resF, resL, RX.ev, tup1, purT, eng, reduceIte, reduceCtorEq, Nat.reduceAdd, Nat.reduceMul, Nat.reduceSub, Nat.reduceEqDiff, Nat.reduceLeDiff, Nat.reduceLT, Nat.reduceDiv, Nat.reduceMod, Int.reduceLE, Int.reduceLT, Int.reduceEq, Int.reduceNeg, Int.reduceAdd, Int.reduceSub, Int.reduceToNat, Nat.reducePow, Int.ofNat_zero, Int.natCast_one, Int.cast_ofNat_Int, *])

theorem w24 (h16 : ∀ x y b, V P 16 [asp x y] mt b (.bool (rightB x y)) mt) (h14 : ∀ x y u v b, V P 14 [asp x y, asp u v] mt b (bothF x y u v) mt) (x y u v : Int) (b : Nat) : VW P c24 (PRet (Ends [.tmp 4] b (.sl (sps (minusF x y u v))) mt)) (fun t => [asp x y, asp u v][t]?) mt b := by
  unfold c24
  unfold bothF at h14
  cases h : overB x y u v
  all_goals
    have h14' := h14 x y u v
    simp -implicitDefEqProofs only [h, eng, reduceIte, reduceCtorEq, Nat.reduceAdd, Nat.reduceMul, Nat.reduceSub, Nat.reduceEqDiff, Nat.reduceLeDiff, Nat.reduceLT, Nat.reduceDiv, Nat.reduceMod, Int.reduceLE, Int.reduceLT, Int.reduceEq, Int.reduceNeg, Int.reduceAdd, Int.reduceSub, Int.reduceToNat, Nat.reducePow, Int.ofNat_zero, Int.natCast_one, Int.cast_ofNat_Int] at h14'
    repeat' (first
    | exact True.intro
    | refine VW.seq ?_
    | refine VW.block ?_
    | ((first | refine VW.skip ?_ | refine VW.exit ?_ | refine VW.reg ?_ | refine VW.regD ?_ | refine VW.ret ?_ | show goA _ _ _ _ _ _ _ _ _ _ | show goB _ _ _ _ _ _ _ _ _ | show goAD _ _ _ _ _ _ _ _ _ _ _ _ _ _ | show goBD _ _ _ _ _ _ _ _ _ _ _ | refine VC.p2 (h14' _) rfl rfl rfl rfl ?_ | refine VC.p1 (h16 _ _ _) rfl rfl ?_); refine sx ?_)
    | refine VW.condT cx ?_
    | refine VW.condF cx ?_
    | refine VW.cond ex ?_ ?_
    | refine imp_nt ?_
    | refine imp_nf ?_
    | refine imp_dt (fun _ => ?_)
    | refine imp_df (fun _ => ?_)
    | (refine fun (_ : _ = true) => ?_)
    | (refine fun (_ : _ = false) => ?_)
    | refine vg_t ?_ ?_
    | refine vg_f ?_ ?_)
    all_goals refine .tmprE (ex) (ex) (by rfl) ?_
    all_goals simp_all [minusF, sps, isp]
    all_goals repeat' split
    all_goals simp_all [isp]
    all_goals omega

theorem w49 (x : Int) (b : Nat) : VW P c49 (PRet (Ends [.tmp 2] b (.bool false) mt)) (fun t => [PV.int .i64 x][t]?) mt b := by
  unfold c49
  repeat' (first
    | exact True.intro
    | refine VW.seq ?_
    | refine VW.block ?_
    | ((first | refine VW.skip ?_ | refine VW.exit ?_ | refine VW.reg ?_ | refine VW.regD ?_ | refine VW.ret ?_ | show goA _ _ _ _ _ _ _ _ _ _ | show goB _ _ _ _ _ _ _ _ _ | show goAD _ _ _ _ _ _ _ _ _ _ _ _ _ _ | show goBD _ _ _ _ _ _ _ _ _ _ _); refine sx ?_)
    | refine VW.condT cx ?_
    | refine VW.condF cx ?_
    | refine VW.cond ex ?_ ?_
    | refine imp_nt ?_
    | refine imp_nf ?_
    | refine imp_dt (fun _ => ?_)
    | refine imp_df (fun _ => ?_)
    | (refine fun (_ : _ = true) => ?_)
    | (refine fun (_ : _ = false) => ?_)
    | refine vg_t ?_ ?_
    | refine vg_f ?_ ?_)
  all_goals refine .v (by simp -implicitDefEqProofs only [resF, resL, RX.ev, tup1, purT, eng, reduceIte, reduceCtorEq, Nat.reduceAdd, Nat.reduceMul, Nat.reduceSub, Nat.reduceEqDiff, Nat.reduceLeDiff, Nat.reduceLT, Nat.reduceDiv, Nat.reduceMod, Int.reduceLE, Int.reduceLT, Int.reduceEq, Int.reduceNeg, Int.reduceAdd, Int.reduceSub, Int.reduceToNat, Nat.reducePow, Int.ofNat_zero, Int.natCast_one, Int.cast_ofNat_Int, *] <;> rfl) (by simp -implicitDefEqProofs only [resF, resL, RX.ev, tup1, purT, eng, reduceIte, reduceCtorEq, Nat.reduceAdd, Nat.reduceMul, Nat.reduceSub, Nat.reduceEqDiff, Nat.reduceLeDiff, Nat.reduceLT, Nat.reduceDiv, Nat.reduceMod, Int.reduceLE, Int.reduceLT, Int.reduceEq, Int.reduceNeg, Int.reduceAdd, Int.reduceSub, Int.reduceToNat, Nat.reducePow, Int.ofNat_zero, Int.natCast_one, Int.cast_ofNat_Int, *])

theorem w45 (h49 : ∀ x b, V P 49 [.int .i64 x] mt b (.bool false) mt) (x y : Int) (b : Nat) : VW P c45 (PRet (Ends [.tmp 4] b (.int .i64 (cmpI x y)) mt)) (fun t => [PV.int .i64 x, PV.int .i64 y][t]?) mt b := by
  unfold c45
  repeat' (first
    | exact True.intro
    | refine VW.seq ?_
    | refine VW.block ?_
    | ((first | refine VW.skip ?_ | refine VW.exit ?_ | refine VW.reg ?_ | refine VW.regD ?_ | refine VW.ret ?_ | show goA _ _ _ _ _ _ _ _ _ _ | show goB _ _ _ _ _ _ _ _ _ | show goAD _ _ _ _ _ _ _ _ _ _ _ _ _ _ | show goBD _ _ _ _ _ _ _ _ _ _ _ | refine VC.p1 (h49 _ _) rfl rfl ?_); refine sx ?_)
    | refine VW.condT cx ?_
    | refine VW.condF cx ?_
    | refine VW.cond ex ?_ ?_
    | refine imp_nt ?_
    | refine imp_nf ?_
    | refine imp_dt (fun _ => ?_)
    | refine imp_df (fun _ => ?_)
    | (refine fun (_ : _ = true) => ?_)
    | (refine fun (_ : _ = false) => ?_)
    | refine vg_t ?_ ?_
    | refine vg_f ?_ ?_)
  all_goals refine .v (by simp -implicitDefEqProofs only [resF, resL, RX.ev, tup1, purT, eng, reduceIte, reduceCtorEq, Nat.reduceAdd, Nat.reduceMul, Nat.reduceSub, Nat.reduceEqDiff, Nat.reduceLeDiff, Nat.reduceLT, Nat.reduceDiv, Nat.reduceMod, Int.reduceLE, Int.reduceLT, Int.reduceEq, Int.reduceNeg, Int.reduceAdd, Int.reduceSub, Int.reduceToNat, Nat.reducePow, Int.ofNat_zero, Int.natCast_one, Int.cast_ofNat_Int, *] <;> rfl) (by simp -implicitDefEqProofs only [resF, resL, RX.ev, tup1, purT, cmpI, eng, reduceIte, reduceCtorEq, Nat.reduceAdd, Nat.reduceMul, Nat.reduceSub, Nat.reduceEqDiff, Nat.reduceLeDiff, Nat.reduceLT, Nat.reduceDiv, Nat.reduceMod, Int.reduceLE, Int.reduceLT, Int.reduceEq, Int.reduceNeg, Int.reduceAdd, Int.reduceSub, Int.reduceToNat, Nat.reducePow, Int.ofNat_zero, Int.natCast_one, Int.cast_ofNat_Int, *])

theorem w10 (l : List Sp) (b : Nat) : VW P c10 (PRet (Ends [.tmp 2] b (.sl (sps (l.take 30))) mt)) (fun t => [PV.sl (sps l)][t]?) mt b := by
  unfold c10
  have hl : (sps l).length = l.length := sps_len
  by_cases h : (30 : Int) < l.length
  · have h' : 30 ≤ l.length := by omega
    have h30 : (30 : Int).toNat = 30 := rfl
    repeat' (first
    | exact True.intro
    | refine VW.seq ?_
    | refine VW.block ?_
    | ((first | refine VW.skip ?_ | refine VW.exit ?_ | refine VW.reg ?_ | refine VW.regD ?_ | refine VW.ret ?_ | show goA _ _ _ _ _ _ _ _ _ _ | show goB _ _ _ _ _ _ _ _ _ | show goAD _ _ _ _ _ _ _ _ _ _ _ _ _ _ | show goBD _ _ _ _ _ _ _ _ _ _ _); refine sx ?_)
    | refine VW.condT cx ?_
    | refine VW.condF cx ?_
    | refine VW.cond ex ?_ ?_
    | refine imp_nt ?_
    | refine imp_nf ?_
    | refine imp_dt (fun _ => ?_)
    | refine imp_df (fun _ => ?_)
    | (refine fun (_ : _ = true) => ?_)
    | (refine fun (_ : _ = false) => ?_)
    | refine vg_t ?_ ?_
    | refine vg_f ?_ ?_)
    exact .tmpsE (ex) (by rw [sps_take])
  · have h' : l.take 30 = l := List.take_of_length_le (by omega)
    repeat' (first
    | exact True.intro
    | refine VW.seq ?_
    | refine VW.block ?_
    | ((first | refine VW.skip ?_ | refine VW.exit ?_ | refine VW.reg ?_ | refine VW.regD ?_ | refine VW.ret ?_ | show goA _ _ _ _ _ _ _ _ _ _ | show goB _ _ _ _ _ _ _ _ _ | show goAD _ _ _ _ _ _ _ _ _ _ _ _ _ _ | show goBD _ _ _ _ _ _ _ _ _ _ _); refine sx ?_)
    | refine VW.condT cx ?_
    | refine VW.condF cx ?_
    | refine VW.cond ex ?_ ?_
    | refine imp_nt ?_
    | refine imp_nf ?_
    | refine imp_dt (fun _ => ?_)
    | refine imp_df (fun _ => ?_)
    | (refine fun (_ : _ = true) => ?_)
    | (refine fun (_ : _ = false) => ?_)
    | refine vg_t ?_ ?_
    | refine vg_f ?_ ?_)
    exact .tmpsE (ex) (by rfl)
end
end Go.Vx
/- Walks of the functions about spans that have a loop. -/
set_option linter.unusedSimpArgs false
set_option linter.unusedVariables false
namespace Go.Vx
open Go Go.Proofs

def ints (l : List Int) : List (List PV) := l.map fun z => [.int .i64 z]
theorem ints_len {l : List Int} : (ints l).length = l.length := by simp [ints]
theorem ints_get {l : List Int} {i : Nat} : (ints l)[i]? = (l[i]?).map fun z => [.int .i64 z] := by simp [ints]
def orF : List Int → Int
  | [] => 0
  | z :: zs => if z = 0 then orF zs else z
def cmpS (s t : Sp) : Int := orF [cmpI s.1 t.1, cmpI s.2 t.2]
def rightS (s : Sp) : Bool := rightB s.1 s.2
def leS (s t : Sp) : Bool := !(Go.Proofs.ltOf cmpS) t s
def sortF (l : List Sp) : List Sp := (l.filter rightS).mergeSort leS

theorem get_of {α : Type} {l : List α} {i : Nat} (h : i < l.length) : ∃ x, l[i]? = some x := ⟨l[i], by simp [h]⟩
theorem i64_nat {n : Nat} (h : n < 9223372036854775807) : IntKind.i64.wrap ((n : Int) + 1) = ((n + 1 : Nat) : Int) := by rw [IntWalk.i64_in _ (by omega)]; rfl

section
variable {P : Program}

def J44 (zs : List Int) (i : Nat) (e : Env) (m : Mem) (nx : Nat) : Prop :=
  e 6 = some (.sl (ints zs)) ∧ e 7 = some (.int .i64 zs.length) ∧ e 8 = some (.int .i64 i) ∧ e 3 = some (.int .i64 0) ∧ orF (zs.drop i) = orF zs

theorem w44 (zs : List Int) (b : Nat) : VW P c44 (PRet (Ends [.tmp 2] b (.int .i64 (orF zs)) mt)) (fun t => [PV.sl (ints zs)][t]?) mt b := by
  unfold c44
  refine VW.slen (t := 0) rfl fun hlen => ?_
  have hl := ints_len (l := zs)
  rw [hl] at hlen
  refine VW.seq (VW.reg ?_); simp -implicitDefEqProofs only [eng, reduceIte, reduceCtorEq, Nat.reduceAdd, Nat.reduceMul, Nat.reduceSub, Nat.reduceEqDiff, Nat.reduceLeDiff, Nat.reduceLT, Nat.reduceDiv, Nat.reduceMod, Int.reduceLE, Int.reduceLT, Int.reduceEq, Int.reduceNeg, Int.reduceAdd, Int.reduceSub, Int.reduceToNat, Nat.reducePow, Int.ofNat_zero, Int.natCast_one, Int.cast_ofNat_Int, *]
  refine VW.seq (VW.reg ?_); simp -implicitDefEqProofs only [eng, reduceIte, reduceCtorEq, Nat.reduceAdd, Nat.reduceMul, Nat.reduceSub, Nat.reduceEqDiff, Nat.reduceLeDiff, Nat.reduceLT, Nat.reduceDiv, Nat.reduceMod, Int.reduceLE, Int.reduceLT, Int.reduceEq, Int.reduceNeg, Int.reduceAdd, Int.reduceSub, Int.reduceToNat, Nat.reducePow, Int.ofNat_zero, Int.natCast_one, Int.cast_ofNat_Int, *]
  refine VW.seq (VW.seq (VW.reg ?_)); simp -implicitDefEqProofs only [eng, reduceIte, reduceCtorEq, Nat.reduceAdd, Nat.reduceMul, Nat.reduceSub, Nat.reduceEqDiff, Nat.reduceLeDiff, Nat.reduceLT, Nat.reduceDiv, Nat.reduceMod, Int.reduceLE, Int.reduceLT, Int.reduceEq, Int.reduceNeg, Int.reduceAdd, Int.reduceSub, Int.reduceToNat, Nat.reducePow, Int.ofNat_zero, Int.natCast_one, Int.cast_ofNat_Int, *]
  refine VW.block (VW.forN zs.length (J44 zs) 0 (Nat.zero_le _) ⟨cy, cy, ey, cy, rfl⟩ ?_)
  clear hl
  rintro i e m nx hi ⟨h6, h7, h8, h3, ho⟩
  by_cases hin : i < zs.length
  · have hin' : (i : Int) < zs.length := by omega
    obtain ⟨z, hz⟩ := get_of hin
    have hz' : (ints zs)[i]? = some [.int .i64 z] := by rw [ints_get, hz]; rfl
    have h00 : (0 : Int) ≤ i := by omega
    have htn : (i : Int).toNat = i := Int.toNat_natCast i
    have hdr : zs.drop i = z :: zs.drop (i + 1) := by rw [← List.getElem_cons_drop hin]; congr 1; simpa [hin] using hz
    have hw := i64_nat (n := i) (by unfold maxLen at hlen; omega)
    by_cases hz0 : z = 0
    · repeat' (first
    | exact True.intro
    | refine VW.seq ?_
    | refine VW.block ?_
    | ((first | refine VW.skip ?_ | refine VW.exit ?_ | refine VW.reg ?_ | refine VW.regD ?_ | refine VW.ret ?_ | show goA _ _ _ _ _ _ _ _ _ _ | show goB _ _ _ _ _ _ _ _ _ | show goAD _ _ _ _ _ _ _ _ _ _ _ _ _ _ | show goBD _ _ _ _ _ _ _ _ _ _ _); refine sx ?_)
    | refine VW.condT cx ?_
    | refine VW.condF cx ?_
    | refine VW.cond ex ?_ ?_
    | refine imp_nt ?_
    | refine imp_nf ?_
    | refine imp_dt (fun _ => ?_)
    | refine imp_df (fun _ => ?_)
    | (refine fun (_ : _ = true) => ?_)
    | (refine fun (_ : _ = false) => ?_)
    | refine vg_t ?_ ?_
    | refine vg_f ?_ ?_)
      exact ⟨cx, cx, cx, cx, by rw [← ho, hdr]; simp [orF, hz0]⟩
    · repeat' (first
    | exact True.intro
    | refine VW.seq ?_
    | refine VW.block ?_
    | ((first | refine VW.skip ?_ | refine VW.exit ?_ | refine VW.reg ?_ | refine VW.regD ?_ | refine VW.ret ?_ | show goA _ _ _ _ _ _ _ _ _ _ | show goB _ _ _ _ _ _ _ _ _ | show goAD _ _ _ _ _ _ _ _ _ _ _ _ _ _ | show goBD _ _ _ _ _ _ _ _ _ _ _); refine sx ?_)
    | refine VW.condT cx ?_
    | refine VW.condF cx ?_
    | refine VW.cond ex ?_ ?_
    | refine imp_nt ?_
    | refine imp_nf ?_
    | refine imp_dt (fun _ => ?_)
    | refine imp_df (fun _ => ?_)
    | (refine fun (_ : _ = true) => ?_)
    | (refine fun (_ : _ = false) => ?_)
    | refine vg_t ?_ ?_
    | refine vg_f ?_ ?_)
      exact .tmp1 (by simp -implicitDefEqProofs only [eng, reduceIte, reduceCtorEq, Nat.reduceAdd, Nat.reduceMul, Nat.reduceSub, Nat.reduceEqDiff, Nat.reduceLeDiff, Nat.reduceLT, Nat.reduceDiv, Nat.reduceMod, Int.reduceLE, Int.reduceLT, Int.reduceEq, Int.reduceNeg, Int.reduceAdd, Int.reduceSub, Int.reduceToNat, Nat.reducePow, Int.ofNat_zero, Int.natCast_one, Int.cast_ofNat_Int, *] ; rw [← ho, hdr]; simp [orF, hz0]) rfl
  · have hin' : ¬ (i : Int) < zs.length := by omega
    have hdr : zs.drop i = [] := List.drop_of_length_le (by omega)
    repeat' (first
    | exact True.intro
    | refine VW.seq ?_
    | refine VW.block ?_
    | ((first | refine VW.skip ?_ | refine VW.exit ?_ | refine VW.reg ?_ | refine VW.regD ?_ | refine VW.ret ?_ | show goA _ _ _ _ _ _ _ _ _ _ | show goB _ _ _ _ _ _ _ _ _ | show goAD _ _ _ _ _ _ _ _ _ _ _ _ _ _ | show goBD _ _ _ _ _ _ _ _ _ _ _); refine sx ?_)
    | refine VW.condT cx ?_
    | refine VW.condF cx ?_
    | refine VW.cond ex ?_ ?_
    | refine imp_nt ?_
    | refine imp_nf ?_
    | refine imp_dt (fun _ => ?_)
    | refine imp_df (fun _ => ?_)
    | (refine fun (_ : _ = true) => ?_)
    | (refine fun (_ : _ = false) => ?_)
    | refine vg_t ?_ ?_
    | refine vg_f ?_ ?_)
    exact .tmp1 (by simp -implicitDefEqProofs only [eng, reduceIte, reduceCtorEq, Nat.reduceAdd, Nat.reduceMul, Nat.reduceSub, Nat.reduceEqDiff, Nat.reduceLeDiff, Nat.reduceLT, Nat.reduceDiv, Nat.reduceMod, Int.reduceLE, Int.reduceLT, Int.reduceEq, Int.reduceNeg, Int.reduceAdd, Int.reduceSub, Int.reduceToNat, Nat.reducePow, Int.ofNat_zero, Int.natCast_one, Int.cast_ofNat_Int, *] ; rw [← ho, hdr]; rfl) rfl

theorem w43 (h45 : ∀ x y b, V P 45 [.int .i64 x, .int .i64 y] mt b (.int .i64 (cmpI x y)) mt) (h44 : ∀ zs b, V P 44 [.sl (ints zs)] mt b (.int .i64 (orF zs)) mt) (s t : Sp) (b : Nat) :
    VW P c43 (PRet (Ends [.tmp 4] b (.int .i64 (cmpS s t)) mt)) (fun i => [PV.agg (isp s), PV.agg (isp t)][i]?) mt b := by
  unfold c43 isp
  repeat' (first
    | exact True.intro
    | refine VW.seq ?_
    | refine VW.block ?_
    | ((first | refine VW.skip ?_ | refine VW.exit ?_ | refine VW.reg ?_ | refine VW.regD ?_ | refine VW.ret ?_ | show goA _ _ _ _ _ _ _ _ _ _ | show goB _ _ _ _ _ _ _ _ _ | show goAD _ _ _ _ _ _ _ _ _ _ _ _ _ _ | show goBD _ _ _ _ _ _ _ _ _ _ _ | refine VC.p2 (h45 _ _ _) rfl rfl rfl rfl ?_); refine sx ?_)
    | refine VW.condT cx ?_
    | refine VW.condF cx ?_
    | refine VW.cond ex ?_ ?_
    | refine imp_nt ?_
    | refine imp_nf ?_
    | refine imp_dt (fun _ => ?_)
    | refine imp_df (fun _ => ?_)
    | (refine fun (_ : _ = true) => ?_)
    | (refine fun (_ : _ = false) => ?_)
    | refine vg_t ?_ ?_
    | refine vg_f ?_ ?_)
  refine VC.o1 rfl (ex) (ex) (h44 [cmpI s.1 t.1, cmpI s.2 t.2] _) (by rfl) rfl ?_
  refine sx ?_
  repeat' (first
    | exact True.intro
    | refine VW.seq ?_
    | refine VW.block ?_
    | ((first | refine VW.skip ?_ | refine VW.exit ?_ | refine VW.reg ?_ | refine VW.regD ?_ | refine VW.ret ?_ | show goA _ _ _ _ _ _ _ _ _ _ | show goB _ _ _ _ _ _ _ _ _ | show goAD _ _ _ _ _ _ _ _ _ _ _ _ _ _ | show goBD _ _ _ _ _ _ _ _ _ _ _); refine sx ?_)
    | refine VW.condT cx ?_
    | refine VW.condF cx ?_
    | refine VW.cond ex ?_ ?_
    | refine imp_nt ?_
    | refine imp_nf ?_
    | refine imp_dt (fun _ => ?_)
    | refine imp_df (fun _ => ?_)
    | (refine fun (_ : _ = true) => ?_)
    | (refine fun (_ : _ = false) => ?_)
    | refine vg_t ?_ ?_
    | refine vg_f ?_ ?_)
  exact .tmp1 (ex) rfl

def J37 (l : List Sp) (i : Nat) (e : Env) (m : Mem) (nx : Nat) : Prop :=
  e 6 = some (.sl (sps l)) ∧ e 7 = some (.int .i64 l.length) ∧ e 8 = some (.int .i64 i) ∧ ∃ id, e 3 = some (.osl id ((l.take i).filter rightS).length) ∧ m id = some (.row 2 (sps ((l.take i).filter rightS)) 26 false)

theorem w37 (h16 : ∀ x y b, V P 16 [asp x y] mt b (.bool (rightB x y)) mt)
    (h42 : ∀ xs : List Sp, xs.length < 4611686018427387904 → ∀ id b, id < b → V P 42 [.osl id xs.length, .fn 43 []] (upd mt id (some (.row 2 (sps xs) 26 false))) b (.tup []) (upd mt id (some (.row 2 (sps (xs.mergeSort leS)) 26 false))))
    (l : List Sp) (hN : l.length < 4294967296) (b : Nat) : VW P c37 (PRet (Ends [.tmp 2] b (.sl (sps (sortF l))) mt)) (fun i => [PV.sl (sps l)][i]?) mt b := by
  unfold c37
  have hl := sps_len (l := l)
  refine VW.seq (VW.reg ?_); simp -implicitDefEqProofs only [eng, reduceIte, reduceCtorEq, Nat.reduceAdd, Nat.reduceMul, Nat.reduceSub, Nat.reduceEqDiff, Nat.reduceLeDiff, Nat.reduceLT, Nat.reduceDiv, Nat.reduceMod, Int.reduceLE, Int.reduceLT, Int.reduceEq, Int.reduceNeg, Int.reduceAdd, Int.reduceSub, Int.reduceToNat, Nat.reducePow, Int.ofNat_zero, Int.natCast_one, Int.cast_ofNat_Int, *]
  refine VW.seq (VW.reg ?_); simp -implicitDefEqProofs only [eng, reduceIte, reduceCtorEq, Nat.reduceAdd, Nat.reduceMul, Nat.reduceSub, Nat.reduceEqDiff, Nat.reduceLeDiff, Nat.reduceLT, Nat.reduceDiv, Nat.reduceMod, Int.reduceLE, Int.reduceLT, Int.reduceEq, Int.reduceNeg, Int.reduceAdd, Int.reduceSub, Int.reduceToNat, Nat.reducePow, Int.ofNat_zero, Int.natCast_one, Int.cast_ofNat_Int, *]
  refine VW.seq (VW.seq (VW.reg ?_)); simp -implicitDefEqProofs only [eng, reduceIte, reduceCtorEq, Nat.reduceAdd, Nat.reduceMul, Nat.reduceSub, Nat.reduceEqDiff, Nat.reduceLeDiff, Nat.reduceLT, Nat.reduceDiv, Nat.reduceMod, Int.reduceLE, Int.reduceLT, Int.reduceEq, Int.reduceNeg, Int.reduceAdd, Int.reduceSub, Int.reduceToNat, Nat.reducePow, Int.ofNat_zero, Int.natCast_one, Int.cast_ofNat_Int, *]
  refine VW.block (VW.forN l.length (J37 l) 0 (Nat.zero_le _) ⟨cy, cy, ey, b + 8, ey, ey⟩ ?_)
  clear hl
  rintro i e m nx hi ⟨h6, h7, h8, id, h3, hm⟩
  refine VW.below hm fun hlt => ?_
  obtain ⟨n1, n2, n3, n4, n5⟩ := below_ne hlt
  by_cases hin : i < l.length
  · have hin' : (i : Int) < l.length := by omega
    obtain ⟨s, hs⟩ := get_of hin
    have hs' : (sps l)[i]? = some [.int .i64 s.1, .int .i64 s.2] := by rw [sps_get, hs]; rfl
    have h00 : (0 : Int) ≤ i := by omega
    have htn : (i : Int).toNat = i := Int.toNat_natCast i
    have hw := i64_nat (n := i) (by omega)
    have hle : ((l.take i).filter rightS).length ≤ l.length := Nat.le_trans (List.length_filter_le _ _) (by simp; omega)
    cases hr : rightB s.1 s.2
    · repeat' (first
    | exact True.intro
    | refine VW.seq ?_
    | refine VW.block ?_
    | ((first | refine VW.skip ?_ | refine VW.exit ?_ | refine VW.reg ?_ | refine VW.regD ?_ | refine VW.ret ?_ | show goA _ _ _ _ _ _ _ _ _ _ | show goB _ _ _ _ _ _ _ _ _ | show goAD _ _ _ _ _ _ _ _ _ _ _ _ _ _ | show goBD _ _ _ _ _ _ _ _ _ _ _ | refine VC.p1 (h16 _ _ _) rfl rfl ?_); refine sx ?_)
    | refine VW.condT cx ?_
    | refine VW.condF cx ?_
    | refine VW.cond ex ?_ ?_
    | refine imp_nt ?_
    | refine imp_nf ?_
    | refine imp_dt (fun _ => ?_)
    | refine imp_df (fun _ => ?_)
    | (refine fun (_ : _ = true) => ?_)
    | (refine fun (_ : _ = false) => ?_)
    | refine vg_t ?_ ?_
    | refine vg_f ?_ ?_)
      have hf : (l.take (i + 1)).filter rightS = (l.take i).filter rightS := by rw [List.take_add_one, hs]; simp [rightS, hr]
      exact ⟨cx, cx, cx, id, cx, cx⟩
    · have hf : (l.take (i + 1)).filter rightS = (l.take i).filter rightS ++ [s] := by rw [List.take_add_one, hs]; simp [rightS, hr]
      have hfl : (((l.take i).filter rightS).length + 1) * 16 ≤ 140737488355328 := by omega
      have hsl := sps_len (l := (l.take i).filter rightS)
      repeat' (first
    | exact True.intro
    | refine VW.seq ?_
    | refine VW.block ?_
    | ((first | refine VW.skip ?_ | refine VW.exit ?_ | refine VW.reg ?_ | refine VW.regD ?_ | refine VW.ret ?_ | show goA _ _ _ _ _ _ _ _ _ _ | show goB _ _ _ _ _ _ _ _ _ | show goAD _ _ _ _ _ _ _ _ _ _ _ _ _ _ | show goBD _ _ _ _ _ _ _ _ _ _ _ | refine VC.p1 (h16 _ _ _) rfl rfl ?_); refine sx ?_)
    | refine VW.condT cx ?_
    | refine VW.condF cx ?_
    | refine VW.cond ex ?_ ?_
    | refine imp_nt ?_
    | refine imp_nf ?_
    | refine imp_dt (fun _ => ?_)
    | refine imp_df (fun _ => ?_)
    | (refine fun (_ : _ = true) => ?_)
    | (refine fun (_ : _ = false) => ?_)
    | refine vg_t ?_ ?_
    | refine vg_f ?_ ?_)
      exact ⟨cx, cx, cx, nx + 80, by simp -implicitDefEqProofs only [eng, reduceIte, reduceCtorEq, Nat.reduceAdd, Nat.reduceMul, Nat.reduceSub, Nat.reduceEqDiff, Nat.reduceLeDiff, Nat.reduceLT, Nat.reduceDiv, Nat.reduceMod, Int.reduceLE, Int.reduceLT, Int.reduceEq, Int.reduceNeg, Int.reduceAdd, Int.reduceSub, Int.reduceToNat, Nat.reducePow, Int.ofNat_zero, Int.natCast_one, Int.cast_ofNat_Int, *] ; simp, by simp -implicitDefEqProofs only [eng, reduceIte, reduceCtorEq, Nat.reduceAdd, Nat.reduceMul, Nat.reduceSub, Nat.reduceEqDiff, Nat.reduceLeDiff, Nat.reduceLT, Nat.reduceDiv, Nat.reduceMod, Int.reduceLE, Int.reduceLT, Int.reduceEq, Int.reduceNeg, Int.reduceAdd, Int.reduceSub, Int.reduceToNat, Nat.reducePow, Int.ofNat_zero, Int.natCast_one, Int.cast_ofNat_Int, *] ; simp [sps, isp]⟩
  · have hin' : ¬ (i : Int) < l.length := by omega
    have hdr : l.take i = l := List.take_of_length_le (by omega)
    rw [hdr] at h3 hm
    repeat' (first
    | exact True.intro
    | refine VW.seq ?_
    | refine VW.block ?_
    | ((first | refine VW.skip ?_ | refine VW.exit ?_ | refine VW.reg ?_ | refine VW.regD ?_ | refine VW.ret ?_ | show goA _ _ _ _ _ _ _ _ _ _ | show goB _ _ _ _ _ _ _ _ _ | show goAD _ _ _ _ _ _ _ _ _ _ _ _ _ _ | show goBD _ _ _ _ _ _ _ _ _ _ _); refine sx ?_)
    | refine VW.condT cx ?_
    | refine VW.condF cx ?_
    | refine VW.cond ex ?_ ?_
    | refine imp_nt ?_
    | refine imp_nf ?_
    | refine imp_dt (fun _ => ?_)
    | refine imp_df (fun _ => ?_)
    | (refine fun (_ : _ = true) => ?_)
    | (refine fun (_ : _ = false) => ?_)
    | refine vg_t ?_ ?_
    | refine vg_f ?_ ?_)
    refine VC.own rfl [.osl id (l.filter rightS).length, .fn 43 []] id _ _ _ ⟨.inl ⟨rfl, by simp -implicitDefEqProofs only [PV.lt, lt1, eng, reduceIte, reduceCtorEq, Nat.reduceAdd, Nat.reduceMul, Nat.reduceSub, Nat.reduceEqDiff, Nat.reduceLeDiff, Nat.reduceLT, Nat.reduceDiv, Nat.reduceMod, Int.reduceLE, Int.reduceLT, Int.reduceEq, Int.reduceNeg, Int.reduceAdd, Int.reduceSub, Int.reduceToNat, Nat.reducePow, Int.ofNat_zero, Int.natCast_one, Int.cast_ofNat_Int, *]⟩, .inl ⟨rfl, rfl⟩, trivial⟩ (cx) (by omega) rfl (h42 _ (Nat.lt_of_le_of_lt (List.length_filter_le _ _) (by omega)) id _ (by omega)) ?_
    refine sx ?_
    repeat' (first
    | exact True.intro
    | refine VW.seq ?_
    | refine VW.block ?_
    | ((first | refine VW.skip ?_ | refine VW.exit ?_ | refine VW.reg ?_ | refine VW.regD ?_ | refine VW.ret ?_ | show goA _ _ _ _ _ _ _ _ _ _ | show goB _ _ _ _ _ _ _ _ _ | show goAD _ _ _ _ _ _ _ _ _ _ _ _ _ _ | show goBD _ _ _ _ _ _ _ _ _ _ _); refine sx ?_)
    | refine VW.condT cx ?_
    | refine VW.condF cx ?_
    | refine VW.cond ex ?_ ?_
    | refine imp_nt ?_
    | refine imp_nf ?_
    | refine imp_dt (fun _ => ?_)
    | refine imp_df (fun _ => ?_)
    | (refine fun (_ : _ = true) => ?_)
    | (refine fun (_ : _ = false) => ?_)
    | refine vg_t ?_ ?_
    | refine vg_f ?_ ?_)
    exact .tmprE (ex) (ex) (by simp [sps, sortF]) rfl

/-- Join's fold: the spans so far, the last one first. -/
def stepJ (acc : List Sp) (s : Sp) : List Sp :=
  match acc with
  | [] => [s]
  | t :: r => if t.2 < s.1 then s :: t :: r else (t.1, max t.2 s.2) :: r
def joinF (l : List Sp) : List Sp := ((sortF l).foldl stepJ []).reverse

def J11 (xs : List Sp) (i : Nat) (e : Env) (m : Mem) (nx : Nat) : Prop :=
  e 8 = some (.sl (sps xs)) ∧ e 9 = some (.int .i64 xs.length) ∧ e 10 = some (.int .i64 i) ∧ ((xs.take i).foldl stepJ []).length ≤ i ∧
    ∃ id, e 3 = some (.osl id ((xs.take i).foldl stepJ []).length) ∧ m id = some (.row 2 (sps ((xs.take i).foldl stepJ []).reverse) 26 false)

theorem sortF_len {l : List Sp} : (sortF l).length ≤ l.length := by simp only [sortF, List.length_mergeSort]; exact List.length_filter_le _ _

theorem sps_set {t : Sp} {r : List Sp} {x y : Int} : (sps (r.reverse ++ [t])).set r.length [.int .i64 x, .int .i64 y] = sps (r.reverse ++ [(x, y)]) := by
  simp [sps, isp, List.set_append]

theorem w11 (h37 : ∀ l : List Sp, l.length < 4294967296 → ∀ b, V P 37 [.sl (sps l)] mt b (.sl (sps (sortF l))) mt) (l : List Sp) (hN : l.length < 4294967296) (b : Nat) :
    VW P c11 (PRet (Ends [.tmp 2] b (.sl (sps (joinF l))) mt)) (fun i => [PV.sl (sps l)][i]?) mt b := by
  unfold c11
  have h37' := h37 l hN
  have hl := sps_len (l := sortF l)
  have hxl := sortF_len (l := l)
  refine VW.seq (VW.reg ?_); simp -implicitDefEqProofs only [eng, reduceIte, reduceCtorEq, Nat.reduceAdd, Nat.reduceMul, Nat.reduceSub, Nat.reduceEqDiff, Nat.reduceLeDiff, Nat.reduceLT, Nat.reduceDiv, Nat.reduceMod, Int.reduceLE, Int.reduceLT, Int.reduceEq, Int.reduceNeg, Int.reduceAdd, Int.reduceSub, Int.reduceToNat, Nat.reducePow, Int.ofNat_zero, Int.natCast_one, Int.cast_ofNat_Int, *]
  refine VW.seq (VW.reg ?_); simp -implicitDefEqProofs only [eng, reduceIte, reduceCtorEq, Nat.reduceAdd, Nat.reduceMul, Nat.reduceSub, Nat.reduceEqDiff, Nat.reduceLeDiff, Nat.reduceLT, Nat.reduceDiv, Nat.reduceMod, Int.reduceLE, Int.reduceLT, Int.reduceEq, Int.reduceNeg, Int.reduceAdd, Int.reduceSub, Int.reduceToNat, Nat.reducePow, Int.ofNat_zero, Int.natCast_one, Int.cast_ofNat_Int, *]
  refine VW.seq (VW.seq (VW.reg ?_)); simp -implicitDefEqProofs only [eng, reduceIte, reduceCtorEq, Nat.reduceAdd, Nat.reduceMul, Nat.reduceSub, Nat.reduceEqDiff, Nat.reduceLeDiff, Nat.reduceLT, Nat.reduceDiv, Nat.reduceMod, Int.reduceLE, Int.reduceLT, Int.reduceEq, Int.reduceNeg, Int.reduceAdd, Int.reduceSub, Int.reduceToNat, Nat.reducePow, Int.ofNat_zero, Int.natCast_one, Int.cast_ofNat_Int, *]
  refine VC.p1 (h37' _) rfl rfl ?_
  refine sx ?_
  unfold joinF
  generalize sortF l = xs at *
  refine VW.block (VW.forN xs.length (J11 xs) 0 (Nat.zero_le _) ⟨cy, cy, ey, by simp, b + 8, ey, ey⟩ ?_)
  clear hl h37'
  rintro i e m nx hi ⟨h8, h9, h10, hlen, id, h3, hm⟩
  refine VW.below hm fun hlt => ?_
  obtain ⟨n1, n2, n3, n4, n5⟩ := below_ne hlt
  by_cases hin : i < xs.length
  · have hin' : (i : Int) < xs.length := by omega
    obtain ⟨s, hs⟩ := get_of hin
    have hs' : (sps xs)[i]? = some [.int .i64 s.1, .int .i64 s.2] := by rw [sps_get, hs]; rfl
    have h00 : (0 : Int) ≤ i := by omega
    have htn : (i : Int).toNat = i := Int.toNat_natCast i
    have hw := i64_nat (n := i) (by omega)
    have hf : (xs.take (i + 1)).foldl stepJ [] = stepJ ((xs.take i).foldl stepJ []) s := by rw [List.take_add_one, hs]; simp
    have hfl : (((xs.take i).foldl stepJ []).length + 1) * 16 ≤ 140737488355328 := by omega
    generalize hacc : (xs.take i).foldl stepJ [] = acc at *
    have hsl := sps_len (l := acc.reverse)
    have hsl2 : acc.reverse.length = acc.length := List.length_reverse
    cases acc with
    | nil =>
      have hlw : IntKind.i64.wrap (((0 : Nat) : Int) - 1) = -1 := rfl
      have hlw2 : IntKind.i64.wrap (-1) = -1 := rfl
      repeat' (first
    | exact True.intro
    | refine VW.seq ?_
    | refine VW.block ?_
    | ((first | refine VW.skip ?_ | refine VW.exit ?_ | refine VW.reg ?_ | refine VW.regD ?_ | refine VW.ret ?_ | show goA _ _ _ _ _ _ _ _ _ _ | show goB _ _ _ _ _ _ _ _ _ | show goAD _ _ _ _ _ _ _ _ _ _ _ _ _ _ | show goBD _ _ _ _ _ _ _ _ _ _ _); refine sx ?_)
    | refine VW.condT cx ?_
    | refine VW.condF cx ?_
    | refine VW.cond ex ?_ ?_
    | refine imp_nt ?_
    | refine imp_nf ?_
    | refine imp_dt (fun _ => ?_)
    | refine imp_df (fun _ => ?_)
    | (refine fun (_ : _ = true) => ?_)
    | (refine fun (_ : _ = false) => ?_)
    | refine vg_t ?_ ?_
    | refine vg_f ?_ ?_)
      exact ⟨cx, cx, cx, by rw [hf]; simp [stepJ], nx + 192, by simp -implicitDefEqProofs only [eng, reduceIte, reduceCtorEq, Nat.reduceAdd, Nat.reduceMul, Nat.reduceSub, Nat.reduceEqDiff, Nat.reduceLeDiff, Nat.reduceLT, Nat.reduceDiv, Nat.reduceMod, Int.reduceLE, Int.reduceLT, Int.reduceEq, Int.reduceNeg, Int.reduceAdd, Int.reduceSub, Int.reduceToNat, Nat.reducePow, Int.ofNat_zero, Int.natCast_one, Int.cast_ofNat_Int, *, stepJ], by simp -implicitDefEqProofs only [eng, reduceIte, reduceCtorEq, Nat.reduceAdd, Nat.reduceMul, Nat.reduceSub, Nat.reduceEqDiff, Nat.reduceLeDiff, Nat.reduceLT, Nat.reduceDiv, Nat.reduceMod, Int.reduceLE, Int.reduceLT, Int.reduceEq, Int.reduceNeg, Int.reduceAdd, Int.reduceSub, Int.reduceToNat, Nat.reducePow, Int.ofNat_zero, Int.natCast_one, Int.cast_ofNat_Int, *] ; simp [stepJ, sps, isp]⟩
    | cons t r =>
      have hlw : IntKind.i64.wrap (((r.length + 1 : Nat) : Int) - 1) = (r.length : Int) := by rw [IntWalk.i64_in _ (by simp at hlen; omega)]; omega
      have hsl3 : (sps (t :: r).reverse).length = r.length + 1 := by rw [sps_len]; simp
      have hs2 : (sps (t :: r).reverse)[r.length]? = some [.int .i64 t.1, .int .i64 t.2] := by rw [sps_get]; simp [isp]
      have r00 : (0 : Int) ≤ r.length := by omega
      have r01 : ¬ (r.length : Int) < 0 := by omega
      have rtn : (r.length : Int).toNat = r.length := Int.toNat_natCast _
      have hfl2 : (r.length + 1 + 1) * 16 ≤ 140737488355328 := by simpa using hfl
      clear hsl hsl2 hfl
      by_cases hts : t.2 < s.1
      · repeat' (first
    | exact True.intro
    | refine VW.seq ?_
    | refine VW.block ?_
    | ((first | refine VW.skip ?_ | refine VW.exit ?_ | refine VW.reg ?_ | refine VW.regD ?_ | refine VW.ret ?_ | show goA _ _ _ _ _ _ _ _ _ _ | show goB _ _ _ _ _ _ _ _ _ | show goAD _ _ _ _ _ _ _ _ _ _ _ _ _ _ | show goBD _ _ _ _ _ _ _ _ _ _ _); refine sx ?_)
    | refine VW.condT cx ?_
    | refine VW.condF cx ?_
    | refine VW.cond ex ?_ ?_
    | refine imp_nt ?_
    | refine imp_nf ?_
    | refine imp_dt (fun _ => ?_)
    | refine imp_df (fun _ => ?_)
    | (refine fun (_ : _ = true) => ?_)
    | (refine fun (_ : _ = false) => ?_)
    | refine vg_t ?_ ?_
    | refine vg_f ?_ ?_)
        exact ⟨cx, cx, cx, by rw [hf]; simp at hlen ⊢; simp [stepJ, hts]; omega, nx + 192, by simp -implicitDefEqProofs only [eng, reduceIte, reduceCtorEq, Nat.reduceAdd, Nat.reduceMul, Nat.reduceSub, Nat.reduceEqDiff, Nat.reduceLeDiff, Nat.reduceLT, Nat.reduceDiv, Nat.reduceMod, Int.reduceLE, Int.reduceLT, Int.reduceEq, Int.reduceNeg, Int.reduceAdd, Int.reduceSub, Int.reduceToNat, Nat.reducePow, Int.ofNat_zero, Int.natCast_one, Int.cast_ofNat_Int, *, stepJ], by simp -implicitDefEqProofs only [eng, reduceIte, reduceCtorEq, Nat.reduceAdd, Nat.reduceMul, Nat.reduceSub, Nat.reduceEqDiff, Nat.reduceLeDiff, Nat.reduceLT, Nat.reduceDiv, Nat.reduceMod, Int.reduceLE, Int.reduceLT, Int.reduceEq, Int.reduceNeg, Int.reduceAdd, Int.reduceSub, Int.reduceToNat, Nat.reducePow, Int.ofNat_zero, Int.natCast_one, Int.cast_ofNat_Int, *] ; simp [stepJ, sps, isp, hts]⟩
      · repeat' (first
    | exact True.intro
    | refine VW.seq ?_
    | refine VW.block ?_
    | ((first | refine VW.skip ?_ | refine VW.exit ?_ | refine VW.reg ?_ | refine VW.regD ?_ | refine VW.ret ?_ | show goA _ _ _ _ _ _ _ _ _ _ | show goB _ _ _ _ _ _ _ _ _ | show goAD _ _ _ _ _ _ _ _ _ _ _ _ _ _ | show goBD _ _ _ _ _ _ _ _ _ _ _); refine sx ?_)
    | refine VW.condT cx ?_
    | refine VW.condF cx ?_
    | refine VW.cond ex ?_ ?_
    | refine imp_nt ?_
    | refine imp_nf ?_
    | refine imp_dt (fun _ => ?_)
    | refine imp_df (fun _ => ?_)
    | (refine fun (_ : _ = true) => ?_)
    | (refine fun (_ : _ = false) => ?_)
    | refine vg_t ?_ ?_
    | refine vg_f ?_ ?_)
        exact ⟨cx, cx, cx, by rw [hf]; simp at hlen ⊢; simp [stepJ, hts]; omega, id, by simp -implicitDefEqProofs only [eng, reduceIte, reduceCtorEq, Nat.reduceAdd, Nat.reduceMul, Nat.reduceSub, Nat.reduceEqDiff, Nat.reduceLeDiff, Nat.reduceLT, Nat.reduceDiv, Nat.reduceMod, Int.reduceLE, Int.reduceLT, Int.reduceEq, Int.reduceNeg, Int.reduceAdd, Int.reduceSub, Int.reduceToNat, Nat.reducePow, Int.ofNat_zero, Int.natCast_one, Int.cast_ofNat_Int, *] ; simp [stepJ, hts], by simp -implicitDefEqProofs only [eng, reduceIte, reduceCtorEq, Nat.reduceAdd, Nat.reduceMul, Nat.reduceSub, Nat.reduceEqDiff, Nat.reduceLeDiff, Nat.reduceLT, Nat.reduceDiv, Nat.reduceMod, Int.reduceLE, Int.reduceLT, Int.reduceEq, Int.reduceNeg, Int.reduceAdd, Int.reduceSub, Int.reduceToNat, Nat.reducePow, Int.ofNat_zero, Int.natCast_one, Int.cast_ofNat_Int, *] ; simp [stepJ, hts, sps_set]⟩
  · have hin' : ¬ (i : Int) < xs.length := by omega
    have hdr : xs.take i = xs := List.take_of_length_le (by omega)
    rw [hdr] at h3 hm
    repeat' (first
    | exact True.intro
    | refine VW.seq ?_
    | refine VW.block ?_
    | ((first | refine VW.skip ?_ | refine VW.exit ?_ | refine VW.reg ?_ | refine VW.regD ?_ | refine VW.ret ?_ | show goA _ _ _ _ _ _ _ _ _ _ | show goB _ _ _ _ _ _ _ _ _ | show goAD _ _ _ _ _ _ _ _ _ _ _ _ _ _ | show goBD _ _ _ _ _ _ _ _ _ _ _); refine sx ?_)
    | refine VW.condT cx ?_
    | refine VW.condF cx ?_
    | refine VW.cond ex ?_ ?_
    | refine imp_nt ?_
    | refine imp_nf ?_
    | refine imp_dt (fun _ => ?_)
    | refine imp_df (fun _ => ?_)
    | (refine fun (_ : _ = true) => ?_)
    | (refine fun (_ : _ = false) => ?_)
    | refine vg_t ?_ ?_
    | refine vg_f ?_ ?_)
    exact .tmprE (ex) (ex) (by simp [sps]) rfl

abbrev w64 (n : Int) : Int := IntKind.i64.wrap n
def sumF (l : List Sp) : Int := l.foldl (fun n s => w64 (n + w64 (s.2 - s.1))) 0
def J27 (xs : List Sp) (i : Nat) (e : Env) (m : Mem) (nx : Nat) : Prop :=
  e 7 = some (.sl (sps xs)) ∧ e 8 = some (.int .i64 xs.length) ∧ e 9 = some (.int .i64 i) ∧ e 3 = some (.int .i64 (sumF (xs.take i)))

theorem w27 (h11 : ∀ l : List Sp, l.length < 4294967296 → ∀ b, V P 11 [.sl (sps l)] mt b (.sl (sps (joinF l))) mt) (l : List Sp) (hN : l.length < 4294967296) (hj : (joinF l).length ≤ l.length) (b : Nat) :
    VW P c27 (PRet (Ends [.tmp 2] b (.int .i64 (sumF (joinF l))) mt)) (fun i => [PV.sl (sps l)][i]?) mt b := by
  unfold c27
  have h11' := h11 l hN
  have hl := sps_len (l := joinF l)
  refine VW.seq (VW.reg ?_); simp -implicitDefEqProofs only [eng, reduceIte, reduceCtorEq, Nat.reduceAdd, Nat.reduceMul, Nat.reduceSub, Nat.reduceEqDiff, Nat.reduceLeDiff, Nat.reduceLT, Nat.reduceDiv, Nat.reduceMod, Int.reduceLE, Int.reduceLT, Int.reduceEq, Int.reduceNeg, Int.reduceAdd, Int.reduceSub, Int.reduceToNat, Nat.reducePow, Int.ofNat_zero, Int.natCast_one, Int.cast_ofNat_Int, *]
  refine VW.seq (VW.reg ?_); simp -implicitDefEqProofs only [eng, reduceIte, reduceCtorEq, Nat.reduceAdd, Nat.reduceMul, Nat.reduceSub, Nat.reduceEqDiff, Nat.reduceLeDiff, Nat.reduceLT, Nat.reduceDiv, Nat.reduceMod, Int.reduceLE, Int.reduceLT, Int.reduceEq, Int.reduceNeg, Int.reduceAdd, Int.reduceSub, Int.reduceToNat, Nat.reducePow, Int.ofNat_zero, Int.natCast_one, Int.cast_ofNat_Int, *]
  refine VW.seq (VW.seq (VW.reg ?_)); simp -implicitDefEqProofs only [eng, reduceIte, reduceCtorEq, Nat.reduceAdd, Nat.reduceMul, Nat.reduceSub, Nat.reduceEqDiff, Nat.reduceLeDiff, Nat.reduceLT, Nat.reduceDiv, Nat.reduceMod, Int.reduceLE, Int.reduceLT, Int.reduceEq, Int.reduceNeg, Int.reduceAdd, Int.reduceSub, Int.reduceToNat, Nat.reducePow, Int.ofNat_zero, Int.natCast_one, Int.cast_ofNat_Int, *]
  refine VC.p1 (h11' _) rfl rfl ?_
  refine sx ?_
  generalize joinF l = xs at *
  refine VW.block (VW.forN xs.length (J27 xs) 0 (Nat.zero_le _) ⟨cy, cy, ey, ey⟩ ?_)
  clear hl h11'
  rintro i e m nx hi ⟨h7, h8, h9, h3⟩
  by_cases hin : i < xs.length
  · have hin' : (i : Int) < xs.length := by omega
    obtain ⟨s, hs⟩ := get_of hin
    have hs' : (sps xs)[i]? = some [.int .i64 s.1, .int .i64 s.2] := by rw [sps_get, hs]; rfl
    have h00 : (0 : Int) ≤ i := by omega
    have htn : (i : Int).toNat = i := Int.toNat_natCast i
    have hw := i64_nat (n := i) (by omega)
    have hf : sumF (xs.take (i + 1)) = w64 (sumF (xs.take i) + w64 (s.2 - s.1)) := by rw [List.take_add_one, hs]; simp [sumF]
    repeat' (first
    | exact True.intro
    | refine VW.seq ?_
    | refine VW.block ?_
    | ((first | refine VW.skip ?_ | refine VW.exit ?_ | refine VW.reg ?_ | refine VW.regD ?_ | refine VW.ret ?_ | show goA _ _ _ _ _ _ _ _ _ _ | show goB _ _ _ _ _ _ _ _ _ | show goAD _ _ _ _ _ _ _ _ _ _ _ _ _ _ | show goBD _ _ _ _ _ _ _ _ _ _ _); refine sx ?_)
    | refine VW.condT cx ?_
    | refine VW.condF cx ?_
    | refine VW.cond ex ?_ ?_
    | refine imp_nt ?_
    | refine imp_nf ?_
    | refine imp_dt (fun _ => ?_)
    | refine imp_df (fun _ => ?_)
    | (refine fun (_ : _ = true) => ?_)
    | (refine fun (_ : _ = false) => ?_)
    | refine vg_t ?_ ?_
    | refine vg_f ?_ ?_)
    exact ⟨cx, cx, cx, cx⟩
  · have hin' : ¬ (i : Int) < xs.length := by omega
    have hdr : xs.take i = xs := List.take_of_length_le (by omega)
    rw [hdr] at h3
    repeat' (first
    | exact True.intro
    | refine VW.seq ?_
    | refine VW.block ?_
    | ((first | refine VW.skip ?_ | refine VW.exit ?_ | refine VW.reg ?_ | refine VW.regD ?_ | refine VW.ret ?_ | show goA _ _ _ _ _ _ _ _ _ _ | show goB _ _ _ _ _ _ _ _ _ | show goAD _ _ _ _ _ _ _ _ _ _ _ _ _ _ | show goBD _ _ _ _ _ _ _ _ _ _ _); refine sx ?_)
    | refine VW.condT cx ?_
    | refine VW.condF cx ?_
    | refine VW.cond ex ?_ ?_
    | refine imp_nt ?_
    | refine imp_nf ?_
    | refine imp_dt (fun _ => ?_)
    | refine imp_df (fun _ => ?_)
    | (refine fun (_ : _ = true) => ?_)
    | (refine fun (_ : _ = false) => ?_)
    | refine vg_t ?_ ?_
    | refine vg_f ?_ ?_)
    exact .tmp1 (cx) rfl

/-- Gaps' fold: where it stands, and the gaps so far, the last one first. -/
def stepG (x y : Int) (st : Int × List Sp) (s : Sp) : Int × List Sp :=
  if overB s.1 s.2 x y then (min s.2 y, if st.1 < max s.1 x then (st.1, max s.1 x) :: st.2 else st.2) else st
def foldG (l : List Sp) (x y : Int) : Int × List Sp := l.foldl (stepG x y) (x, [])
def endG (y : Int) (st : Int × List Sp) : List Sp := if st.1 < y then (st.1, y) :: st.2 else st.2
def gapsF (l : List Sp) (x y : Int) : List Sp := if rightB x y then (endG y (foldG (joinF l) x y)).reverse else []

theorem foldG_len {l : List Sp} {x y : Int} : (foldG l x y).2.length ≤ l.length := by
  have : ∀ (l : List Sp) (st : Int × List Sp), (l.foldl (stepG x y) st).2.length ≤ st.2.length + l.length := by
    intro l
    induction l with
    | nil => intro st; simp
    | cons s l ih =>
      intro st
      have h1 := ih (stepG x y st s)
      have h2 : (stepG x y st s).2.length ≤ st.2.length + 1 := by unfold stepG; split <;> (try split) <;> simp
      simp only [List.foldl_cons, List.length_cons] at *
      omega
  have := this l (x, [])
  simpa [foldG] using this

def J25 (xs : List Sp) (x y : Int) (i : Nat) (e : Env) (m : Mem) (nx : Nat) : Prop :=
  e 17 = some (.sl (sps xs)) ∧ e 18 = some (.int .i64 xs.length) ∧ e 19 = some (.int .i64 i) ∧ e 6 = some (.int .i64 (foldG (xs.take i) x y).1) ∧
    (∃ id, e 5 = some (.osl id (foldG (xs.take i) x y).2.length) ∧ m id = some (.row 2 (sps (foldG (xs.take i) x y).2.reverse) 26 false)) ∧
    ∃ j, e 3 = some (.ptr j 2 0 0) ∧ m j = some (.box [.int .i64 x, .int .i64 y] 26)

theorem w25 (h16 : ∀ x y b, V P 16 [asp x y] mt b (.bool (rightB x y)) mt) (h14 : ∀ x y u v b, V P 14 [asp x y, asp u v] mt b (bothF x y u v) mt) (h11 : ∀ l : List Sp, l.length < 4294967296 → ∀ b, V P 11 [.sl (sps l)] mt b (.sl (sps (joinF l))) mt)
    (l : List Sp) (hN : l.length < 4294967296) (hj : (joinF l).length ≤ l.length) (x y : Int) (b : Nat) :
    VW P c25 (PRet (Ends [.tmp 4] b (.sl (sps (gapsF l x y))) mt)) (fun i => [PV.sl (sps l), asp x y][i]?) mt b := by
  unfold c25 gapsF
  cases hr : rightB x y
  · repeat' (first
    | exact True.intro
    | refine VW.seq ?_
    | refine VW.block ?_
    | ((first | refine VW.skip ?_ | refine VW.exit ?_ | refine VW.reg ?_ | refine VW.regD ?_ | refine VW.ret ?_ | show goA _ _ _ _ _ _ _ _ _ _ | show goB _ _ _ _ _ _ _ _ _ | show goAD _ _ _ _ _ _ _ _ _ _ _ _ _ _ | show goBD _ _ _ _ _ _ _ _ _ _ _ | refine VC.p1 (h16 _ _ _) rfl rfl ?_); refine sx ?_)
    | refine VW.condT cx ?_
    | refine VW.condF cx ?_
    | refine VW.cond ex ?_ ?_
    | refine imp_nt ?_
    | refine imp_nf ?_
    | refine imp_dt (fun _ => ?_)
    | refine imp_df (fun _ => ?_)
    | (refine fun (_ : _ = true) => ?_)
    | (refine fun (_ : _ = false) => ?_)
    | refine vg_t ?_ ?_
    | refine vg_f ?_ ?_)
    exact .tmprE (ex) (ex) (by rfl) rfl
  have h11' := h11 l hN
  have hl := sps_len (l := joinF l)
  repeat' (first
    | exact True.intro
    | refine VW.seq ?_
    | refine VW.block ?_
    | ((first | refine VW.skip ?_ | refine VW.exit ?_ | refine VW.reg ?_ | refine VW.regD ?_ | refine VW.ret ?_ | show goA _ _ _ _ _ _ _ _ _ _ | show goB _ _ _ _ _ _ _ _ _ | show goAD _ _ _ _ _ _ _ _ _ _ _ _ _ _ | show goBD _ _ _ _ _ _ _ _ _ _ _ | refine VC.p1 (h16 _ _ _) rfl rfl ?_ | refine VC.p1 (h11' _) rfl rfl ?_); refine sx ?_)
    | refine VW.condT cx ?_
    | refine VW.condF cx ?_
    | refine VW.cond ex ?_ ?_
    | refine imp_nt ?_
    | refine imp_nf ?_
    | refine imp_dt (fun _ => ?_)
    | refine imp_df (fun _ => ?_)
    | (refine fun (_ : _ = true) => ?_)
    | (refine fun (_ : _ = false) => ?_)
    | refine vg_t ?_ ?_
    | refine vg_f ?_ ?_)
  generalize joinF l = xs at *
  refine VW.forN xs.length (J25 xs x y) 0 (Nat.zero_le _) ⟨cy, cy, ey, ey, ⟨_, ey, ey⟩, ⟨_, ey, ey⟩⟩ ?_
  clear hl h11'
  rintro i e m nx hi ⟨h17, h18, h19, h6, ⟨id, h5, hm⟩, ⟨j, h3, hmj⟩⟩
  refine VW.below hm fun hlt => ?_
  refine VW.below hmj fun hlt2 => ?_
  obtain ⟨n1, n2, n3, n4, n5⟩ := below_ne hlt
  obtain ⟨n1', n2', n3', n4', n5'⟩ := below_ne hlt2
  have hij : (id = j) = False := by simp; rintro rfl; rw [hm] at hmj; cases hmj
  have hji : (j = id) = False := by simp; rintro rfl; rw [hm] at hmj; cases hmj
  by_cases hin : i < xs.length
  · have hin' : (i : Int) < xs.length := by omega
    obtain ⟨s, hs⟩ := get_of hin
    have hs' : (sps xs)[i]? = some [.int .i64 s.1, .int .i64 s.2] := by rw [sps_get, hs]; rfl
    have h00 : (0 : Int) ≤ i := by omega
    have htn : (i : Int).toNat = i := Int.toNat_natCast i
    have hw := i64_nat (n := i) (by omega)
    have hf : foldG (xs.take (i + 1)) x y = stepG x y (foldG (xs.take i) x y) s := by rw [List.take_add_one, hs]; simp [foldG]
    have hlen := foldG_len (l := xs.take i) (x := x) (y := y)
    rw [List.length_take] at hlen
    have hfl : ((foldG (xs.take i) x y).2.length + 1) * 16 ≤ 140737488355328 := by omega
    have hsl : (sps (foldG (xs.take i) x y).2.reverse).length = (foldG (xs.take i) x y).2.length := by rw [sps_len, List.length_reverse]
    generalize foldG (xs.take i) x y = st at *
    have h14' := h14 s.1 s.2 x y
    unfold bothF at h14'
    cases ho : overB s.1 s.2 x y
    · simp -implicitDefEqProofs only [ho, eng, reduceIte, reduceCtorEq, Nat.reduceAdd, Nat.reduceMul, Nat.reduceSub, Nat.reduceEqDiff, Nat.reduceLeDiff, Nat.reduceLT, Nat.reduceDiv, Nat.reduceMod, Int.reduceLE, Int.reduceLT, Int.reduceEq, Int.reduceNeg, Int.reduceAdd, Int.reduceSub, Int.reduceToNat, Nat.reducePow, Int.ofNat_zero, Int.natCast_one, Int.cast_ofNat_Int] at h14'
      repeat' (first
    | exact True.intro
    | refine VW.seq ?_
    | refine VW.block ?_
    | ((first | refine VW.skip ?_ | refine VW.exit ?_ | refine VW.reg ?_ | refine VW.regD ?_ | refine VW.ret ?_ | show goA _ _ _ _ _ _ _ _ _ _ | show goB _ _ _ _ _ _ _ _ _ | show goAD _ _ _ _ _ _ _ _ _ _ _ _ _ _ | show goBD _ _ _ _ _ _ _ _ _ _ _ | refine VC.p2 (h14' _) rfl rfl rfl rfl ?_); refine sx ?_)
    | refine VW.condT cx ?_
    | refine VW.condF cx ?_
    | refine VW.cond ex ?_ ?_
    | refine imp_nt ?_
    | refine imp_nf ?_
    | refine imp_dt (fun _ => ?_)
    | refine imp_df (fun _ => ?_)
    | (refine fun (_ : _ = true) => ?_)
    | (refine fun (_ : _ = false) => ?_)
    | refine vg_t ?_ ?_
    | refine vg_f ?_ ?_)
      exact ⟨cx, cx, cx, by simp -implicitDefEqProofs only [eng, reduceIte, reduceCtorEq, Nat.reduceAdd, Nat.reduceMul, Nat.reduceSub, Nat.reduceEqDiff, Nat.reduceLeDiff, Nat.reduceLT, Nat.reduceDiv, Nat.reduceMod, Int.reduceLE, Int.reduceLT, Int.reduceEq, Int.reduceNeg, Int.reduceAdd, Int.reduceSub, Int.reduceToNat, Nat.reducePow, Int.ofNat_zero, Int.natCast_one, Int.cast_ofNat_Int, *, stepG], ⟨id, by simp -implicitDefEqProofs only [eng, reduceIte, reduceCtorEq, Nat.reduceAdd, Nat.reduceMul, Nat.reduceSub, Nat.reduceEqDiff, Nat.reduceLeDiff, Nat.reduceLT, Nat.reduceDiv, Nat.reduceMod, Int.reduceLE, Int.reduceLT, Int.reduceEq, Int.reduceNeg, Int.reduceAdd, Int.reduceSub, Int.reduceToNat, Nat.reducePow, Int.ofNat_zero, Int.natCast_one, Int.cast_ofNat_Int, *, stepG], by simp -implicitDefEqProofs only [eng, reduceIte, reduceCtorEq, Nat.reduceAdd, Nat.reduceMul, Nat.reduceSub, Nat.reduceEqDiff, Nat.reduceLeDiff, Nat.reduceLT, Nat.reduceDiv, Nat.reduceMod, Int.reduceLE, Int.reduceLT, Int.reduceEq, Int.reduceNeg, Int.reduceAdd, Int.reduceSub, Int.reduceToNat, Nat.reducePow, Int.ofNat_zero, Int.natCast_one, Int.cast_ofNat_Int, *, stepG]⟩, ⟨j, cx, cx⟩⟩
    · simp -implicitDefEqProofs only [ho, eng, reduceIte, reduceCtorEq, Nat.reduceAdd, Nat.reduceMul, Nat.reduceSub, Nat.reduceEqDiff, Nat.reduceLeDiff, Nat.reduceLT, Nat.reduceDiv, Nat.reduceMod, Int.reduceLE, Int.reduceLT, Int.reduceEq, Int.reduceNeg, Int.reduceAdd, Int.reduceSub, Int.reduceToNat, Nat.reducePow, Int.ofNat_zero, Int.natCast_one, Int.cast_ofNat_Int] at h14'
      by_cases hlt3 : st.1 < max s.1 x
      · repeat' (first
    | exact True.intro
    | refine VW.seq ?_
    | refine VW.block ?_
    | ((first | refine VW.skip ?_ | refine VW.exit ?_ | refine VW.reg ?_ | refine VW.regD ?_ | refine VW.ret ?_ | show goA _ _ _ _ _ _ _ _ _ _ | show goB _ _ _ _ _ _ _ _ _ | show goAD _ _ _ _ _ _ _ _ _ _ _ _ _ _ | show goBD _ _ _ _ _ _ _ _ _ _ _ | refine VC.p2 (h14' _) rfl rfl rfl rfl ?_); refine sx ?_)
    | refine VW.condT cx ?_
    | refine VW.condF cx ?_
    | refine VW.cond ex ?_ ?_
    | refine imp_nt ?_
    | refine imp_nf ?_
    | refine imp_dt (fun _ => ?_)
    | refine imp_df (fun _ => ?_)
    | (refine fun (_ : _ = true) => ?_)
    | (refine fun (_ : _ = false) => ?_)
    | refine vg_t ?_ ?_
    | refine vg_f ?_ ?_)
        exact ⟨cx, cx, cx, by simp -implicitDefEqProofs only [eng, reduceIte, reduceCtorEq, Nat.reduceAdd, Nat.reduceMul, Nat.reduceSub, Nat.reduceEqDiff, Nat.reduceLeDiff, Nat.reduceLT, Nat.reduceDiv, Nat.reduceMod, Int.reduceLE, Int.reduceLT, Int.reduceEq, Int.reduceNeg, Int.reduceAdd, Int.reduceSub, Int.reduceToNat, Nat.reducePow, Int.ofNat_zero, Int.natCast_one, Int.cast_ofNat_Int, *, stepG], ⟨_, by simp -implicitDefEqProofs only [eng, reduceIte, reduceCtorEq, Nat.reduceAdd, Nat.reduceMul, Nat.reduceSub, Nat.reduceEqDiff, Nat.reduceLeDiff, Nat.reduceLT, Nat.reduceDiv, Nat.reduceMod, Int.reduceLE, Int.reduceLT, Int.reduceEq, Int.reduceNeg, Int.reduceAdd, Int.reduceSub, Int.reduceToNat, Nat.reducePow, Int.ofNat_zero, Int.natCast_one, Int.cast_ofNat_Int, *, stepG] <;> rfl, by simp -implicitDefEqProofs only [eng, reduceIte, reduceCtorEq, Nat.reduceAdd, Nat.reduceMul, Nat.reduceSub, Nat.reduceEqDiff, Nat.reduceLeDiff, Nat.reduceLT, Nat.reduceDiv, Nat.reduceMod, Int.reduceLE, Int.reduceLT, Int.reduceEq, Int.reduceNeg, Int.reduceAdd, Int.reduceSub, Int.reduceToNat, Nat.reducePow, Int.ofNat_zero, Int.natCast_one, Int.cast_ofNat_Int, *, stepG]; simp [sps, isp]⟩, ⟨j, cx, cx⟩⟩
      · repeat' (first
    | exact True.intro
    | refine VW.seq ?_
    | refine VW.block ?_
    | ((first | refine VW.skip ?_ | refine VW.exit ?_ | refine VW.reg ?_ | refine VW.regD ?_ | refine VW.ret ?_ | show goA _ _ _ _ _ _ _ _ _ _ | show goB _ _ _ _ _ _ _ _ _ | show goAD _ _ _ _ _ _ _ _ _ _ _ _ _ _ | show goBD _ _ _ _ _ _ _ _ _ _ _ | refine VC.p2 (h14' _) rfl rfl rfl rfl ?_); refine sx ?_)
    | refine VW.condT cx ?_
    | refine VW.condF cx ?_
    | refine VW.cond ex ?_ ?_
    | refine imp_nt ?_
    | refine imp_nf ?_
    | refine imp_dt (fun _ => ?_)
    | refine imp_df (fun _ => ?_)
    | (refine fun (_ : _ = true) => ?_)
    | (refine fun (_ : _ = false) => ?_)
    | refine vg_t ?_ ?_
    | refine vg_f ?_ ?_)
        exact ⟨cx, cx, cx, by simp -implicitDefEqProofs only [eng, reduceIte, reduceCtorEq, Nat.reduceAdd, Nat.reduceMul, Nat.reduceSub, Nat.reduceEqDiff, Nat.reduceLeDiff, Nat.reduceLT, Nat.reduceDiv, Nat.reduceMod, Int.reduceLE, Int.reduceLT, Int.reduceEq, Int.reduceNeg, Int.reduceAdd, Int.reduceSub, Int.reduceToNat, Nat.reducePow, Int.ofNat_zero, Int.natCast_one, Int.cast_ofNat_Int, *, stepG], ⟨id, by simp -implicitDefEqProofs only [eng, reduceIte, reduceCtorEq, Nat.reduceAdd, Nat.reduceMul, Nat.reduceSub, Nat.reduceEqDiff, Nat.reduceLeDiff, Nat.reduceLT, Nat.reduceDiv, Nat.reduceMod, Int.reduceLE, Int.reduceLT, Int.reduceEq, Int.reduceNeg, Int.reduceAdd, Int.reduceSub, Int.reduceToNat, Nat.reducePow, Int.ofNat_zero, Int.natCast_one, Int.cast_ofNat_Int, *, stepG], by simp -implicitDefEqProofs only [eng, reduceIte, reduceCtorEq, Nat.reduceAdd, Nat.reduceMul, Nat.reduceSub, Nat.reduceEqDiff, Nat.reduceLeDiff, Nat.reduceLT, Nat.reduceDiv, Nat.reduceMod, Int.reduceLE, Int.reduceLT, Int.reduceEq, Int.reduceNeg, Int.reduceAdd, Int.reduceSub, Int.reduceToNat, Nat.reducePow, Int.ofNat_zero, Int.natCast_one, Int.cast_ofNat_Int, *, stepG]⟩, ⟨j, cx, cx⟩⟩
  · have hin' : ¬ (i : Int) < xs.length := by omega
    have hdr : xs.take i = xs := List.take_of_length_le (by omega)
    rw [hdr] at h6 hm h5
    have hlen := foldG_len (l := xs) (x := x) (y := y)
    generalize foldG xs x y = st at *
    have hfl : (st.2.length + 1) * 16 ≤ 140737488355328 := by omega
    have hsl : (sps st.2.reverse).length = st.2.length := by rw [sps_len, List.length_reverse]
    by_cases hlt3 : st.1 < y
    · repeat' (first
    | exact True.intro
    | refine VW.seq ?_
    | refine VW.block ?_
    | ((first | refine VW.skip ?_ | refine VW.exit ?_ | refine VW.reg ?_ | refine VW.regD ?_ | refine VW.ret ?_ | show goA _ _ _ _ _ _ _ _ _ _ | show goB _ _ _ _ _ _ _ _ _ | show goAD _ _ _ _ _ _ _ _ _ _ _ _ _ _ | show goBD _ _ _ _ _ _ _ _ _ _ _); refine sx ?_)
    | refine VW.condT cx ?_
    | refine VW.condF cx ?_
    | refine VW.cond ex ?_ ?_
    | refine imp_nt ?_
    | refine imp_nf ?_
    | refine imp_dt (fun _ => ?_)
    | refine imp_df (fun _ => ?_)
    | (refine fun (_ : _ = true) => ?_)
    | (refine fun (_ : _ = false) => ?_)
    | refine vg_t ?_ ?_
    | refine vg_f ?_ ?_)
      exact .tmprE (ex) (ex) (by simp [sps]) (by simp [endG, hlt3, sps, isp])
    · repeat' (first
    | exact True.intro
    | refine VW.seq ?_
    | refine VW.block ?_
    | ((first | refine VW.skip ?_ | refine VW.exit ?_ | refine VW.reg ?_ | refine VW.regD ?_ | refine VW.ret ?_ | show goA _ _ _ _ _ _ _ _ _ _ | show goB _ _ _ _ _ _ _ _ _ | show goAD _ _ _ _ _ _ _ _ _ _ _ _ _ _ | show goBD _ _ _ _ _ _ _ _ _ _ _); refine sx ?_)
    | refine VW.condT cx ?_
    | refine VW.condF cx ?_
    | refine VW.cond ex ?_ ?_
    | refine imp_nt ?_
    | refine imp_nf ?_
    | refine imp_dt (fun _ => ?_)
    | refine imp_df (fun _ => ?_)
    | (refine fun (_ : _ = true) => ?_)
    | (refine fun (_ : _ = false) => ?_)
    | refine vg_t ?_ ?_
    | refine vg_f ?_ ?_)
      exact .tmprE (ex) (ex) (by simp [sps]) (by simp [endG, hlt3, sps, isp])

theorem w26 (h16 : ∀ x y b, V P 16 [asp x y] mt b (.bool (rightB x y)) mt) (l : List Sp) (x y : Int) (h25 : ∀ b, V P 25 [.sl (sps l), asp x y] mt b (.sl (sps (gapsF l x y))) mt) (b : Nat) :
    VW P c26 (PRet (Ends [.tmp 4] b (.bool (rightB x y && decide (gapsF l x y = []))) mt)) (fun i => [PV.sl (sps l), asp x y][i]?) mt b := by
  unfold c26
  have hl := sps_len (l := gapsF l x y)
  by_cases hg : gapsF l x y = []
  · rw [hg] at hl h25
    have hz : ((0 : Nat) : Int) = 0 := rfl
    repeat' (first
    | exact True.intro
    | refine VW.seq ?_
    | refine VW.block ?_
    | ((first | refine VW.skip ?_ | refine VW.exit ?_ | refine VW.reg ?_ | refine VW.regD ?_ | refine VW.ret ?_ | show goA _ _ _ _ _ _ _ _ _ _ | show goB _ _ _ _ _ _ _ _ _ | show goAD _ _ _ _ _ _ _ _ _ _ _ _ _ _ | show goBD _ _ _ _ _ _ _ _ _ _ _ | refine VC.p1 (h16 _ _ _) rfl rfl ?_ | refine VC.p2 (h25 _) rfl rfl rfl rfl ?_); refine sx ?_)
    | refine VW.condT cx ?_
    | refine VW.condF cx ?_
    | refine VW.cond ex ?_ ?_
    | refine imp_nt ?_
    | refine imp_nf ?_
    | refine imp_dt (fun _ => ?_)
    | refine imp_df (fun _ => ?_)
    | (refine fun (_ : _ = true) => ?_)
    | (refine fun (_ : _ = false) => ?_)
    | refine vg_t ?_ ?_
    | refine vg_f ?_ ?_)
    all_goals exact .tmp1 (cx) rfl
  · have hg' : ¬ ((gapsF l x y).length : Int) = 0 := by
      intro h
      exact hg (List.eq_nil_of_length_eq_zero (by omega))
    repeat' (first
    | exact True.intro
    | refine VW.seq ?_
    | refine VW.block ?_
    | ((first | refine VW.skip ?_ | refine VW.exit ?_ | refine VW.reg ?_ | refine VW.regD ?_ | refine VW.ret ?_ | show goA _ _ _ _ _ _ _ _ _ _ | show goB _ _ _ _ _ _ _ _ _ | show goAD _ _ _ _ _ _ _ _ _ _ _ _ _ _ | show goBD _ _ _ _ _ _ _ _ _ _ _ | refine VC.p1 (h16 _ _ _) rfl rfl ?_ | refine VC.p2 (h25 _) rfl rfl rfl rfl ?_); refine sx ?_)
    | refine VW.condT cx ?_
    | refine VW.condF cx ?_
    | refine VW.cond ex ?_ ?_
    | refine imp_nt ?_
    | refine imp_nf ?_
    | refine imp_dt (fun _ => ?_)
    | refine imp_df (fun _ => ?_)
    | (refine fun (_ : _ = true) => ?_)
    | (refine fun (_ : _ = false) => ?_)
    | refine vg_t ?_ ?_
    | refine vg_f ?_ ?_)
    all_goals exact .tmp1 (cx) rfl

/-- What live asks is so. -/
theorem w12 (h16 : ∀ x y b, V P 16 [asp x y] mt b (.bool (rightB x y)) mt) (h22 : ∀ x y u v b, V P 22 [asp x y, asp u v] mt b (.bool (meetB x y u v)) mt) (h24 : ∀ x y u v b, V P 24 [asp x y, asp u v] mt b (.sl (sps (minusF x y u v))) mt)
    (h11 : ∀ b, V P 11 [.sl (sps [(3, 5), (0, 3), (7, 8)])] mt b (.sl (sps [(0, 5), (7, 8)])) mt) (h27 : ∀ b, V P 27 [.sl (sps [(0, 5), (7, 8)])] mt b (.int .i64 6) mt) (b : Nat) : VW P c12 (PRet (Ends [.tmp 0] b (.bool true) mt)) (fun i => ([] : List PV)[i]?) mt b := by
  unfold c12
  have h24' := h24 0 10 3 5
  rw [show minusF 0 10 3 5 = [(0, 3), (5, 10)] from by decide] at h24'
  have h22' := h22 0 3 3 4
  rw [show meetB 0 3 3 4 = true from by decide] at h22'
  have h16' := h16 4 4
  rw [show rightB 4 4 = false from by decide] at h16'
  have t1 : (1 : Int).toNat = 1 := rfl
  have t0 : (0 : Int).toNat = 0 := rfl
  have z2 : ((2 : Nat) : Int) = 2 := rfl
  simp -implicitDefEqProofs only [sps, isp, eng, reduceIte, reduceCtorEq, Nat.reduceAdd, Nat.reduceMul, Nat.reduceSub, Nat.reduceEqDiff, Nat.reduceLeDiff, Nat.reduceLT, Nat.reduceDiv, Nat.reduceMod, Int.reduceLE, Int.reduceLT, Int.reduceEq, Int.reduceNeg, Int.reduceAdd, Int.reduceSub, Int.reduceToNat, Nat.reducePow, Int.ofNat_zero, Int.natCast_one, Int.cast_ofNat_Int] at h24'
  simp -implicitDefEqProofs only [sps, isp, eng, reduceIte, reduceCtorEq, Nat.reduceAdd, Nat.reduceMul, Nat.reduceSub, Nat.reduceEqDiff, Nat.reduceLeDiff, Nat.reduceLT, Nat.reduceDiv, Nat.reduceMod, Int.reduceLE, Int.reduceLT, Int.reduceEq, Int.reduceNeg, Int.reduceAdd, Int.reduceSub, Int.reduceToNat, Nat.reducePow, Int.ofNat_zero, Int.natCast_one, Int.cast_ofNat_Int] at h11
  simp -implicitDefEqProofs only [sps, isp, eng, reduceIte, reduceCtorEq, Nat.reduceAdd, Nat.reduceMul, Nat.reduceSub, Nat.reduceEqDiff, Nat.reduceLeDiff, Nat.reduceLT, Nat.reduceDiv, Nat.reduceMod, Int.reduceLE, Int.reduceLT, Int.reduceEq, Int.reduceNeg, Int.reduceAdd, Int.reduceSub, Int.reduceToNat, Nat.reducePow, Int.ofNat_zero, Int.natCast_one, Int.cast_ofNat_Int] at h27
  repeat' (first
    | exact True.intro
    | refine VW.seq ?_
    | refine VW.block ?_
    | ((first | refine VW.skip ?_ | refine VW.exit ?_ | refine VW.reg ?_ | refine VW.regD ?_ | refine VW.ret ?_ | show goA _ _ _ _ _ _ _ _ _ _ | show goB _ _ _ _ _ _ _ _ _ | show goAD _ _ _ _ _ _ _ _ _ _ _ _ _ _ | show goBD _ _ _ _ _ _ _ _ _ _ _ | refine VC.p1 (h16' _) rfl rfl ?_ | refine VC.p2 (h22' _) rfl rfl rfl rfl ?_ | refine VC.p2 (h24' _) rfl rfl rfl rfl ?_ | refine VC.p1 (h27 _) rfl rfl ?_); refine sx ?_)
    | refine VW.condT cx ?_
    | refine VW.condF cx ?_
    | refine VW.cond ex ?_ ?_
    | refine imp_nt ?_
    | refine imp_nf ?_
    | refine imp_dt (fun _ => ?_)
    | refine imp_df (fun _ => ?_)
    | (refine fun (_ : _ = true) => ?_)
    | (refine fun (_ : _ = false) => ?_)
    | refine vg_t ?_ ?_
    | refine vg_f ?_ ?_)
  refine VC.o1 rfl (ex) (ex) (h11 _) (by rfl) rfl ?_
  refine sx ?_
  repeat' (first
    | exact True.intro
    | refine VW.seq ?_
    | refine VW.block ?_
    | ((first | refine VW.skip ?_ | refine VW.exit ?_ | refine VW.reg ?_ | refine VW.regD ?_ | refine VW.ret ?_ | show goA _ _ _ _ _ _ _ _ _ _ | show goB _ _ _ _ _ _ _ _ _ | show goAD _ _ _ _ _ _ _ _ _ _ _ _ _ _ | show goBD _ _ _ _ _ _ _ _ _ _ _ | refine VC.p1 (h16' _) rfl rfl ?_ | refine VC.p2 (h22' _) rfl rfl rfl rfl ?_ | refine VC.p2 (h24' _) rfl rfl rfl rfl ?_ | refine VC.p1 (h27 _) rfl rfl ?_); refine sx ?_)
    | refine VW.condT cx ?_
    | refine VW.condF cx ?_
    | refine VW.cond ex ?_ ?_
    | refine imp_nt ?_
    | refine imp_nf ?_
    | refine imp_dt (fun _ => ?_)
    | refine imp_df (fun _ => ?_)
    | (refine fun (_ : _ = true) => ?_)
    | (refine fun (_ : _ = false) => ?_)
    | refine vg_t ?_ ?_
    | refine vg_f ?_ ?_)
  exact .tmp1 (ex) rfl
end
end Go.Vx
