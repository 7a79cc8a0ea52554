/- Walks of the manager's functions (txn): Oldest. -/
import Derived.Test.YtgkkffhoflgpoaaTD
set_option linter.unusedSimpArgs false
set_option linter.unusedVariables false
set_option maxRecDepth 4000
set_option maxHeartbeats 2000000
namespace Go.Vx
open Go Go.Proofs

def ints (l : List Int) : List (List PV) := l.map fun z => [iv z]
theorem ints_len {l : List Int} : (ints l).length = l.length := by simp [ints]
theorem ints_get {l : List Int} {i : Nat} : (ints l)[i]? = (l[i]?).map fun z => [iv z] := by simp [ints]
theorem ints_app {l : List Int} {z : Int} : ints l ++ [[iv z]] = ints (l ++ [z]) := by simp [ints]
def minL : List Int → Int
  | [] => 0
  | x :: xs => xs.foldl min x
theorem get_of {α : Type} {l : List α} {i : Nat} (h : i < l.length) : ∃ x, l[i]? = some x := ⟨l[i], by simp [h]⟩
theorem i64_nat {n : Nat} (h : n < 9223372036854775807) : IntKind.i64.wrap ((n : Int) + 1) = ((n + 1 : Nat) : Int) := by rw [IntWalk.i64_in _ (by omega)]; rfl

section
variable {P : Program}

def JM (l : List Int) (i : Nat) (e : Env) (m : Mem) (nx : Nat) : Prop :=
  1 ≤ i ∧ e 0 = some (.sl (ints l)) ∧ e 4 = some (iv i) ∧ e 3 = some (iv (minL (l.take i)))

theorem minL_take {l : List Int} {i : Nat} {z : Int} (h0 : 1 ≤ i) (hz : l[i]? = some z) : minL (l.take (i + 1)) = min (minL (l.take i)) z := by
  rw [List.take_add_one, hz]
  obtain ⟨x, xs, h⟩ : ∃ x xs, l.take i = x :: xs := by
    cases l with
    | nil => simp at hz
    | cons x l => obtain ⟨k, rfl⟩ : ∃ k, i = k + 1 := ⟨i - 1, by omega⟩; exact ⟨x, l.take k, rfl⟩
  rw [h]
  simp [minL]

theorem w_min (l : List Int) (h0 : 0 < l.length) (hl : l.length < 1000) (b : Nat) : VW P c46 (PRet (Ends [.tmp 2] b (iv (minL l)) mt)) (fun t => [PV.sl (ints l)][t]?) mt b := by
  unfold c46
  have hlen := ints_len (l := l)
  obtain ⟨z0, hz0⟩ := get_of h0
  have hz0' : (ints l)[0]? = some [iv z0] := by rw [ints_get, hz0]; rfl
  have hnl : ¬ (l.length : Int) < 1 := by omega
  repeat' (first
    | refine VW.seq ?_
    | refine VW.block ?_
    | ((first | refine VW.skip ?_ | refine VW.exit ?_ | refine VW.reg ?_ | refine VW.regD ?_ | refine VW.ret ?_ | show goA _ _ _ _ _ _ _ _ _ _ | show goB _ _ _ _ _ _ _ _ _ | show goAD _ _ _ _ _ _ _ _ _ _ _ _ | show goBD _ _ _ _ _ _ _ _ _); simp -implicitDefEqProofs only [eng, reduceIte, reduceCtorEq, Nat.reduceAdd, Nat.reduceMul, Nat.reduceSub, Nat.reduceEqDiff, Nat.reduceLeDiff, Nat.reduceLT, Nat.reduceDiv, Nat.reduceMod, Int.reduceLE, Int.reduceLT, Int.reduceEq, Int.reduceNeg, Int.reduceAdd, Int.reduceSub, Int.reduceToNat, Nat.reducePow, Int.ofNat_zero, Int.natCast_one, Int.cast_ofNat_Int, *])
    | (refine VW.condT ?_ ?_; focus (simp -implicitDefEqProofs only [eng, reduceIte, reduceCtorEq, Nat.reduceAdd, Nat.reduceMul, Nat.reduceSub, Nat.reduceEqDiff, Nat.reduceLeDiff, Nat.reduceLT, Nat.reduceDiv, Nat.reduceMod, Int.reduceLE, Int.reduceLT, Int.reduceEq, Int.reduceNeg, Int.reduceAdd, Int.reduceSub, Int.reduceToNat, Nat.reducePow, Int.ofNat_zero, Int.natCast_one, Int.cast_ofNat_Int, *]; done))
    | (refine VW.condF ?_ ?_; focus (simp -implicitDefEqProofs only [eng, reduceIte, reduceCtorEq, Nat.reduceAdd, Nat.reduceMul, Nat.reduceSub, Nat.reduceEqDiff, Nat.reduceLeDiff, Nat.reduceLT, Nat.reduceDiv, Nat.reduceMod, Int.reduceLE, Int.reduceLT, Int.reduceEq, Int.reduceNeg, Int.reduceAdd, Int.reduceSub, Int.reduceToNat, Nat.reducePow, Int.ofNat_zero, Int.natCast_one, Int.cast_ofNat_Int, *]; done))
    | (apply VW.cond; focus (simp -implicitDefEqProofs only [eng, reduceIte, reduceCtorEq, Nat.reduceAdd, Nat.reduceMul, Nat.reduceSub, Nat.reduceEqDiff, Nat.reduceLeDiff, Nat.reduceLT, Nat.reduceDiv, Nat.reduceMod, Int.reduceLE, Int.reduceLT, Int.reduceEq, Int.reduceNeg, Int.reduceAdd, Int.reduceSub, Int.reduceToNat, Nat.reducePow, Int.ofNat_zero, Int.natCast_one, Int.cast_ofNat_Int, *]; rfl))
    | refine imp_nt ?_
    | refine imp_nf ?_
    | refine imp_dt (fun _ => ?_)
    | refine imp_df (fun _ => ?_)
    | (refine fun (_ : _ = true) => ?_)
    | (refine fun (_ : _ = false) => ?_)
    | refine vg_t ?_ ?_
    | refine vg_f ?_ ?_)
  refine VW.forN l.length (JM l) 1 (by omega) ⟨Nat.le_refl _, by simp -implicitDefEqProofs only [eng, reduceIte, reduceCtorEq, Nat.reduceAdd, Nat.reduceMul, Nat.reduceSub, Nat.reduceEqDiff, Nat.reduceLeDiff, Nat.reduceLT, Nat.reduceDiv, Nat.reduceMod, Int.reduceLE, Int.reduceLT, Int.reduceEq, Int.reduceNeg, Int.reduceAdd, Int.reduceSub, Int.reduceToNat, Nat.reducePow, Int.ofNat_zero, Int.natCast_one, Int.cast_ofNat_Int], by simp -implicitDefEqProofs only [eng, reduceIte, reduceCtorEq, Nat.reduceAdd, Nat.reduceMul, Nat.reduceSub, Nat.reduceEqDiff, Nat.reduceLeDiff, Nat.reduceLT, Nat.reduceDiv, Nat.reduceMod, Int.reduceLE, Int.reduceLT, Int.reduceEq, Int.reduceNeg, Int.reduceAdd, Int.reduceSub, Int.reduceToNat, Nat.reducePow, Int.ofNat_zero, Int.natCast_one, Int.cast_ofNat_Int] <;> rfl, ?_⟩ ?_
  · simp -implicitDefEqProofs only [eng, reduceIte, reduceCtorEq, Nat.reduceAdd, Nat.reduceMul, Nat.reduceSub, Nat.reduceEqDiff, Nat.reduceLeDiff, Nat.reduceLT, Nat.reduceDiv, Nat.reduceMod, Int.reduceLE, Int.reduceLT, Int.reduceEq, Int.reduceNeg, Int.reduceAdd, Int.reduceSub, Int.reduceToNat, Nat.reducePow, Int.ofNat_zero, Int.natCast_one, Int.cast_ofNat_Int]
    cases l with
    | nil => simp at h0
    | cons x l => simp at hz0; subst hz0; rfl
  clear hz0 hz0' hnl z0
  rintro i e m nx hi ⟨hi1, e0, e4, e3⟩
  by_cases hin : i < l.length
  · have hin' : (i : Int) < l.length := by omega
    obtain ⟨z, hz⟩ := get_of hin
    have hz' : (ints l)[i]? = some [iv z] := by rw [ints_get, hz]; rfl
    have h00 : (0 : Int) ≤ i := by omega
    have htn : (i : Int).toNat = i := Int.toNat_natCast i
    have hw := i64_nat (n := i) (by omega)
    have hm := minL_take hi1 hz
    repeat' (first
    | refine VW.seq ?_
    | refine VW.block ?_
    | ((first | refine VW.skip ?_ | refine VW.exit ?_ | refine VW.reg ?_ | refine VW.regD ?_ | refine VW.ret ?_ | show goA _ _ _ _ _ _ _ _ _ _ | show goB _ _ _ _ _ _ _ _ _ | show goAD _ _ _ _ _ _ _ _ _ _ _ _ | show goBD _ _ _ _ _ _ _ _ _); simp -implicitDefEqProofs only [eng, reduceIte, reduceCtorEq, Nat.reduceAdd, Nat.reduceMul, Nat.reduceSub, Nat.reduceEqDiff, Nat.reduceLeDiff, Nat.reduceLT, Nat.reduceDiv, Nat.reduceMod, Int.reduceLE, Int.reduceLT, Int.reduceEq, Int.reduceNeg, Int.reduceAdd, Int.reduceSub, Int.reduceToNat, Nat.reducePow, Int.ofNat_zero, Int.natCast_one, Int.cast_ofNat_Int, *])
    | (refine VW.condT ?_ ?_; focus (simp -implicitDefEqProofs only [eng, reduceIte, reduceCtorEq, Nat.reduceAdd, Nat.reduceMul, Nat.reduceSub, Nat.reduceEqDiff, Nat.reduceLeDiff, Nat.reduceLT, Nat.reduceDiv, Nat.reduceMod, Int.reduceLE, Int.reduceLT, Int.reduceEq, Int.reduceNeg, Int.reduceAdd, Int.reduceSub, Int.reduceToNat, Nat.reducePow, Int.ofNat_zero, Int.natCast_one, Int.cast_ofNat_Int, *]; done))
    | (refine VW.condF ?_ ?_; focus (simp -implicitDefEqProofs only [eng, reduceIte, reduceCtorEq, Nat.reduceAdd, Nat.reduceMul, Nat.reduceSub, Nat.reduceEqDiff, Nat.reduceLeDiff, Nat.reduceLT, Nat.reduceDiv, Nat.reduceMod, Int.reduceLE, Int.reduceLT, Int.reduceEq, Int.reduceNeg, Int.reduceAdd, Int.reduceSub, Int.reduceToNat, Nat.reducePow, Int.ofNat_zero, Int.natCast_one, Int.cast_ofNat_Int, *]; done))
    | (apply VW.cond; focus (simp -implicitDefEqProofs only [eng, reduceIte, reduceCtorEq, Nat.reduceAdd, Nat.reduceMul, Nat.reduceSub, Nat.reduceEqDiff, Nat.reduceLeDiff, Nat.reduceLT, Nat.reduceDiv, Nat.reduceMod, Int.reduceLE, Int.reduceLT, Int.reduceEq, Int.reduceNeg, Int.reduceAdd, Int.reduceSub, Int.reduceToNat, Nat.reducePow, Int.ofNat_zero, Int.natCast_one, Int.cast_ofNat_Int, *]; rfl))
    | refine imp_nt ?_
    | refine imp_nf ?_
    | refine imp_dt (fun _ => ?_)
    | refine imp_df (fun _ => ?_)
    | (refine fun (_ : _ = true) => ?_)
    | (refine fun (_ : _ = false) => ?_)
    | refine vg_t ?_ ?_
    | refine vg_f ?_ ?_)
    exact ⟨by omega, by simp -implicitDefEqProofs only [eng, reduceIte, reduceCtorEq, Nat.reduceAdd, Nat.reduceMul, Nat.reduceSub, Nat.reduceEqDiff, Nat.reduceLeDiff, Nat.reduceLT, Nat.reduceDiv, Nat.reduceMod, Int.reduceLE, Int.reduceLT, Int.reduceEq, Int.reduceNeg, Int.reduceAdd, Int.reduceSub, Int.reduceToNat, Nat.reducePow, Int.ofNat_zero, Int.natCast_one, Int.cast_ofNat_Int, *], by simp -implicitDefEqProofs only [eng, reduceIte, reduceCtorEq, Nat.reduceAdd, Nat.reduceMul, Nat.reduceSub, Nat.reduceEqDiff, Nat.reduceLeDiff, Nat.reduceLT, Nat.reduceDiv, Nat.reduceMod, Int.reduceLE, Int.reduceLT, Int.reduceEq, Int.reduceNeg, Int.reduceAdd, Int.reduceSub, Int.reduceToNat, Nat.reducePow, Int.ofNat_zero, Int.natCast_one, Int.cast_ofNat_Int, *], by simp -implicitDefEqProofs only [eng, reduceIte, reduceCtorEq, Nat.reduceAdd, Nat.reduceMul, Nat.reduceSub, Nat.reduceEqDiff, Nat.reduceLeDiff, Nat.reduceLT, Nat.reduceDiv, Nat.reduceMod, Int.reduceLE, Int.reduceLT, Int.reduceEq, Int.reduceNeg, Int.reduceAdd, Int.reduceSub, Int.reduceToNat, Nat.reducePow, Int.ofNat_zero, Int.natCast_one, Int.cast_ofNat_Int, *]⟩
  · have hin' : ¬ (i : Int) < l.length := by omega
    have hdr : l.take i = l := List.take_of_length_le (by omega)
    rw [hdr] at e3
    repeat' (first
    | refine VW.seq ?_
    | refine VW.block ?_
    | ((first | refine VW.skip ?_ | refine VW.exit ?_ | refine VW.reg ?_ | refine VW.regD ?_ | refine VW.ret ?_ | show goA _ _ _ _ _ _ _ _ _ _ | show goB _ _ _ _ _ _ _ _ _ | show goAD _ _ _ _ _ _ _ _ _ _ _ _ | show goBD _ _ _ _ _ _ _ _ _); simp -implicitDefEqProofs only [eng, reduceIte, reduceCtorEq, Nat.reduceAdd, Nat.reduceMul, Nat.reduceSub, Nat.reduceEqDiff, Nat.reduceLeDiff, Nat.reduceLT, Nat.reduceDiv, Nat.reduceMod, Int.reduceLE, Int.reduceLT, Int.reduceEq, Int.reduceNeg, Int.reduceAdd, Int.reduceSub, Int.reduceToNat, Nat.reducePow, Int.ofNat_zero, Int.natCast_one, Int.cast_ofNat_Int, *])
    | (refine VW.condT ?_ ?_; focus (simp -implicitDefEqProofs only [eng, reduceIte, reduceCtorEq, Nat.reduceAdd, Nat.reduceMul, Nat.reduceSub, Nat.reduceEqDiff, Nat.reduceLeDiff, Nat.reduceLT, Nat.reduceDiv, Nat.reduceMod, Int.reduceLE, Int.reduceLT, Int.reduceEq, Int.reduceNeg, Int.reduceAdd, Int.reduceSub, Int.reduceToNat, Nat.reducePow, Int.ofNat_zero, Int.natCast_one, Int.cast_ofNat_Int, *]; done))
    | (refine VW.condF ?_ ?_; focus (simp -implicitDefEqProofs only [eng, reduceIte, reduceCtorEq, Nat.reduceAdd, Nat.reduceMul, Nat.reduceSub, Nat.reduceEqDiff, Nat.reduceLeDiff, Nat.reduceLT, Nat.reduceDiv, Nat.reduceMod, Int.reduceLE, Int.reduceLT, Int.reduceEq, Int.reduceNeg, Int.reduceAdd, Int.reduceSub, Int.reduceToNat, Nat.reducePow, Int.ofNat_zero, Int.natCast_one, Int.cast_ofNat_Int, *]; done))
    | (apply VW.cond; focus (simp -implicitDefEqProofs only [eng, reduceIte, reduceCtorEq, Nat.reduceAdd, Nat.reduceMul, Nat.reduceSub, Nat.reduceEqDiff, Nat.reduceLeDiff, Nat.reduceLT, Nat.reduceDiv, Nat.reduceMod, Int.reduceLE, Int.reduceLT, Int.reduceEq, Int.reduceNeg, Int.reduceAdd, Int.reduceSub, Int.reduceToNat, Nat.reducePow, Int.ofNat_zero, Int.natCast_one, Int.cast_ofNat_Int, *]; rfl))
    | refine imp_nt ?_
    | refine imp_nf ?_
    | refine imp_dt (fun _ => ?_)
    | refine imp_df (fun _ => ?_)
    | (refine fun (_ : _ = true) => ?_)
    | (refine fun (_ : _ = false) => ?_)
    | refine vg_t ?_ ?_
    | refine vg_f ?_ ?_)
    exact .v (by simp -implicitDefEqProofs only [eng, reduceIte, reduceCtorEq, Nat.reduceAdd, Nat.reduceMul, Nat.reduceSub, Nat.reduceEqDiff, Nat.reduceLeDiff, Nat.reduceLT, Nat.reduceDiv, Nat.reduceMod, Int.reduceLE, Int.reduceLT, Int.reduceEq, Int.reduceNeg, Int.reduceAdd, Int.reduceSub, Int.reduceToNat, Nat.reducePow, Int.ofNat_zero, Int.natCast_one, Int.cast_ofNat_Int, resF, resL, RX.ev, tup1, purT, *] <;> rfl) (by simp -implicitDefEqProofs only [eng, reduceIte, reduceCtorEq, Nat.reduceAdd, Nat.reduceMul, Nat.reduceSub, Nat.reduceEqDiff, Nat.reduceLeDiff, Nat.reduceLT, Nat.reduceDiv, Nat.reduceMod, Int.reduceLE, Int.reduceLT, Int.reduceEq, Int.reduceNeg, Int.reduceAdd, Int.reduceSub, Int.reduceToNat, Nat.reducePow, Int.ofNat_zero, Int.natCast_one, Int.cast_ofNat_Int, resF, resL, RX.ev, tup1, purT, *] <;> rfl)

def Mg.ses (g : Mg) : List Se := [g.a0, g.a1, g.a2, g.a3]
/-- The instants since which the first i are open. -/
def Mg.opens (g : Mg) (i : Nat) : List Int := ((g.ses.take i).filter (·.o)).map (·.s)
def oldF (l : List Int) : PV := if l.length = 0 then .tup [iv 0, .bool false] else .tup [iv (minL l), .bool true]

def JO (g : Mg) (M : Nat) (i : Nat) (e : Env) (m : Mem) (nx : Nat) : Prop :=
  e 13 = some (iv i) ∧ e 12 = some (.agg [.bool g.a0.o, iv g.a0.s, g.a0.k, .bool g.a1.o, iv g.a1.s, g.a1.k, .bool g.a2.o, iv g.a2.s, g.a2.k, .bool g.a3.o, iv g.a3.s, g.a3.k]) ∧ m M = some g.box ∧ ∃ id, e 4 = some (.osl id (g.opens i).length) ∧ m id = some (.row 1 (ints (g.opens i)) 3 false)

theorem opens_lt (g : Mg) (i : Nat) : (g.opens i).length ≤ 4 := by
  unfold Mg.opens
  rw [List.length_map]
  refine Nat.le_trans (List.length_filter_le _ _) ?_
  rw [List.length_take]
  simp [Mg.ses]; omega

theorem w_oldest (h1 : ∀ (l : List Int) b, 0 < l.length → l.length < 1000 → V P 46 [.sl (ints l)] mt b (iv (minL l)) mt) (M b : Nat) (hM : M < b) (g : Mg) (hg : g.ok b) (m : Mem) (hm : m M = some g.box) :
    VW P c24 (PRet (Ends [.tmp 2, .tmp 3] b (oldF (g.opens 4)) (ofL [(M, g.box)]))) (fun t => [PV.ptr M 15 0 0][t]?) m b := by
  unfold c24
  obtain ⟨n1, n2, n3, n4, n5⟩ := below_ne hM
  repeat' (first
    | refine VW.seq ?_
    | refine VW.block ?_
    | ((first | refine VW.skip ?_ | refine VW.exit ?_ | refine VW.reg ?_ | refine VW.regD ?_ | refine VW.ret ?_ | show goA _ _ _ _ _ _ _ _ _ _ | show goB _ _ _ _ _ _ _ _ _ | show goAD _ _ _ _ _ _ _ _ _ _ _ _ | show goBD _ _ _ _ _ _ _ _ _); simp -implicitDefEqProofs only [eng, reduceIte, reduceCtorEq, Nat.reduceAdd, Nat.reduceMul, Nat.reduceSub, Nat.reduceEqDiff, Nat.reduceLeDiff, Nat.reduceLT, Nat.reduceDiv, Nat.reduceMod, Int.reduceLE, Int.reduceLT, Int.reduceEq, Int.reduceNeg, Int.reduceAdd, Int.reduceSub, Int.reduceToNat, Nat.reducePow, Int.ofNat_zero, Int.natCast_one, Int.cast_ofNat_Int, *])
    | (refine VW.condT ?_ ?_; focus (simp -implicitDefEqProofs only [eng, reduceIte, reduceCtorEq, Nat.reduceAdd, Nat.reduceMul, Nat.reduceSub, Nat.reduceEqDiff, Nat.reduceLeDiff, Nat.reduceLT, Nat.reduceDiv, Nat.reduceMod, Int.reduceLE, Int.reduceLT, Int.reduceEq, Int.reduceNeg, Int.reduceAdd, Int.reduceSub, Int.reduceToNat, Nat.reducePow, Int.ofNat_zero, Int.natCast_one, Int.cast_ofNat_Int, *]; done))
    | (refine VW.condF ?_ ?_; focus (simp -implicitDefEqProofs only [eng, reduceIte, reduceCtorEq, Nat.reduceAdd, Nat.reduceMul, Nat.reduceSub, Nat.reduceEqDiff, Nat.reduceLeDiff, Nat.reduceLT, Nat.reduceDiv, Nat.reduceMod, Int.reduceLE, Int.reduceLT, Int.reduceEq, Int.reduceNeg, Int.reduceAdd, Int.reduceSub, Int.reduceToNat, Nat.reducePow, Int.ofNat_zero, Int.natCast_one, Int.cast_ofNat_Int, *]; done))
    | (apply VW.cond; focus (simp -implicitDefEqProofs only [eng, reduceIte, reduceCtorEq, Nat.reduceAdd, Nat.reduceMul, Nat.reduceSub, Nat.reduceEqDiff, Nat.reduceLeDiff, Nat.reduceLT, Nat.reduceDiv, Nat.reduceMod, Int.reduceLE, Int.reduceLT, Int.reduceEq, Int.reduceNeg, Int.reduceAdd, Int.reduceSub, Int.reduceToNat, Nat.reducePow, Int.ofNat_zero, Int.natCast_one, Int.cast_ofNat_Int, *]; rfl))
    | refine imp_nt ?_
    | refine imp_nf ?_
    | refine imp_dt (fun _ => ?_)
    | refine imp_df (fun _ => ?_)
    | (refine fun (_ : _ = true) => ?_)
    | (refine fun (_ : _ = false) => ?_)
    | refine vg_t ?_ ?_
    | refine vg_f ?_ ?_)
  refine VW.forN 4 (JO g M) 0 (by omega) ⟨by simp -implicitDefEqProofs only [eng, reduceIte, reduceCtorEq, Nat.reduceAdd, Nat.reduceMul, Nat.reduceSub, Nat.reduceEqDiff, Nat.reduceLeDiff, Nat.reduceLT, Nat.reduceDiv, Nat.reduceMod, Int.reduceLE, Int.reduceLT, Int.reduceEq, Int.reduceNeg, Int.reduceAdd, Int.reduceSub, Int.reduceToNat, Nat.reducePow, Int.ofNat_zero, Int.natCast_one, Int.cast_ofNat_Int] <;> rfl, by simp -implicitDefEqProofs only [eng, reduceIte, reduceCtorEq, Nat.reduceAdd, Nat.reduceMul, Nat.reduceSub, Nat.reduceEqDiff, Nat.reduceLeDiff, Nat.reduceLT, Nat.reduceDiv, Nat.reduceMod, Int.reduceLE, Int.reduceLT, Int.reduceEq, Int.reduceNeg, Int.reduceAdd, Int.reduceSub, Int.reduceToNat, Nat.reducePow, Int.ofNat_zero, Int.natCast_one, Int.cast_ofNat_Int], by simp -implicitDefEqProofs only [eng, reduceIte, reduceCtorEq, Nat.reduceAdd, Nat.reduceMul, Nat.reduceSub, Nat.reduceEqDiff, Nat.reduceLeDiff, Nat.reduceLT, Nat.reduceDiv, Nat.reduceMod, Int.reduceLE, Int.reduceLT, Int.reduceEq, Int.reduceNeg, Int.reduceAdd, Int.reduceSub, Int.reduceToNat, Nat.reducePow, Int.ofNat_zero, Int.natCast_one, Int.cast_ofNat_Int, *], _, by simp -implicitDefEqProofs only [eng, reduceIte, reduceCtorEq, Nat.reduceAdd, Nat.reduceMul, Nat.reduceSub, Nat.reduceEqDiff, Nat.reduceLeDiff, Nat.reduceLT, Nat.reduceDiv, Nat.reduceMod, Int.reduceLE, Int.reduceLT, Int.reduceEq, Int.reduceNeg, Int.reduceAdd, Int.reduceSub, Int.reduceToNat, Nat.reducePow, Int.ofNat_zero, Int.natCast_one, Int.cast_ofNat_Int] <;> rfl, by simp -implicitDefEqProofs only [eng, reduceIte, reduceCtorEq, Nat.reduceAdd, Nat.reduceMul, Nat.reduceSub, Nat.reduceEqDiff, Nat.reduceLeDiff, Nat.reduceLT, Nat.reduceDiv, Nat.reduceMod, Int.reduceLE, Int.reduceLT, Int.reduceEq, Int.reduceNeg, Int.reduceAdd, Int.reduceSub, Int.reduceToNat, Nat.reducePow, Int.ofNat_zero, Int.natCast_one, Int.cast_ofNat_Int] <;> rfl⟩ ?_
  clear hm m
  rintro i e m nx hi ⟨e13, e12, hm, id, e4, hid⟩
  refine VW.below hm fun hlM => VW.below hid fun hlI => ?_
  obtain ⟨n1', n2', n3', n4', n5'⟩ := below_ne hlM
  obtain ⟨l1', l2', l3', l4', l5'⟩ := below_ne hlI
  have q1 := ne_of_obj hm hid (by simp)
  have q2 := ne_of_obj hid hm (by simp)
  have hln := opens_lt g i
  have hil := ints_len (l := g.opens i)
  by_cases h4 : i = 4
  · subst h4
    replace e13 : e 13 = some (iv 4) := e13
    have hk : ∀ m' : Mem, m' M = some g.box → ∀ x ∈ [(M, g.box)], m' x.1 = some x.2 ∧ x.1 < b ∧ x.2.lt (b + 8) = true ∧ x.2.fix b = true := fun m' h => one_keep hM h hg
    by_cases h0 : (g.opens 4).length = 0
    · have hold : oldF (g.opens 4) = .tup [iv 0, .bool false] := by simp [oldF, h0]
      repeat' (first
    | refine VW.seq ?_
    | refine VW.block ?_
    | ((first | refine VW.skip ?_ | refine VW.exit ?_ | refine VW.reg ?_ | refine VW.regD ?_ | refine VW.ret ?_ | show goA _ _ _ _ _ _ _ _ _ _ | show goB _ _ _ _ _ _ _ _ _ | show goAD _ _ _ _ _ _ _ _ _ _ _ _ | show goBD _ _ _ _ _ _ _ _ _); simp -implicitDefEqProofs only [eng, reduceIte, reduceCtorEq, Nat.reduceAdd, Nat.reduceMul, Nat.reduceSub, Nat.reduceEqDiff, Nat.reduceLeDiff, Nat.reduceLT, Nat.reduceDiv, Nat.reduceMod, Int.reduceLE, Int.reduceLT, Int.reduceEq, Int.reduceNeg, Int.reduceAdd, Int.reduceSub, Int.reduceToNat, Nat.reducePow, Int.ofNat_zero, Int.natCast_one, Int.cast_ofNat_Int, *])
    | (refine VW.condT ?_ ?_; focus (simp -implicitDefEqProofs only [eng, reduceIte, reduceCtorEq, Nat.reduceAdd, Nat.reduceMul, Nat.reduceSub, Nat.reduceEqDiff, Nat.reduceLeDiff, Nat.reduceLT, Nat.reduceDiv, Nat.reduceMod, Int.reduceLE, Int.reduceLT, Int.reduceEq, Int.reduceNeg, Int.reduceAdd, Int.reduceSub, Int.reduceToNat, Nat.reducePow, Int.ofNat_zero, Int.natCast_one, Int.cast_ofNat_Int, *]; done))
    | (refine VW.condF ?_ ?_; focus (simp -implicitDefEqProofs only [eng, reduceIte, reduceCtorEq, Nat.reduceAdd, Nat.reduceMul, Nat.reduceSub, Nat.reduceEqDiff, Nat.reduceLeDiff, Nat.reduceLT, Nat.reduceDiv, Nat.reduceMod, Int.reduceLE, Int.reduceLT, Int.reduceEq, Int.reduceNeg, Int.reduceAdd, Int.reduceSub, Int.reduceToNat, Nat.reducePow, Int.ofNat_zero, Int.natCast_one, Int.cast_ofNat_Int, *]; done))
    | (apply VW.cond; focus (simp -implicitDefEqProofs only [eng, reduceIte, reduceCtorEq, Nat.reduceAdd, Nat.reduceMul, Nat.reduceSub, Nat.reduceEqDiff, Nat.reduceLeDiff, Nat.reduceLT, Nat.reduceDiv, Nat.reduceMod, Int.reduceLE, Int.reduceLT, Int.reduceEq, Int.reduceNeg, Int.reduceAdd, Int.reduceSub, Int.reduceToNat, Nat.reducePow, Int.ofNat_zero, Int.natCast_one, Int.cast_ofNat_Int, *]; rfl))
    | refine imp_nt ?_
    | refine imp_nf ?_
    | refine imp_dt (fun _ => ?_)
    | refine imp_df (fun _ => ?_)
    | (refine fun (_ : _ = true) => ?_)
    | (refine fun (_ : _ = false) => ?_)
    | refine vg_t ?_ ?_
    | refine vg_f ?_ ?_)
      exact .keep (by simp -implicitDefEqProofs only [eng, reduceIte, reduceCtorEq, Nat.reduceAdd, Nat.reduceMul, Nat.reduceSub, Nat.reduceEqDiff, Nat.reduceLeDiff, Nat.reduceLT, Nat.reduceDiv, Nat.reduceMod, Int.reduceLE, Int.reduceLT, Int.reduceEq, Int.reduceNeg, Int.reduceAdd, Int.reduceSub, Int.reduceToNat, Nat.reducePow, Int.ofNat_zero, Int.natCast_one, Int.cast_ofNat_Int, resF, resL, RX.ev, tup1, purT, *] <;> rfl) (by simp -implicitDefEqProofs only [ltS, lt8, List.all_cons, List.all_nil, eng, reduceIte, reduceCtorEq, Nat.reduceAdd, Nat.reduceMul, Nat.reduceSub, Nat.reduceEqDiff, Nat.reduceLeDiff, Nat.reduceLT, Nat.reduceDiv, Nat.reduceMod, Int.reduceLE, Int.reduceLT, Int.reduceEq, Int.reduceNeg, Int.reduceAdd, Int.reduceSub, Int.reduceToNat, Nat.reducePow, Int.ofNat_zero, Int.natCast_one, Int.cast_ofNat_Int, *]) (hk _ (by simp -implicitDefEqProofs only [eng, reduceIte, reduceCtorEq, Nat.reduceAdd, Nat.reduceMul, Nat.reduceSub, Nat.reduceEqDiff, Nat.reduceLeDiff, Nat.reduceLT, Nat.reduceDiv, Nat.reduceMod, Int.reduceLE, Int.reduceLT, Int.reduceEq, Int.reduceNeg, Int.reduceAdd, Int.reduceSub, Int.reduceToNat, Nat.reducePow, Int.ofNat_zero, Int.natCast_one, Int.cast_ofNat_Int, *]))
    · have hold : oldF (g.opens 4) = .tup [iv (minL (g.opens 4)), .bool true] := by simp [oldF, h0]
      have h0' : ¬ ((g.opens 4).length : Int) = 0 := by omega
      repeat' (first
    | refine VW.seq ?_
    | refine VW.block ?_
    | ((first | refine VW.skip ?_ | refine VW.exit ?_ | refine VW.reg ?_ | refine VW.regD ?_ | refine VW.ret ?_ | show goA _ _ _ _ _ _ _ _ _ _ | show goB _ _ _ _ _ _ _ _ _ | show goAD _ _ _ _ _ _ _ _ _ _ _ _ | show goBD _ _ _ _ _ _ _ _ _); simp -implicitDefEqProofs only [eng, reduceIte, reduceCtorEq, Nat.reduceAdd, Nat.reduceMul, Nat.reduceSub, Nat.reduceEqDiff, Nat.reduceLeDiff, Nat.reduceLT, Nat.reduceDiv, Nat.reduceMod, Int.reduceLE, Int.reduceLT, Int.reduceEq, Int.reduceNeg, Int.reduceAdd, Int.reduceSub, Int.reduceToNat, Nat.reducePow, Int.ofNat_zero, Int.natCast_one, Int.cast_ofNat_Int, *])
    | (refine VW.condT ?_ ?_; focus (simp -implicitDefEqProofs only [eng, reduceIte, reduceCtorEq, Nat.reduceAdd, Nat.reduceMul, Nat.reduceSub, Nat.reduceEqDiff, Nat.reduceLeDiff, Nat.reduceLT, Nat.reduceDiv, Nat.reduceMod, Int.reduceLE, Int.reduceLT, Int.reduceEq, Int.reduceNeg, Int.reduceAdd, Int.reduceSub, Int.reduceToNat, Nat.reducePow, Int.ofNat_zero, Int.natCast_one, Int.cast_ofNat_Int, *]; done))
    | (refine VW.condF ?_ ?_; focus (simp -implicitDefEqProofs only [eng, reduceIte, reduceCtorEq, Nat.reduceAdd, Nat.reduceMul, Nat.reduceSub, Nat.reduceEqDiff, Nat.reduceLeDiff, Nat.reduceLT, Nat.reduceDiv, Nat.reduceMod, Int.reduceLE, Int.reduceLT, Int.reduceEq, Int.reduceNeg, Int.reduceAdd, Int.reduceSub, Int.reduceToNat, Nat.reducePow, Int.ofNat_zero, Int.natCast_one, Int.cast_ofNat_Int, *]; done))
    | (apply VW.cond; focus (simp -implicitDefEqProofs only [eng, reduceIte, reduceCtorEq, Nat.reduceAdd, Nat.reduceMul, Nat.reduceSub, Nat.reduceEqDiff, Nat.reduceLeDiff, Nat.reduceLT, Nat.reduceDiv, Nat.reduceMod, Int.reduceLE, Int.reduceLT, Int.reduceEq, Int.reduceNeg, Int.reduceAdd, Int.reduceSub, Int.reduceToNat, Nat.reducePow, Int.ofNat_zero, Int.natCast_one, Int.cast_ofNat_Int, *]; rfl))
    | refine imp_nt ?_
    | refine imp_nf ?_
    | refine imp_dt (fun _ => ?_)
    | refine imp_df (fun _ => ?_)
    | (refine fun (_ : _ = true) => ?_)
    | (refine fun (_ : _ = false) => ?_)
    | refine vg_t ?_ ?_
    | refine vg_f ?_ ?_)
      refine VC.o1 rfl (by simp -implicitDefEqProofs only [eng, reduceIte, reduceCtorEq, Nat.reduceAdd, Nat.reduceMul, Nat.reduceSub, Nat.reduceEqDiff, Nat.reduceLeDiff, Nat.reduceLT, Nat.reduceDiv, Nat.reduceMod, Int.reduceLE, Int.reduceLT, Int.reduceEq, Int.reduceNeg, Int.reduceAdd, Int.reduceSub, Int.reduceToNat, Nat.reducePow, Int.ofNat_zero, Int.natCast_one, Int.cast_ofNat_Int, *] <;> rfl) (by simp -implicitDefEqProofs only [eng, reduceIte, reduceCtorEq, Nat.reduceAdd, Nat.reduceMul, Nat.reduceSub, Nat.reduceEqDiff, Nat.reduceLeDiff, Nat.reduceLT, Nat.reduceDiv, Nat.reduceMod, Int.reduceLE, Int.reduceLT, Int.reduceEq, Int.reduceNeg, Int.reduceAdd, Int.reduceSub, Int.reduceToNat, Nat.reducePow, Int.ofNat_zero, Int.natCast_one, Int.cast_ofNat_Int, *] <;> rfl) (h1 (g.opens 4) _ (by omega) (by omega)) hil.symm rfl ?_
      simp -implicitDefEqProofs only [eng, reduceIte, reduceCtorEq, Nat.reduceAdd, Nat.reduceMul, Nat.reduceSub, Nat.reduceEqDiff, Nat.reduceLeDiff, Nat.reduceLT, Nat.reduceDiv, Nat.reduceMod, Int.reduceLE, Int.reduceLT, Int.reduceEq, Int.reduceNeg, Int.reduceAdd, Int.reduceSub, Int.reduceToNat, Nat.reducePow, Int.ofNat_zero, Int.natCast_one, Int.cast_ofNat_Int, *]
      repeat' (first
    | refine VW.seq ?_
    | refine VW.block ?_
    | ((first | refine VW.skip ?_ | refine VW.exit ?_ | refine VW.reg ?_ | refine VW.regD ?_ | refine VW.ret ?_ | show goA _ _ _ _ _ _ _ _ _ _ | show goB _ _ _ _ _ _ _ _ _ | show goAD _ _ _ _ _ _ _ _ _ _ _ _ | show goBD _ _ _ _ _ _ _ _ _); simp -implicitDefEqProofs only [eng, reduceIte, reduceCtorEq, Nat.reduceAdd, Nat.reduceMul, Nat.reduceSub, Nat.reduceEqDiff, Nat.reduceLeDiff, Nat.reduceLT, Nat.reduceDiv, Nat.reduceMod, Int.reduceLE, Int.reduceLT, Int.reduceEq, Int.reduceNeg, Int.reduceAdd, Int.reduceSub, Int.reduceToNat, Nat.reducePow, Int.ofNat_zero, Int.natCast_one, Int.cast_ofNat_Int, *])
    | (refine VW.condT ?_ ?_; focus (simp -implicitDefEqProofs only [eng, reduceIte, reduceCtorEq, Nat.reduceAdd, Nat.reduceMul, Nat.reduceSub, Nat.reduceEqDiff, Nat.reduceLeDiff, Nat.reduceLT, Nat.reduceDiv, Nat.reduceMod, Int.reduceLE, Int.reduceLT, Int.reduceEq, Int.reduceNeg, Int.reduceAdd, Int.reduceSub, Int.reduceToNat, Nat.reducePow, Int.ofNat_zero, Int.natCast_one, Int.cast_ofNat_Int, *]; done))
    | (refine VW.condF ?_ ?_; focus (simp -implicitDefEqProofs only [eng, reduceIte, reduceCtorEq, Nat.reduceAdd, Nat.reduceMul, Nat.reduceSub, Nat.reduceEqDiff, Nat.reduceLeDiff, Nat.reduceLT, Nat.reduceDiv, Nat.reduceMod, Int.reduceLE, Int.reduceLT, Int.reduceEq, Int.reduceNeg, Int.reduceAdd, Int.reduceSub, Int.reduceToNat, Nat.reducePow, Int.ofNat_zero, Int.natCast_one, Int.cast_ofNat_Int, *]; done))
    | (apply VW.cond; focus (simp -implicitDefEqProofs only [eng, reduceIte, reduceCtorEq, Nat.reduceAdd, Nat.reduceMul, Nat.reduceSub, Nat.reduceEqDiff, Nat.reduceLeDiff, Nat.reduceLT, Nat.reduceDiv, Nat.reduceMod, Int.reduceLE, Int.reduceLT, Int.reduceEq, Int.reduceNeg, Int.reduceAdd, Int.reduceSub, Int.reduceToNat, Nat.reducePow, Int.ofNat_zero, Int.natCast_one, Int.cast_ofNat_Int, *]; rfl))
    | refine imp_nt ?_
    | refine imp_nf ?_
    | refine imp_dt (fun _ => ?_)
    | refine imp_df (fun _ => ?_)
    | (refine fun (_ : _ = true) => ?_)
    | (refine fun (_ : _ = false) => ?_)
    | refine vg_t ?_ ?_
    | refine vg_f ?_ ?_)
      exact .keep (by simp -implicitDefEqProofs only [eng, reduceIte, reduceCtorEq, Nat.reduceAdd, Nat.reduceMul, Nat.reduceSub, Nat.reduceEqDiff, Nat.reduceLeDiff, Nat.reduceLT, Nat.reduceDiv, Nat.reduceMod, Int.reduceLE, Int.reduceLT, Int.reduceEq, Int.reduceNeg, Int.reduceAdd, Int.reduceSub, Int.reduceToNat, Nat.reducePow, Int.ofNat_zero, Int.natCast_one, Int.cast_ofNat_Int, resF, resL, RX.ev, tup1, purT, *] <;> rfl) (by simp -implicitDefEqProofs only [ltS, lt8, List.all_cons, List.all_nil, eng, reduceIte, reduceCtorEq, Nat.reduceAdd, Nat.reduceMul, Nat.reduceSub, Nat.reduceEqDiff, Nat.reduceLeDiff, Nat.reduceLT, Nat.reduceDiv, Nat.reduceMod, Int.reduceLE, Int.reduceLT, Int.reduceEq, Int.reduceNeg, Int.reduceAdd, Int.reduceSub, Int.reduceToNat, Nat.reducePow, Int.ofNat_zero, Int.natCast_one, Int.cast_ofNat_Int, *]) (hk _ (by simp -implicitDefEqProofs only [eng, reduceIte, reduceCtorEq, Nat.reduceAdd, Nat.reduceMul, Nat.reduceSub, Nat.reduceEqDiff, Nat.reduceLeDiff, Nat.reduceLT, Nat.reduceDiv, Nat.reduceMod, Int.reduceLE, Int.reduceLT, Int.reduceEq, Int.reduceNeg, Int.reduceAdd, Int.reduceSub, Int.reduceToNat, Nat.reducePow, Int.ofNat_zero, Int.natCast_one, Int.cast_ofNat_Int, *]))
  · have key : ∃ s : Se, g.ses[i]? = some s ∧ ∀ cs, cs = [PV.bool g.a0.o, iv g.a0.s, g.a0.k, .bool g.a1.o, iv g.a1.s, g.a1.k, .bool g.a2.o, iv g.a2.s, g.a2.k, .bool g.a3.o, iv g.a3.s, g.a3.k] → (cs.drop (i * 3)).take 3 = [.bool s.o, iv s.s, s.k] ∧ i * 3 + 3 ≤ cs.length := by
      have : i = 0 ∨ i = 1 ∨ i = 2 ∨ i = 3 := by omega
      rcases this with rfl | rfl | rfl | rfl <;> exact ⟨_, rfl, fun cs h => by subst h; exact ⟨rfl, by simp⟩⟩
    obtain ⟨s, hs, hcs⟩ := key
    obtain ⟨c1, c2⟩ := hcs _ rfl
    clear hcs
    have hi4 : (i : Int) < 4 := by omega
    have hi9 : i * 3 ≤ 9 := by omega
    have hi4' : i < 4 := by omega
    have h00 : (0 : Int) ≤ i := by omega
    have htn : (i : Int).toNat = i := Int.toNat_natCast i
    have hw := i64_nat (n := i) (by omega)
    have hstep : g.opens (i + 1) = g.opens i ++ if s.o then [s.s] else [] := by
      unfold Mg.opens
      rw [List.take_add_one, hs]
      cases hso : s.o <;> simp [List.filter_cons, hso]
    cases hso : s.o
    · rw [hso] at hstep c1
      simp only [Bool.false_eq_true, if_false, List.append_nil] at hstep
      repeat' (first
    | refine VW.seq ?_
    | refine VW.block ?_
    | ((first | refine VW.skip ?_ | refine VW.exit ?_ | refine VW.reg ?_ | refine VW.regD ?_ | refine VW.ret ?_ | show goA _ _ _ _ _ _ _ _ _ _ | show goB _ _ _ _ _ _ _ _ _ | show goAD _ _ _ _ _ _ _ _ _ _ _ _ | show goBD _ _ _ _ _ _ _ _ _); simp -implicitDefEqProofs only [eng, reduceIte, reduceCtorEq, Nat.reduceAdd, Nat.reduceMul, Nat.reduceSub, Nat.reduceEqDiff, Nat.reduceLeDiff, Nat.reduceLT, Nat.reduceDiv, Nat.reduceMod, Int.reduceLE, Int.reduceLT, Int.reduceEq, Int.reduceNeg, Int.reduceAdd, Int.reduceSub, Int.reduceToNat, Nat.reducePow, Int.ofNat_zero, Int.natCast_one, Int.cast_ofNat_Int, *])
    | (refine VW.condT ?_ ?_; focus (simp -implicitDefEqProofs only [eng, reduceIte, reduceCtorEq, Nat.reduceAdd, Nat.reduceMul, Nat.reduceSub, Nat.reduceEqDiff, Nat.reduceLeDiff, Nat.reduceLT, Nat.reduceDiv, Nat.reduceMod, Int.reduceLE, Int.reduceLT, Int.reduceEq, Int.reduceNeg, Int.reduceAdd, Int.reduceSub, Int.reduceToNat, Nat.reducePow, Int.ofNat_zero, Int.natCast_one, Int.cast_ofNat_Int, *]; done))
    | (refine VW.condF ?_ ?_; focus (simp -implicitDefEqProofs only [eng, reduceIte, reduceCtorEq, Nat.reduceAdd, Nat.reduceMul, Nat.reduceSub, Nat.reduceEqDiff, Nat.reduceLeDiff, Nat.reduceLT, Nat.reduceDiv, Nat.reduceMod, Int.reduceLE, Int.reduceLT, Int.reduceEq, Int.reduceNeg, Int.reduceAdd, Int.reduceSub, Int.reduceToNat, Nat.reducePow, Int.ofNat_zero, Int.natCast_one, Int.cast_ofNat_Int, *]; done))
    | (apply VW.cond; focus (simp -implicitDefEqProofs only [eng, reduceIte, reduceCtorEq, Nat.reduceAdd, Nat.reduceMul, Nat.reduceSub, Nat.reduceEqDiff, Nat.reduceLeDiff, Nat.reduceLT, Nat.reduceDiv, Nat.reduceMod, Int.reduceLE, Int.reduceLT, Int.reduceEq, Int.reduceNeg, Int.reduceAdd, Int.reduceSub, Int.reduceToNat, Nat.reducePow, Int.ofNat_zero, Int.natCast_one, Int.cast_ofNat_Int, *]; rfl))
    | refine imp_nt ?_
    | refine imp_nf ?_
    | refine imp_dt (fun _ => ?_)
    | refine imp_df (fun _ => ?_)
    | (refine fun (_ : _ = true) => ?_)
    | (refine fun (_ : _ = false) => ?_)
    | refine vg_t ?_ ?_
    | refine vg_f ?_ ?_)
      exact ⟨by simp -implicitDefEqProofs only [eng, reduceIte, reduceCtorEq, Nat.reduceAdd, Nat.reduceMul, Nat.reduceSub, Nat.reduceEqDiff, Nat.reduceLeDiff, Nat.reduceLT, Nat.reduceDiv, Nat.reduceMod, Int.reduceLE, Int.reduceLT, Int.reduceEq, Int.reduceNeg, Int.reduceAdd, Int.reduceSub, Int.reduceToNat, Nat.reducePow, Int.ofNat_zero, Int.natCast_one, Int.cast_ofNat_Int, *], by simp -implicitDefEqProofs only [eng, reduceIte, reduceCtorEq, Nat.reduceAdd, Nat.reduceMul, Nat.reduceSub, Nat.reduceEqDiff, Nat.reduceLeDiff, Nat.reduceLT, Nat.reduceDiv, Nat.reduceMod, Int.reduceLE, Int.reduceLT, Int.reduceEq, Int.reduceNeg, Int.reduceAdd, Int.reduceSub, Int.reduceToNat, Nat.reducePow, Int.ofNat_zero, Int.natCast_one, Int.cast_ofNat_Int, *], by simp -implicitDefEqProofs only [eng, reduceIte, reduceCtorEq, Nat.reduceAdd, Nat.reduceMul, Nat.reduceSub, Nat.reduceEqDiff, Nat.reduceLeDiff, Nat.reduceLT, Nat.reduceDiv, Nat.reduceMod, Int.reduceLE, Int.reduceLT, Int.reduceEq, Int.reduceNeg, Int.reduceAdd, Int.reduceSub, Int.reduceToNat, Nat.reducePow, Int.ofNat_zero, Int.natCast_one, Int.cast_ofNat_Int, *], id, by simp -implicitDefEqProofs only [eng, reduceIte, reduceCtorEq, Nat.reduceAdd, Nat.reduceMul, Nat.reduceSub, Nat.reduceEqDiff, Nat.reduceLeDiff, Nat.reduceLT, Nat.reduceDiv, Nat.reduceMod, Int.reduceLE, Int.reduceLT, Int.reduceEq, Int.reduceNeg, Int.reduceAdd, Int.reduceSub, Int.reduceToNat, Nat.reducePow, Int.ofNat_zero, Int.natCast_one, Int.cast_ofNat_Int, *], by simp -implicitDefEqProofs only [eng, reduceIte, reduceCtorEq, Nat.reduceAdd, Nat.reduceMul, Nat.reduceSub, Nat.reduceEqDiff, Nat.reduceLeDiff, Nat.reduceLT, Nat.reduceDiv, Nat.reduceMod, Int.reduceLE, Int.reduceLT, Int.reduceEq, Int.reduceNeg, Int.reduceAdd, Int.reduceSub, Int.reduceToNat, Nat.reducePow, Int.ofNat_zero, Int.natCast_one, Int.cast_ofNat_Int, *]⟩
    · rw [hso] at hstep c1
      simp only [if_true] at hstep
      have hfl : ((g.opens i).length + 1) * 8 ≤ 140737488355328 := by omega
      repeat' (first
    | refine VW.seq ?_
    | refine VW.block ?_
    | ((first | refine VW.skip ?_ | refine VW.exit ?_ | refine VW.reg ?_ | refine VW.regD ?_ | refine VW.ret ?_ | show goA _ _ _ _ _ _ _ _ _ _ | show goB _ _ _ _ _ _ _ _ _ | show goAD _ _ _ _ _ _ _ _ _ _ _ _ | show goBD _ _ _ _ _ _ _ _ _); simp -implicitDefEqProofs only [eng, reduceIte, reduceCtorEq, Nat.reduceAdd, Nat.reduceMul, Nat.reduceSub, Nat.reduceEqDiff, Nat.reduceLeDiff, Nat.reduceLT, Nat.reduceDiv, Nat.reduceMod, Int.reduceLE, Int.reduceLT, Int.reduceEq, Int.reduceNeg, Int.reduceAdd, Int.reduceSub, Int.reduceToNat, Nat.reducePow, Int.ofNat_zero, Int.natCast_one, Int.cast_ofNat_Int, *])
    | (refine VW.condT ?_ ?_; focus (simp -implicitDefEqProofs only [eng, reduceIte, reduceCtorEq, Nat.reduceAdd, Nat.reduceMul, Nat.reduceSub, Nat.reduceEqDiff, Nat.reduceLeDiff, Nat.reduceLT, Nat.reduceDiv, Nat.reduceMod, Int.reduceLE, Int.reduceLT, Int.reduceEq, Int.reduceNeg, Int.reduceAdd, Int.reduceSub, Int.reduceToNat, Nat.reducePow, Int.ofNat_zero, Int.natCast_one, Int.cast_ofNat_Int, *]; done))
    | (refine VW.condF ?_ ?_; focus (simp -implicitDefEqProofs only [eng, reduceIte, reduceCtorEq, Nat.reduceAdd, Nat.reduceMul, Nat.reduceSub, Nat.reduceEqDiff, Nat.reduceLeDiff, Nat.reduceLT, Nat.reduceDiv, Nat.reduceMod, Int.reduceLE, Int.reduceLT, Int.reduceEq, Int.reduceNeg, Int.reduceAdd, Int.reduceSub, Int.reduceToNat, Nat.reducePow, Int.ofNat_zero, Int.natCast_one, Int.cast_ofNat_Int, *]; done))
    | (apply VW.cond; focus (simp -implicitDefEqProofs only [eng, reduceIte, reduceCtorEq, Nat.reduceAdd, Nat.reduceMul, Nat.reduceSub, Nat.reduceEqDiff, Nat.reduceLeDiff, Nat.reduceLT, Nat.reduceDiv, Nat.reduceMod, Int.reduceLE, Int.reduceLT, Int.reduceEq, Int.reduceNeg, Int.reduceAdd, Int.reduceSub, Int.reduceToNat, Nat.reducePow, Int.ofNat_zero, Int.natCast_one, Int.cast_ofNat_Int, *]; rfl))
    | refine imp_nt ?_
    | refine imp_nf ?_
    | refine imp_dt (fun _ => ?_)
    | refine imp_df (fun _ => ?_)
    | (refine fun (_ : _ = true) => ?_)
    | (refine fun (_ : _ = false) => ?_)
    | refine vg_t ?_ ?_
    | refine vg_f ?_ ?_)
      exact ⟨by simp -implicitDefEqProofs only [eng, reduceIte, reduceCtorEq, Nat.reduceAdd, Nat.reduceMul, Nat.reduceSub, Nat.reduceEqDiff, Nat.reduceLeDiff, Nat.reduceLT, Nat.reduceDiv, Nat.reduceMod, Int.reduceLE, Int.reduceLT, Int.reduceEq, Int.reduceNeg, Int.reduceAdd, Int.reduceSub, Int.reduceToNat, Nat.reducePow, Int.ofNat_zero, Int.natCast_one, Int.cast_ofNat_Int, *], by simp -implicitDefEqProofs only [eng, reduceIte, reduceCtorEq, Nat.reduceAdd, Nat.reduceMul, Nat.reduceSub, Nat.reduceEqDiff, Nat.reduceLeDiff, Nat.reduceLT, Nat.reduceDiv, Nat.reduceMod, Int.reduceLE, Int.reduceLT, Int.reduceEq, Int.reduceNeg, Int.reduceAdd, Int.reduceSub, Int.reduceToNat, Nat.reducePow, Int.ofNat_zero, Int.natCast_one, Int.cast_ofNat_Int, *], by simp -implicitDefEqProofs only [eng, reduceIte, reduceCtorEq, Nat.reduceAdd, Nat.reduceMul, Nat.reduceSub, Nat.reduceEqDiff, Nat.reduceLeDiff, Nat.reduceLT, Nat.reduceDiv, Nat.reduceMod, Int.reduceLE, Int.reduceLT, Int.reduceEq, Int.reduceNeg, Int.reduceAdd, Int.reduceSub, Int.reduceToNat, Nat.reducePow, Int.ofNat_zero, Int.natCast_one, Int.cast_ofNat_Int, *], _, by simp -implicitDefEqProofs only [eng, reduceIte, reduceCtorEq, Nat.reduceAdd, Nat.reduceMul, Nat.reduceSub, Nat.reduceEqDiff, Nat.reduceLeDiff, Nat.reduceLT, Nat.reduceDiv, Nat.reduceMod, Int.reduceLE, Int.reduceLT, Int.reduceEq, Int.reduceNeg, Int.reduceAdd, Int.reduceSub, Int.reduceToNat, Nat.reducePow, Int.ofNat_zero, Int.natCast_one, Int.cast_ofNat_Int, *, List.length_append]; rfl, by simp -implicitDefEqProofs only [eng, reduceIte, reduceCtorEq, Nat.reduceAdd, Nat.reduceMul, Nat.reduceSub, Nat.reduceEqDiff, Nat.reduceLeDiff, Nat.reduceLT, Nat.reduceDiv, Nat.reduceMod, Int.reduceLE, Int.reduceLT, Int.reduceEq, Int.reduceNeg, Int.reduceAdd, Int.reduceSub, Int.reduceToNat, Nat.reducePow, Int.ofNat_zero, Int.natCast_one, Int.cast_ofNat_Int, *, ints_app] <;> rfl⟩

end
end Go.Vx
