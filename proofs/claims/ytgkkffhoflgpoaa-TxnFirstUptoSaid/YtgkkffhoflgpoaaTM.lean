/- TxnFirst. -/
import Derived.Test.YtgkkffhoflgpoaaTL
set_option linter.unusedSimpArgs false
set_option linter.unusedVariables false
set_option maxRecDepth 4000
set_option maxHeartbeats 4000000
namespace Go.Vx
open Go Go.Proofs

structure I4a (a : Ab) (i : Nat) : Prop where
  c0 : 0 ≤ a.c
  c1 : a.c ≤ 4 * i
  h : a.h = 0
  se : ∀ j, a.se j = none
  wr : ∀ k, a.wr k = none
theorem I4a.tic {a : Ab} {i : Nat} {n : Int} (h : I4a a i) (hi : i < 20) : I4a { a with c := tickF a.c (n.tmod 5) } (i + 1) := by
  have h0 := h.c0
  have h1 := h.c1
  have hn : n.tmod 5 ≤ 4 := by
    rcases Int.le_total 0 n with hn | hn
    · rw [Int.tmod_eq_emod_of_nonneg hn]; omega
    · have := Int.tmod_nonneg (b := 5) (a := -n) (by omega)
      have e : (-n).tmod 5 = -(n.tmod 5) := Int.neg_tmod n 5
      omega
  have ht : a.c ≤ tickF a.c (n.tmod 5) ∧ tickF a.c (n.tmod 5) ≤ a.c + 4 := by
    unfold tickF
    split
    · omega
    · rw [IntWalk.i64_in (1073741824 - a.c) (by omega), IntWalk.i64_in _ (by omega)]
      omega
  exact ⟨by show 0 ≤ tickF a.c (n.tmod 5); omega, by show tickF a.c (n.tmod 5) ≤ _; omega, h.h, h.se, h.wr⟩

structure I4 (a : Ab) (key : Str) : Prop where
  c0 : 0 ≤ a.c
  c1 : a.c ≤ 80
  h : a.h = a.c
  s0 : a.se 0 = some (a.c, [key])
  s1 : a.se 1 = some (a.c, [key])
  wr : ∀ k, a.wr k = none
theorem I4.beg {a a' : Ab} {key : Str} {z v e : Int} (h : I4 a key) (hz : z = 2 ∨ z = 3) (hB : Beg a z v e a') : I4 a' key := by
  rcases hB with ⟨_, _, _, rfl⟩ | ⟨x, _, _, _, _, rfl⟩ | ⟨_, _, _, _, rfl⟩
  · exact h
  · exact h
  · have hh := h.h
    have h0 : ¬ 0 = z.toNat := by omega
    have h1 : ¬ 1 = z.toNat := by omega
    exact ⟨h.c0, h.c1, by show max a.h a.c = a.c; omega, by simp only [Ab.beg, Ab.set, h0, if_false]; exact h.s0, by simp only [Ab.beg, Ab.set, h1, if_false]; exact h.s1, h.wr⟩
theorem I4.wri {a a' : Ab} {key : Str} {z e : Int} {k : Str} (h : I4 a key) (hz : z = 2 ∨ z = 3) (hB : Wri a z k e a') : I4 a' key := by
  rcases hB with ⟨_, _, rfl⟩ | ⟨_, _, _, rfl⟩ | ⟨s, ks, _, ho, _, rfl⟩
  · exact h
  · exact h
  · have h0 : ¬ 0 = z.toNat := by omega
    have h1 : ¬ 1 = z.toNat := by omega
    exact ⟨h.c0, h.c1, h.h, by simp only [Ab.wri, Ab.set, h0, if_false]; exact h.s0, by simp only [Ab.wri, Ab.set, h1, if_false]; exact h.s1, h.wr⟩

theorem I4.test {a : Ab} {key : Str} (h : I4 a key) : testF [key] a.wr a.c a.h = 0 := by
  have h1 := h.c1
  have h2 := h.h
  have : ([key] : List Str).any (clash a.wr a.c) = false := by simp [clash, h.wr key]
  unfold testF
  simp only [this, Bool.false_eq_true, if_false]; rw [if_neg (by omega)]
theorem I4.last {a : Ab} {key : Str} {v : Int} {i : Nat} (h : I4 a key) (hv : v = a.c + 1) : testF [key] (a.com i [key] v).wr a.c (a.com i [key] v).h = 13 := by
  have : ([key] : List Str).any (clash (a.com i [key] v).wr a.c) = true := by simp [clash, Ab.com]; omega
  unfold testF
  rw [if_pos this]
def J4a (l : List Dd) (key : Str) (tu : Bool) (i : Nat) (e : Env) (m : Mem) (nx : Nat) : Prop :=
  ∃ a M, e 0 = some (.sl (dds l)) ∧ e 1 = some (.str key) ∧ e 2 = some (.bool tu) ∧ e 7 = some (.ptr M 15 0 0) ∧ e 8 = some (iv i) ∧ MR a M m nx ∧ I4a a i
def J4 (l : List Dd) (key : Str) (p q : Int) (i : Nat) (e : Env) (m : Mem) (nx : Nat) : Prop :=
  ∃ a M, e 0 = some (.sl (dds l)) ∧ e 7 = some (.ptr M 15 0 0) ∧ e 9 = some (iv p) ∧ e 10 = some (iv q) ∧ e 11 = some (iv i) ∧ MR a M m nx ∧ I4 a key

theorem w4 (l : List Dd) (key : Str) (tu : Bool) (hl : ∀ d ∈ l, d.key.length ≤ 1048576) (b : Nat) : VW Try.prog c4 (PRet (Ends [.tmp 6] b (.bool true) mt)) (fun t => [PV.sl (dds l), .str key, .bool tu][t]?) mt b := by
  unfold c4
  repeat' (first
    | refine VW.seq ?_
    | refine VW.block ?_
    | ((first | refine VW.skip ?_ | refine VW.exit ?_ | refine VW.reg ?_ | refine VW.regD ?_ | refine VW.ret ?_ | show goA _ _ _ _ _ _ _ _ _ _ | show goB _ _ _ _ _ _ _ _ _ | show goAD _ _ _ _ _ _ _ _ _ _ _ _ | show goBD _ _ _ _ _ _ _ _ _); simp -implicitDefEqProofs only [eng, reduceIte, reduceCtorEq, Nat.reduceAdd, Nat.reduceMul, Nat.reduceSub, Nat.reduceEqDiff, Nat.reduceLeDiff, Nat.reduceLT, Nat.reduceDiv, Nat.reduceMod, Int.reduceLE, Int.reduceLT, Int.reduceEq, Int.reduceNeg, Int.reduceAdd, Int.reduceSub, Int.reduceToNat, Nat.reducePow, Int.ofNat_zero, Int.natCast_one, Int.cast_ofNat_Int, *])
    | (refine VW.condT ?_ ?_; focus (simp -implicitDefEqProofs only [eng, reduceIte, reduceCtorEq, Nat.reduceAdd, Nat.reduceMul, Nat.reduceSub, Nat.reduceEqDiff, Nat.reduceLeDiff, Nat.reduceLT, Nat.reduceDiv, Nat.reduceMod, Int.reduceLE, Int.reduceLT, Int.reduceEq, Int.reduceNeg, Int.reduceAdd, Int.reduceSub, Int.reduceToNat, Nat.reducePow, Int.ofNat_zero, Int.natCast_one, Int.cast_ofNat_Int, *]; done))
    | (refine VW.condF ?_ ?_; focus (simp -implicitDefEqProofs only [eng, reduceIte, reduceCtorEq, Nat.reduceAdd, Nat.reduceMul, Nat.reduceSub, Nat.reduceEqDiff, Nat.reduceLeDiff, Nat.reduceLT, Nat.reduceDiv, Nat.reduceMod, Int.reduceLE, Int.reduceLT, Int.reduceEq, Int.reduceNeg, Int.reduceAdd, Int.reduceSub, Int.reduceToNat, Nat.reducePow, Int.ofNat_zero, Int.natCast_one, Int.cast_ofNat_Int, *]; done))
    | (apply VW.cond; focus (simp -implicitDefEqProofs only [eng, reduceIte, reduceCtorEq, Nat.reduceAdd, Nat.reduceMul, Nat.reduceSub, Nat.reduceEqDiff, Nat.reduceLeDiff, Nat.reduceLT, Nat.reduceDiv, Nat.reduceMod, Int.reduceLE, Int.reduceLT, Int.reduceEq, Int.reduceNeg, Int.reduceAdd, Int.reduceSub, Int.reduceToNat, Nat.reducePow, Int.ofNat_zero, Int.natCast_one, Int.cast_ofNat_Int, *]; rfl))
    | refine imp_nt ?_
    | refine imp_nf ?_
    | refine imp_dt (fun _ => ?_)
    | refine imp_df (fun _ => ?_)
    | (refine fun (_ : _ = true) => ?_)
    | (refine fun (_ : _ = false) => ?_)
    | refine vg_t ?_ ?_
    | refine vg_f ?_ ?_)
  refine VC.mnew fun m h => ?_
  simp -implicitDefEqProofs only [eng, reduceIte, reduceCtorEq, Nat.reduceAdd, Nat.reduceMul, Nat.reduceSub, Nat.reduceEqDiff, Nat.reduceLeDiff, Nat.reduceLT, Nat.reduceDiv, Nat.reduceMod, Int.reduceLE, Int.reduceLT, Int.reduceEq, Int.reduceNeg, Int.reduceAdd, Int.reduceSub, Int.reduceToNat, Nat.reducePow, Int.ofNat_zero, Int.natCast_one, Int.cast_ofNat_Int]
  repeat' (first
    | refine VW.seq ?_
    | refine VW.block ?_
    | ((first | refine VW.skip ?_ | refine VW.exit ?_ | refine VW.reg ?_ | refine VW.regD ?_ | refine VW.ret ?_ | show goA _ _ _ _ _ _ _ _ _ _ | show goB _ _ _ _ _ _ _ _ _ | show goAD _ _ _ _ _ _ _ _ _ _ _ _ | show goBD _ _ _ _ _ _ _ _ _ | refine VC.p0 (vlive _) ?_); simp -implicitDefEqProofs only [eng, reduceIte, reduceCtorEq, Nat.reduceAdd, Nat.reduceMul, Nat.reduceSub, Nat.reduceEqDiff, Nat.reduceLeDiff, Nat.reduceLT, Nat.reduceDiv, Nat.reduceMod, Int.reduceLE, Int.reduceLT, Int.reduceEq, Int.reduceNeg, Int.reduceAdd, Int.reduceSub, Int.reduceToNat, Nat.reducePow, Int.ofNat_zero, Int.natCast_one, Int.cast_ofNat_Int, *])
    | (refine VW.condT ?_ ?_; focus (simp -implicitDefEqProofs only [eng, reduceIte, reduceCtorEq, Nat.reduceAdd, Nat.reduceMul, Nat.reduceSub, Nat.reduceEqDiff, Nat.reduceLeDiff, Nat.reduceLT, Nat.reduceDiv, Nat.reduceMod, Int.reduceLE, Int.reduceLT, Int.reduceEq, Int.reduceNeg, Int.reduceAdd, Int.reduceSub, Int.reduceToNat, Nat.reducePow, Int.ofNat_zero, Int.natCast_one, Int.cast_ofNat_Int, *]; done))
    | (refine VW.condF ?_ ?_; focus (simp -implicitDefEqProofs only [eng, reduceIte, reduceCtorEq, Nat.reduceAdd, Nat.reduceMul, Nat.reduceSub, Nat.reduceEqDiff, Nat.reduceLeDiff, Nat.reduceLT, Nat.reduceDiv, Nat.reduceMod, Int.reduceLE, Int.reduceLT, Int.reduceEq, Int.reduceNeg, Int.reduceAdd, Int.reduceSub, Int.reduceToNat, Nat.reducePow, Int.ofNat_zero, Int.natCast_one, Int.cast_ofNat_Int, *]; done))
    | (apply VW.cond; focus (simp -implicitDefEqProofs only [eng, reduceIte, reduceCtorEq, Nat.reduceAdd, Nat.reduceMul, Nat.reduceSub, Nat.reduceEqDiff, Nat.reduceLeDiff, Nat.reduceLT, Nat.reduceDiv, Nat.reduceMod, Int.reduceLE, Int.reduceLT, Int.reduceEq, Int.reduceNeg, Int.reduceAdd, Int.reduceSub, Int.reduceToNat, Nat.reducePow, Int.ofNat_zero, Int.natCast_one, Int.cast_ofNat_Int, *]; rfl))
    | refine imp_nt ?_
    | refine imp_nf ?_
    | refine imp_dt (fun _ => ?_)
    | refine imp_df (fun _ => ?_)
    | (refine fun (_ : _ = true) => ?_)
    | (refine fun (_ : _ = false) => ?_)
    | refine vg_t ?_ ?_
    | refine vg_f ?_ ?_)
  refine VW.forN (min l.length 20) (J4a l key tu) 0 (by omega) ⟨_, _, by simp -implicitDefEqProofs only [eng, reduceIte, reduceCtorEq, Nat.reduceAdd, Nat.reduceMul, Nat.reduceSub, Nat.reduceEqDiff, Nat.reduceLeDiff, Nat.reduceLT, Nat.reduceDiv, Nat.reduceMod, Int.reduceLE, Int.reduceLT, Int.reduceEq, Int.reduceNeg, Int.reduceAdd, Int.reduceSub, Int.reduceToNat, Nat.reducePow, Int.ofNat_zero, Int.natCast_one, Int.cast_ofNat_Int], by simp -implicitDefEqProofs only [eng, reduceIte, reduceCtorEq, Nat.reduceAdd, Nat.reduceMul, Nat.reduceSub, Nat.reduceEqDiff, Nat.reduceLeDiff, Nat.reduceLT, Nat.reduceDiv, Nat.reduceMod, Int.reduceLE, Int.reduceLT, Int.reduceEq, Int.reduceNeg, Int.reduceAdd, Int.reduceSub, Int.reduceToNat, Nat.reducePow, Int.ofNat_zero, Int.natCast_one, Int.cast_ofNat_Int], by simp -implicitDefEqProofs only [eng, reduceIte, reduceCtorEq, Nat.reduceAdd, Nat.reduceMul, Nat.reduceSub, Nat.reduceEqDiff, Nat.reduceLeDiff, Nat.reduceLT, Nat.reduceDiv, Nat.reduceMod, Int.reduceLE, Int.reduceLT, Int.reduceEq, Int.reduceNeg, Int.reduceAdd, Int.reduceSub, Int.reduceToNat, Nat.reducePow, Int.ofNat_zero, Int.natCast_one, Int.cast_ofNat_Int], by simp -implicitDefEqProofs only [eng, reduceIte, reduceCtorEq, Nat.reduceAdd, Nat.reduceMul, Nat.reduceSub, Nat.reduceEqDiff, Nat.reduceLeDiff, Nat.reduceLT, Nat.reduceDiv, Nat.reduceMod, Int.reduceLE, Int.reduceLT, Int.reduceEq, Int.reduceNeg, Int.reduceAdd, Int.reduceSub, Int.reduceToNat, Nat.reducePow, Int.ofNat_zero, Int.natCast_one, Int.cast_ofNat_Int] <;> rfl, by simp -implicitDefEqProofs only [eng, reduceIte, reduceCtorEq, Nat.reduceAdd, Nat.reduceMul, Nat.reduceSub, Nat.reduceEqDiff, Nat.reduceLeDiff, Nat.reduceLT, Nat.reduceDiv, Nat.reduceMod, Int.reduceLE, Int.reduceLT, Int.reduceEq, Int.reduceNeg, Int.reduceAdd, Int.reduceSub, Int.reduceToNat, Nat.reducePow, Int.ofNat_zero, Int.natCast_one, Int.cast_ofNat_Int] <;> rfl, h.mono (by omega), ⟨by decide, by decide, rfl, fun _ => rfl, fun _ => rfl⟩⟩ ?_
  clear h m
  rintro i e m nx hi ⟨a, M, e0, e1, e2, e7, e8, hm, hI⟩
  have hlen := dds_len (l := l)
  by_cases hn : i < min l.length 20
  · have hin' : (i : Int) < l.length := by omega
    have hi20 : (i : Int) < 20 := by omega
    obtain ⟨d, hd⟩ := get_of (l := l) (i := i) (by omega)
    have hd' : (dds l)[i]? = some [iv d.k, iv d.i, .str d.key, iv d.n] := by rw [dds_get, hd]; rfl
    have h00 : (0 : Int) ≤ i := by omega
    have htn : (i : Int).toNat = i := Int.toNat_natCast i
    have hw := i64_nat (n := i) (by omega)
    repeat' (first
    | refine VW.seq ?_
    | refine VW.block ?_
    | ((first | refine VW.skip ?_ | refine VW.exit ?_ | refine VW.reg ?_ | refine VW.regD ?_ | refine VW.ret ?_ | show goA _ _ _ _ _ _ _ _ _ _ | show goB _ _ _ _ _ _ _ _ _ | show goAD _ _ _ _ _ _ _ _ _ _ _ _ | show goBD _ _ _ _ _ _ _ _ _); simp -implicitDefEqProofs only [eng, reduceIte, reduceCtorEq, Nat.reduceAdd, Nat.reduceMul, Nat.reduceSub, Nat.reduceEqDiff, Nat.reduceLeDiff, Nat.reduceLT, Nat.reduceDiv, Nat.reduceMod, Int.reduceLE, Int.reduceLT, Int.reduceEq, Int.reduceNeg, Int.reduceAdd, Int.reduceSub, Int.reduceToNat, Nat.reducePow, Int.ofNat_zero, Int.natCast_one, Int.cast_ofNat_Int, *])
    | (refine VW.condT ?_ ?_; focus (simp -implicitDefEqProofs only [eng, reduceIte, reduceCtorEq, Nat.reduceAdd, Nat.reduceMul, Nat.reduceSub, Nat.reduceEqDiff, Nat.reduceLeDiff, Nat.reduceLT, Nat.reduceDiv, Nat.reduceMod, Int.reduceLE, Int.reduceLT, Int.reduceEq, Int.reduceNeg, Int.reduceAdd, Int.reduceSub, Int.reduceToNat, Nat.reducePow, Int.ofNat_zero, Int.natCast_one, Int.cast_ofNat_Int, *]; done))
    | (refine VW.condF ?_ ?_; focus (simp -implicitDefEqProofs only [eng, reduceIte, reduceCtorEq, Nat.reduceAdd, Nat.reduceMul, Nat.reduceSub, Nat.reduceEqDiff, Nat.reduceLeDiff, Nat.reduceLT, Nat.reduceDiv, Nat.reduceMod, Int.reduceLE, Int.reduceLT, Int.reduceEq, Int.reduceNeg, Int.reduceAdd, Int.reduceSub, Int.reduceToNat, Nat.reducePow, Int.ofNat_zero, Int.natCast_one, Int.cast_ofNat_Int, *]; done))
    | (apply VW.cond; focus (simp -implicitDefEqProofs only [eng, reduceIte, reduceCtorEq, Nat.reduceAdd, Nat.reduceMul, Nat.reduceSub, Nat.reduceEqDiff, Nat.reduceLeDiff, Nat.reduceLT, Nat.reduceDiv, Nat.reduceMod, Int.reduceLE, Int.reduceLT, Int.reduceEq, Int.reduceNeg, Int.reduceAdd, Int.reduceSub, Int.reduceToNat, Nat.reducePow, Int.ofNat_zero, Int.natCast_one, Int.cast_ofNat_Int, *]; rfl))
    | refine imp_nt ?_
    | refine imp_nf ?_
    | refine imp_dt (fun _ => ?_)
    | refine imp_df (fun _ => ?_)
    | (refine fun (_ : _ = true) => ?_)
    | (refine fun (_ : _ = false) => ?_)
    | refine vg_t ?_ ?_
    | refine vg_f ?_ ?_)
    refine VC.tic hm (by omega) (fun _ _ => rfl) fun m' h' => ?_
    have hJ := hI.tic (n := d.n) (by omega)
    clear hI
    simp -implicitDefEqProofs only [eng, reduceIte, reduceCtorEq, Nat.reduceAdd, Nat.reduceMul, Nat.reduceSub, Nat.reduceEqDiff, Nat.reduceLeDiff, Nat.reduceLT, Nat.reduceDiv, Nat.reduceMod, Int.reduceLE, Int.reduceLT, Int.reduceEq, Int.reduceNeg, Int.reduceAdd, Int.reduceSub, Int.reduceToNat, Nat.reducePow, Int.ofNat_zero, Int.natCast_one, Int.cast_ofNat_Int]
    repeat' (first
    | refine VW.seq ?_
    | refine VW.block ?_
    | ((first | refine VW.skip ?_ | refine VW.exit ?_ | refine VW.reg ?_ | refine VW.regD ?_ | refine VW.ret ?_ | show goA _ _ _ _ _ _ _ _ _ _ | show goB _ _ _ _ _ _ _ _ _ | show goAD _ _ _ _ _ _ _ _ _ _ _ _ | show goBD _ _ _ _ _ _ _ _ _); simp -implicitDefEqProofs only [eng, reduceIte, reduceCtorEq, Nat.reduceAdd, Nat.reduceMul, Nat.reduceSub, Nat.reduceEqDiff, Nat.reduceLeDiff, Nat.reduceLT, Nat.reduceDiv, Nat.reduceMod, Int.reduceLE, Int.reduceLT, Int.reduceEq, Int.reduceNeg, Int.reduceAdd, Int.reduceSub, Int.reduceToNat, Nat.reducePow, Int.ofNat_zero, Int.natCast_one, Int.cast_ofNat_Int, *])
    | (refine VW.condT ?_ ?_; focus (simp -implicitDefEqProofs only [eng, reduceIte, reduceCtorEq, Nat.reduceAdd, Nat.reduceMul, Nat.reduceSub, Nat.reduceEqDiff, Nat.reduceLeDiff, Nat.reduceLT, Nat.reduceDiv, Nat.reduceMod, Int.reduceLE, Int.reduceLT, Int.reduceEq, Int.reduceNeg, Int.reduceAdd, Int.reduceSub, Int.reduceToNat, Nat.reducePow, Int.ofNat_zero, Int.natCast_one, Int.cast_ofNat_Int, *]; done))
    | (refine VW.condF ?_ ?_; focus (simp -implicitDefEqProofs only [eng, reduceIte, reduceCtorEq, Nat.reduceAdd, Nat.reduceMul, Nat.reduceSub, Nat.reduceEqDiff, Nat.reduceLeDiff, Nat.reduceLT, Nat.reduceDiv, Nat.reduceMod, Int.reduceLE, Int.reduceLT, Int.reduceEq, Int.reduceNeg, Int.reduceAdd, Int.reduceSub, Int.reduceToNat, Nat.reducePow, Int.ofNat_zero, Int.natCast_one, Int.cast_ofNat_Int, *]; done))
    | (apply VW.cond; focus (simp -implicitDefEqProofs only [eng, reduceIte, reduceCtorEq, Nat.reduceAdd, Nat.reduceMul, Nat.reduceSub, Nat.reduceEqDiff, Nat.reduceLeDiff, Nat.reduceLT, Nat.reduceDiv, Nat.reduceMod, Int.reduceLE, Int.reduceLT, Int.reduceEq, Int.reduceNeg, Int.reduceAdd, Int.reduceSub, Int.reduceToNat, Nat.reducePow, Int.ofNat_zero, Int.natCast_one, Int.cast_ofNat_Int, *]; rfl))
    | refine imp_nt ?_
    | refine imp_nf ?_
    | refine imp_dt (fun _ => ?_)
    | refine imp_df (fun _ => ?_)
    | (refine fun (_ : _ = true) => ?_)
    | (refine fun (_ : _ = false) => ?_)
    | refine vg_t ?_ ?_
    | refine vg_f ?_ ?_)
    exact ⟨_, M, by simp -implicitDefEqProofs only [eng, reduceIte, reduceCtorEq, Nat.reduceAdd, Nat.reduceMul, Nat.reduceSub, Nat.reduceEqDiff, Nat.reduceLeDiff, Nat.reduceLT, Nat.reduceDiv, Nat.reduceMod, Int.reduceLE, Int.reduceLT, Int.reduceEq, Int.reduceNeg, Int.reduceAdd, Int.reduceSub, Int.reduceToNat, Nat.reducePow, Int.ofNat_zero, Int.natCast_one, Int.cast_ofNat_Int, *], by simp -implicitDefEqProofs only [eng, reduceIte, reduceCtorEq, Nat.reduceAdd, Nat.reduceMul, Nat.reduceSub, Nat.reduceEqDiff, Nat.reduceLeDiff, Nat.reduceLT, Nat.reduceDiv, Nat.reduceMod, Int.reduceLE, Int.reduceLT, Int.reduceEq, Int.reduceNeg, Int.reduceAdd, Int.reduceSub, Int.reduceToNat, Nat.reducePow, Int.ofNat_zero, Int.natCast_one, Int.cast_ofNat_Int, *], by simp -implicitDefEqProofs only [eng, reduceIte, reduceCtorEq, Nat.reduceAdd, Nat.reduceMul, Nat.reduceSub, Nat.reduceEqDiff, Nat.reduceLeDiff, Nat.reduceLT, Nat.reduceDiv, Nat.reduceMod, Int.reduceLE, Int.reduceLT, Int.reduceEq, Int.reduceNeg, Int.reduceAdd, Int.reduceSub, Int.reduceToNat, Nat.reducePow, Int.ofNat_zero, Int.natCast_one, Int.cast_ofNat_Int, *], by simp -implicitDefEqProofs only [eng, reduceIte, reduceCtorEq, Nat.reduceAdd, Nat.reduceMul, Nat.reduceSub, Nat.reduceEqDiff, Nat.reduceLeDiff, Nat.reduceLT, Nat.reduceDiv, Nat.reduceMod, Int.reduceLE, Int.reduceLT, Int.reduceEq, Int.reduceNeg, Int.reduceAdd, Int.reduceSub, Int.reduceToNat, Nat.reducePow, Int.ofNat_zero, Int.natCast_one, Int.cast_ofNat_Int, *], by simp -implicitDefEqProofs only [eng, reduceIte, reduceCtorEq, Nat.reduceAdd, Nat.reduceMul, Nat.reduceSub, Nat.reduceEqDiff, Nat.reduceLeDiff, Nat.reduceLT, Nat.reduceDiv, Nat.reduceMod, Int.reduceLE, Int.reduceLT, Int.reduceEq, Int.reduceNeg, Int.reduceAdd, Int.reduceSub, Int.reduceToNat, Nat.reducePow, Int.ofNat_zero, Int.natCast_one, Int.cast_ofNat_Int, *], h'.mono (by omega), hJ⟩
  obtain ⟨p, q, hpq⟩ : ∃ p q : Int, (tu = false ∧ p = 0 ∧ q = 1) ∨ (tu = true ∧ p = 1 ∧ q = 0) := by cases tu <;> simp
  have hii : i ≤ 20 := by omega
  rcases (show (i = 20 ∧ (20 : Int) < l.length) ∨ ¬ (i : Int) < l.length by omega) with ⟨rfl, hin'⟩ | hin'
  all_goals
    rcases hpq with ⟨rfl, rfl, rfl⟩ | ⟨rfl, rfl, rfl⟩
  all_goals
    have c0 := hI.c0
    have c1 := hI.c1
    have ch := hI.h
    repeat' (first
    | refine VW.seq ?_
    | refine VW.block ?_
    | ((first | refine VW.skip ?_ | refine VW.exit ?_ | refine VW.reg ?_ | refine VW.regD ?_ | refine VW.ret ?_ | show goA _ _ _ _ _ _ _ _ _ _ | show goB _ _ _ _ _ _ _ _ _ | show goAD _ _ _ _ _ _ _ _ _ _ _ _ | show goBD _ _ _ _ _ _ _ _ _); simp -implicitDefEqProofs only [eng, reduceIte, reduceCtorEq, Nat.reduceAdd, Nat.reduceMul, Nat.reduceSub, Nat.reduceEqDiff, Nat.reduceLeDiff, Nat.reduceLT, Nat.reduceDiv, Nat.reduceMod, Int.reduceLE, Int.reduceLT, Int.reduceEq, Int.reduceNeg, Int.reduceAdd, Int.reduceSub, Int.reduceToNat, Nat.reducePow, Int.ofNat_zero, Int.natCast_one, Int.cast_ofNat_Int, *])
    | (refine VW.condT ?_ ?_; focus (simp -implicitDefEqProofs only [eng, reduceIte, reduceCtorEq, Nat.reduceAdd, Nat.reduceMul, Nat.reduceSub, Nat.reduceEqDiff, Nat.reduceLeDiff, Nat.reduceLT, Nat.reduceDiv, Nat.reduceMod, Int.reduceLE, Int.reduceLT, Int.reduceEq, Int.reduceNeg, Int.reduceAdd, Int.reduceSub, Int.reduceToNat, Nat.reducePow, Int.ofNat_zero, Int.natCast_one, Int.cast_ofNat_Int, *]; done))
    | (refine VW.condF ?_ ?_; focus (simp -implicitDefEqProofs only [eng, reduceIte, reduceCtorEq, Nat.reduceAdd, Nat.reduceMul, Nat.reduceSub, Nat.reduceEqDiff, Nat.reduceLeDiff, Nat.reduceLT, Nat.reduceDiv, Nat.reduceMod, Int.reduceLE, Int.reduceLT, Int.reduceEq, Int.reduceNeg, Int.reduceAdd, Int.reduceSub, Int.reduceToNat, Nat.reducePow, Int.ofNat_zero, Int.natCast_one, Int.cast_ofNat_Int, *]; done))
    | (apply VW.cond; focus (simp -implicitDefEqProofs only [eng, reduceIte, reduceCtorEq, Nat.reduceAdd, Nat.reduceMul, Nat.reduceSub, Nat.reduceEqDiff, Nat.reduceLeDiff, Nat.reduceLT, Nat.reduceDiv, Nat.reduceMod, Int.reduceLE, Int.reduceLT, Int.reduceEq, Int.reduceNeg, Int.reduceAdd, Int.reduceSub, Int.reduceToNat, Nat.reducePow, Int.ofNat_zero, Int.natCast_one, Int.cast_ofNat_Int, *]; rfl))
    | refine imp_nt ?_
    | refine imp_nf ?_
    | refine imp_dt (fun _ => ?_)
    | refine imp_df (fun _ => ?_)
    | (refine fun (_ : _ = true) => ?_)
    | (refine fun (_ : _ = false) => ?_)
    | refine vg_t ?_ ?_
    | refine vg_f ?_ ?_)
    refine VC.beg hm (by omega) (fun _ _ => rfl) fun v e a1 m1 hB h1 => ?_
    obtain ⟨hv1, rfl, rfl⟩ := hB.fresh (by unfold In; omega) (hI.se _)
    simp -implicitDefEqProofs only [eng, reduceIte, reduceCtorEq, Nat.reduceAdd, Nat.reduceMul, Nat.reduceSub, Nat.reduceEqDiff, Nat.reduceLeDiff, Nat.reduceLT, Nat.reduceDiv, Nat.reduceMod, Int.reduceLE, Int.reduceLT, Int.reduceEq, Int.reduceNeg, Int.reduceAdd, Int.reduceSub, Int.reduceToNat, Nat.reducePow, Int.ofNat_zero, Int.natCast_one, Int.cast_ofNat_Int, *]
    repeat' (first
    | refine VW.seq ?_
    | refine VW.block ?_
    | ((first | refine VW.skip ?_ | refine VW.exit ?_ | refine VW.reg ?_ | refine VW.regD ?_ | refine VW.ret ?_ | show goA _ _ _ _ _ _ _ _ _ _ | show goB _ _ _ _ _ _ _ _ _ | show goAD _ _ _ _ _ _ _ _ _ _ _ _ | show goBD _ _ _ _ _ _ _ _ _); simp -implicitDefEqProofs only [eng, reduceIte, reduceCtorEq, Nat.reduceAdd, Nat.reduceMul, Nat.reduceSub, Nat.reduceEqDiff, Nat.reduceLeDiff, Nat.reduceLT, Nat.reduceDiv, Nat.reduceMod, Int.reduceLE, Int.reduceLT, Int.reduceEq, Int.reduceNeg, Int.reduceAdd, Int.reduceSub, Int.reduceToNat, Nat.reducePow, Int.ofNat_zero, Int.natCast_one, Int.cast_ofNat_Int, *])
    | (refine VW.condT ?_ ?_; focus (simp -implicitDefEqProofs only [eng, reduceIte, reduceCtorEq, Nat.reduceAdd, Nat.reduceMul, Nat.reduceSub, Nat.reduceEqDiff, Nat.reduceLeDiff, Nat.reduceLT, Nat.reduceDiv, Nat.reduceMod, Int.reduceLE, Int.reduceLT, Int.reduceEq, Int.reduceNeg, Int.reduceAdd, Int.reduceSub, Int.reduceToNat, Nat.reducePow, Int.ofNat_zero, Int.natCast_one, Int.cast_ofNat_Int, *]; done))
    | (refine VW.condF ?_ ?_; focus (simp -implicitDefEqProofs only [eng, reduceIte, reduceCtorEq, Nat.reduceAdd, Nat.reduceMul, Nat.reduceSub, Nat.reduceEqDiff, Nat.reduceLeDiff, Nat.reduceLT, Nat.reduceDiv, Nat.reduceMod, Int.reduceLE, Int.reduceLT, Int.reduceEq, Int.reduceNeg, Int.reduceAdd, Int.reduceSub, Int.reduceToNat, Nat.reducePow, Int.ofNat_zero, Int.natCast_one, Int.cast_ofNat_Int, *]; done))
    | (apply VW.cond; focus (simp -implicitDefEqProofs only [eng, reduceIte, reduceCtorEq, Nat.reduceAdd, Nat.reduceMul, Nat.reduceSub, Nat.reduceEqDiff, Nat.reduceLeDiff, Nat.reduceLT, Nat.reduceDiv, Nat.reduceMod, Int.reduceLE, Int.reduceLT, Int.reduceEq, Int.reduceNeg, Int.reduceAdd, Int.reduceSub, Int.reduceToNat, Nat.reducePow, Int.ofNat_zero, Int.natCast_one, Int.cast_ofNat_Int, *]; rfl))
    | refine imp_nt ?_
    | refine imp_nf ?_
    | refine imp_dt (fun _ => ?_)
    | refine imp_df (fun _ => ?_)
    | (refine fun (_ : _ = true) => ?_)
    | (refine fun (_ : _ = false) => ?_)
    | refine vg_t ?_ ?_
    | refine vg_f ?_ ?_)
    refine VC.beg h1 (by omega) (fun _ _ => rfl) fun v' e a2 m2 hB' h2 => ?_
    obtain ⟨hv2, rfl, rfl⟩ := hB'.fresh (by unfold In; omega) (by simp only [Ab.beg, Ab.set]; exact hI.se 1)
    simp -implicitDefEqProofs only [eng, reduceIte, reduceCtorEq, Nat.reduceAdd, Nat.reduceMul, Nat.reduceSub, Nat.reduceEqDiff, Nat.reduceLeDiff, Nat.reduceLT, Nat.reduceDiv, Nat.reduceMod, Int.reduceLE, Int.reduceLT, Int.reduceEq, Int.reduceNeg, Int.reduceAdd, Int.reduceSub, Int.reduceToNat, Nat.reducePow, Int.ofNat_zero, Int.natCast_one, Int.cast_ofNat_Int, *]
    repeat' (first
    | refine VW.seq ?_
    | refine VW.block ?_
    | ((first | refine VW.skip ?_ | refine VW.exit ?_ | refine VW.reg ?_ | refine VW.regD ?_ | refine VW.ret ?_ | show goA _ _ _ _ _ _ _ _ _ _ | show goB _ _ _ _ _ _ _ _ _ | show goAD _ _ _ _ _ _ _ _ _ _ _ _ | show goBD _ _ _ _ _ _ _ _ _); simp -implicitDefEqProofs only [eng, reduceIte, reduceCtorEq, Nat.reduceAdd, Nat.reduceMul, Nat.reduceSub, Nat.reduceEqDiff, Nat.reduceLeDiff, Nat.reduceLT, Nat.reduceDiv, Nat.reduceMod, Int.reduceLE, Int.reduceLT, Int.reduceEq, Int.reduceNeg, Int.reduceAdd, Int.reduceSub, Int.reduceToNat, Nat.reducePow, Int.ofNat_zero, Int.natCast_one, Int.cast_ofNat_Int, *])
    | (refine VW.condT ?_ ?_; focus (simp -implicitDefEqProofs only [eng, reduceIte, reduceCtorEq, Nat.reduceAdd, Nat.reduceMul, Nat.reduceSub, Nat.reduceEqDiff, Nat.reduceLeDiff, Nat.reduceLT, Nat.reduceDiv, Nat.reduceMod, Int.reduceLE, Int.reduceLT, Int.reduceEq, Int.reduceNeg, Int.reduceAdd, Int.reduceSub, Int.reduceToNat, Nat.reducePow, Int.ofNat_zero, Int.natCast_one, Int.cast_ofNat_Int, *]; done))
    | (refine VW.condF ?_ ?_; focus (simp -implicitDefEqProofs only [eng, reduceIte, reduceCtorEq, Nat.reduceAdd, Nat.reduceMul, Nat.reduceSub, Nat.reduceEqDiff, Nat.reduceLeDiff, Nat.reduceLT, Nat.reduceDiv, Nat.reduceMod, Int.reduceLE, Int.reduceLT, Int.reduceEq, Int.reduceNeg, Int.reduceAdd, Int.reduceSub, Int.reduceToNat, Nat.reducePow, Int.ofNat_zero, Int.natCast_one, Int.cast_ofNat_Int, *]; done))
    | (apply VW.cond; focus (simp -implicitDefEqProofs only [eng, reduceIte, reduceCtorEq, Nat.reduceAdd, Nat.reduceMul, Nat.reduceSub, Nat.reduceEqDiff, Nat.reduceLeDiff, Nat.reduceLT, Nat.reduceDiv, Nat.reduceMod, Int.reduceLE, Int.reduceLT, Int.reduceEq, Int.reduceNeg, Int.reduceAdd, Int.reduceSub, Int.reduceToNat, Nat.reducePow, Int.ofNat_zero, Int.natCast_one, Int.cast_ofNat_Int, *]; rfl))
    | refine imp_nt ?_
    | refine imp_nf ?_
    | refine imp_dt (fun _ => ?_)
    | refine imp_df (fun _ => ?_)
    | (refine fun (_ : _ = true) => ?_)
    | (refine fun (_ : _ = false) => ?_)
    | refine vg_t ?_ ?_
    | refine vg_f ?_ ?_)
    refine VC.wri h2 (by omega) (fun _ _ => rfl) fun e a3 m3 hB3 h3 => ?_
    obtain ⟨rfl, rfl⟩ := hB3.open (ks := []) (by unfold In; omega) rfl
    simp -implicitDefEqProofs only [eng, reduceIte, reduceCtorEq, Nat.reduceAdd, Nat.reduceMul, Nat.reduceSub, Nat.reduceEqDiff, Nat.reduceLeDiff, Nat.reduceLT, Nat.reduceDiv, Nat.reduceMod, Int.reduceLE, Int.reduceLT, Int.reduceEq, Int.reduceNeg, Int.reduceAdd, Int.reduceSub, Int.reduceToNat, Nat.reducePow, Int.ofNat_zero, Int.natCast_one, Int.cast_ofNat_Int, *]
    repeat' (first
    | refine VW.seq ?_
    | refine VW.block ?_
    | ((first | refine VW.skip ?_ | refine VW.exit ?_ | refine VW.reg ?_ | refine VW.regD ?_ | refine VW.ret ?_ | show goA _ _ _ _ _ _ _ _ _ _ | show goB _ _ _ _ _ _ _ _ _ | show goAD _ _ _ _ _ _ _ _ _ _ _ _ | show goBD _ _ _ _ _ _ _ _ _); simp -implicitDefEqProofs only [eng, reduceIte, reduceCtorEq, Nat.reduceAdd, Nat.reduceMul, Nat.reduceSub, Nat.reduceEqDiff, Nat.reduceLeDiff, Nat.reduceLT, Nat.reduceDiv, Nat.reduceMod, Int.reduceLE, Int.reduceLT, Int.reduceEq, Int.reduceNeg, Int.reduceAdd, Int.reduceSub, Int.reduceToNat, Nat.reducePow, Int.ofNat_zero, Int.natCast_one, Int.cast_ofNat_Int, *])
    | (refine VW.condT ?_ ?_; focus (simp -implicitDefEqProofs only [eng, reduceIte, reduceCtorEq, Nat.reduceAdd, Nat.reduceMul, Nat.reduceSub, Nat.reduceEqDiff, Nat.reduceLeDiff, Nat.reduceLT, Nat.reduceDiv, Nat.reduceMod, Int.reduceLE, Int.reduceLT, Int.reduceEq, Int.reduceNeg, Int.reduceAdd, Int.reduceSub, Int.reduceToNat, Nat.reducePow, Int.ofNat_zero, Int.natCast_one, Int.cast_ofNat_Int, *]; done))
    | (refine VW.condF ?_ ?_; focus (simp -implicitDefEqProofs only [eng, reduceIte, reduceCtorEq, Nat.reduceAdd, Nat.reduceMul, Nat.reduceSub, Nat.reduceEqDiff, Nat.reduceLeDiff, Nat.reduceLT, Nat.reduceDiv, Nat.reduceMod, Int.reduceLE, Int.reduceLT, Int.reduceEq, Int.reduceNeg, Int.reduceAdd, Int.reduceSub, Int.reduceToNat, Nat.reducePow, Int.ofNat_zero, Int.natCast_one, Int.cast_ofNat_Int, *]; done))
    | (apply VW.cond; focus (simp -implicitDefEqProofs only [eng, reduceIte, reduceCtorEq, Nat.reduceAdd, Nat.reduceMul, Nat.reduceSub, Nat.reduceEqDiff, Nat.reduceLeDiff, Nat.reduceLT, Nat.reduceDiv, Nat.reduceMod, Int.reduceLE, Int.reduceLT, Int.reduceEq, Int.reduceNeg, Int.reduceAdd, Int.reduceSub, Int.reduceToNat, Nat.reducePow, Int.ofNat_zero, Int.natCast_one, Int.cast_ofNat_Int, *]; rfl))
    | refine imp_nt ?_
    | refine imp_nf ?_
    | refine imp_dt (fun _ => ?_)
    | refine imp_df (fun _ => ?_)
    | (refine fun (_ : _ = true) => ?_)
    | (refine fun (_ : _ = false) => ?_)
    | refine vg_t ?_ ?_
    | refine vg_f ?_ ?_)
    refine VC.wri h3 (by omega) (fun _ _ => rfl) fun e a4 m4 hB4 h4 => ?_
    obtain ⟨rfl, rfl⟩ := hB4.open (ks := []) (by unfold In; omega) rfl
    simp -implicitDefEqProofs only [eng, reduceIte, reduceCtorEq, Nat.reduceAdd, Nat.reduceMul, Nat.reduceSub, Nat.reduceEqDiff, Nat.reduceLeDiff, Nat.reduceLT, Nat.reduceDiv, Nat.reduceMod, Int.reduceLE, Int.reduceLT, Int.reduceEq, Int.reduceNeg, Int.reduceAdd, Int.reduceSub, Int.reduceToNat, Nat.reducePow, Int.ofNat_zero, Int.natCast_one, Int.cast_ofNat_Int, *]
    repeat' (first
    | refine VW.seq ?_
    | refine VW.block ?_
    | ((first | refine VW.skip ?_ | refine VW.exit ?_ | refine VW.reg ?_ | refine VW.regD ?_ | refine VW.ret ?_ | show goA _ _ _ _ _ _ _ _ _ _ | show goB _ _ _ _ _ _ _ _ _ | show goAD _ _ _ _ _ _ _ _ _ _ _ _ | show goBD _ _ _ _ _ _ _ _ _); simp -implicitDefEqProofs only [eng, reduceIte, reduceCtorEq, Nat.reduceAdd, Nat.reduceMul, Nat.reduceSub, Nat.reduceEqDiff, Nat.reduceLeDiff, Nat.reduceLT, Nat.reduceDiv, Nat.reduceMod, Int.reduceLE, Int.reduceLT, Int.reduceEq, Int.reduceNeg, Int.reduceAdd, Int.reduceSub, Int.reduceToNat, Nat.reducePow, Int.ofNat_zero, Int.natCast_one, Int.cast_ofNat_Int, *])
    | (refine VW.condT ?_ ?_; focus (simp -implicitDefEqProofs only [eng, reduceIte, reduceCtorEq, Nat.reduceAdd, Nat.reduceMul, Nat.reduceSub, Nat.reduceEqDiff, Nat.reduceLeDiff, Nat.reduceLT, Nat.reduceDiv, Nat.reduceMod, Int.reduceLE, Int.reduceLT, Int.reduceEq, Int.reduceNeg, Int.reduceAdd, Int.reduceSub, Int.reduceToNat, Nat.reducePow, Int.ofNat_zero, Int.natCast_one, Int.cast_ofNat_Int, *]; done))
    | (refine VW.condF ?_ ?_; focus (simp -implicitDefEqProofs only [eng, reduceIte, reduceCtorEq, Nat.reduceAdd, Nat.reduceMul, Nat.reduceSub, Nat.reduceEqDiff, Nat.reduceLeDiff, Nat.reduceLT, Nat.reduceDiv, Nat.reduceMod, Int.reduceLE, Int.reduceLT, Int.reduceEq, Int.reduceNeg, Int.reduceAdd, Int.reduceSub, Int.reduceToNat, Nat.reducePow, Int.ofNat_zero, Int.natCast_one, Int.cast_ofNat_Int, *]; done))
    | (apply VW.cond; focus (simp -implicitDefEqProofs only [eng, reduceIte, reduceCtorEq, Nat.reduceAdd, Nat.reduceMul, Nat.reduceSub, Nat.reduceEqDiff, Nat.reduceLeDiff, Nat.reduceLT, Nat.reduceDiv, Nat.reduceMod, Int.reduceLE, Int.reduceLT, Int.reduceEq, Int.reduceNeg, Int.reduceAdd, Int.reduceSub, Int.reduceToNat, Nat.reducePow, Int.ofNat_zero, Int.natCast_one, Int.cast_ofNat_Int, *]; rfl))
    | refine imp_nt ?_
    | refine imp_nf ?_
    | refine imp_dt (fun _ => ?_)
    | refine imp_df (fun _ => ?_)
    | (refine fun (_ : _ = true) => ?_)
    | (refine fun (_ : _ = false) => ?_)
    | refine vg_t ?_ ?_
    | refine vg_f ?_ ?_)
    have hJ : I4 ((((a.beg 0).beg 1).wri 0 (max a.h a.c) (addK [] key)).wri 1 (max (a.beg 0).h (a.beg 0).c) (addK [] key)) key := by
      refine ⟨c0, by show a.c ≤ 80; omega, by show max (max a.h a.c) a.c = a.c; omega, ?_, ?_, hI.wr⟩
      · show some (max a.h a.c, addK [] key) = some (a.c, [key])
        rw [show max a.h a.c = a.c by omega]; rfl
      · show some (max (max a.h a.c) a.c, addK [] key) = some (a.c, [key])
        rw [show max (max a.h a.c) a.c = a.c by omega]; rfl
    refine VW.forN (min l.length 20) (J4 l key _ _) 0 (by omega) ⟨_, M, by simp -implicitDefEqProofs only [eng, reduceIte, reduceCtorEq, Nat.reduceAdd, Nat.reduceMul, Nat.reduceSub, Nat.reduceEqDiff, Nat.reduceLeDiff, Nat.reduceLT, Nat.reduceDiv, Nat.reduceMod, Int.reduceLE, Int.reduceLT, Int.reduceEq, Int.reduceNeg, Int.reduceAdd, Int.reduceSub, Int.reduceToNat, Nat.reducePow, Int.ofNat_zero, Int.natCast_one, Int.cast_ofNat_Int, *], by simp -implicitDefEqProofs only [eng, reduceIte, reduceCtorEq, Nat.reduceAdd, Nat.reduceMul, Nat.reduceSub, Nat.reduceEqDiff, Nat.reduceLeDiff, Nat.reduceLT, Nat.reduceDiv, Nat.reduceMod, Int.reduceLE, Int.reduceLT, Int.reduceEq, Int.reduceNeg, Int.reduceAdd, Int.reduceSub, Int.reduceToNat, Nat.reducePow, Int.ofNat_zero, Int.natCast_one, Int.cast_ofNat_Int, *], by simp -implicitDefEqProofs only [eng, reduceIte, reduceCtorEq, Nat.reduceAdd, Nat.reduceMul, Nat.reduceSub, Nat.reduceEqDiff, Nat.reduceLeDiff, Nat.reduceLT, Nat.reduceDiv, Nat.reduceMod, Int.reduceLE, Int.reduceLT, Int.reduceEq, Int.reduceNeg, Int.reduceAdd, Int.reduceSub, Int.reduceToNat, Nat.reducePow, Int.ofNat_zero, Int.natCast_one, Int.cast_ofNat_Int] <;> rfl, by simp -implicitDefEqProofs only [eng, reduceIte, reduceCtorEq, Nat.reduceAdd, Nat.reduceMul, Nat.reduceSub, Nat.reduceEqDiff, Nat.reduceLeDiff, Nat.reduceLT, Nat.reduceDiv, Nat.reduceMod, Int.reduceLE, Int.reduceLT, Int.reduceEq, Int.reduceNeg, Int.reduceAdd, Int.reduceSub, Int.reduceToNat, Nat.reducePow, Int.ofNat_zero, Int.natCast_one, Int.cast_ofNat_Int] <;> rfl, by simp -implicitDefEqProofs only [eng, reduceIte, reduceCtorEq, Nat.reduceAdd, Nat.reduceMul, Nat.reduceSub, Nat.reduceEqDiff, Nat.reduceLeDiff, Nat.reduceLT, Nat.reduceDiv, Nat.reduceMod, Int.reduceLE, Int.reduceLT, Int.reduceEq, Int.reduceNeg, Int.reduceAdd, Int.reduceSub, Int.reduceToNat, Nat.reducePow, Int.ofNat_zero, Int.natCast_one, Int.cast_ofNat_Int] <;> rfl, h4.mono (by omega), hJ⟩ ?_
    clear hJ hv1 hv2 h4 h3 h2 h1 hB hB' hB3 hB4 hI hm e0 e1 e2 e7 e8 hin' hn hii hi c0 c1 ch m m1 m2 m3 m4 v v' a M e nx
    rintro i e m nx hi ⟨a, M, e0, e7, e9, e10, e11, hm, hI⟩
    by_cases hn : i < min l.length 20
    · have hin' : (i : Int) < l.length := by omega
      have hi20 : (i : Int) < 20 := by omega
      obtain ⟨d, hd⟩ := get_of (l := l) (i := i) (by omega)
      have hd' : (dds l)[i]? = some [iv d.k, iv d.i, .str d.key, iv d.n] := by rw [dds_get, hd]; rfl
      have hsl := hl d (List.mem_of_getElem? hd)
      have hadd : strOp .add d.key [120] = some (.str (d.key ++ [120])) := by
        have : IntKind.i64.max = 9223372036854775807 := rfl
        unfold strOp
        simp only []
        rw [if_pos (by simp only [List.length_cons, List.length_nil]; omega)]
      have h00 : (0 : Int) ≤ i := by omega
      have htn : (i : Int).toNat = i := Int.toNat_natCast i
      have hw := i64_nat (n := i) (by omega)
      obtain ⟨t, ht, ht2⟩ := and1 d.i
      obtain ⟨z, hz, hz2⟩ : ∃ z, IntKind.i64.wrap (2 + t) = z ∧ (z = 2 ∨ z = 3) := ⟨_, rfl, by rw [IntWalk.i64_in _ (by omega)]; omega⟩
      repeat' (first
    | refine VW.seq ?_
    | refine VW.block ?_
    | ((first | refine VW.skip ?_ | refine VW.exit ?_ | refine VW.reg ?_ | refine VW.regD ?_ | refine VW.ret ?_ | show goA _ _ _ _ _ _ _ _ _ _ | show goB _ _ _ _ _ _ _ _ _ | show goAD _ _ _ _ _ _ _ _ _ _ _ _ | show goBD _ _ _ _ _ _ _ _ _); simp -implicitDefEqProofs only [eng, reduceIte, reduceCtorEq, Nat.reduceAdd, Nat.reduceMul, Nat.reduceSub, Nat.reduceEqDiff, Nat.reduceLeDiff, Nat.reduceLT, Nat.reduceDiv, Nat.reduceMod, Int.reduceLE, Int.reduceLT, Int.reduceEq, Int.reduceNeg, Int.reduceAdd, Int.reduceSub, Int.reduceToNat, Nat.reducePow, Int.ofNat_zero, Int.natCast_one, Int.cast_ofNat_Int, *])
    | (refine VW.condT ?_ ?_; focus (simp -implicitDefEqProofs only [eng, reduceIte, reduceCtorEq, Nat.reduceAdd, Nat.reduceMul, Nat.reduceSub, Nat.reduceEqDiff, Nat.reduceLeDiff, Nat.reduceLT, Nat.reduceDiv, Nat.reduceMod, Int.reduceLE, Int.reduceLT, Int.reduceEq, Int.reduceNeg, Int.reduceAdd, Int.reduceSub, Int.reduceToNat, Nat.reducePow, Int.ofNat_zero, Int.natCast_one, Int.cast_ofNat_Int, *]; done))
    | (refine VW.condF ?_ ?_; focus (simp -implicitDefEqProofs only [eng, reduceIte, reduceCtorEq, Nat.reduceAdd, Nat.reduceMul, Nat.reduceSub, Nat.reduceEqDiff, Nat.reduceLeDiff, Nat.reduceLT, Nat.reduceDiv, Nat.reduceMod, Int.reduceLE, Int.reduceLT, Int.reduceEq, Int.reduceNeg, Int.reduceAdd, Int.reduceSub, Int.reduceToNat, Nat.reducePow, Int.ofNat_zero, Int.natCast_one, Int.cast_ofNat_Int, *]; done))
    | (apply VW.cond; focus (simp -implicitDefEqProofs only [eng, reduceIte, reduceCtorEq, Nat.reduceAdd, Nat.reduceMul, Nat.reduceSub, Nat.reduceEqDiff, Nat.reduceLeDiff, Nat.reduceLT, Nat.reduceDiv, Nat.reduceMod, Int.reduceLE, Int.reduceLT, Int.reduceEq, Int.reduceNeg, Int.reduceAdd, Int.reduceSub, Int.reduceToNat, Nat.reducePow, Int.ofNat_zero, Int.natCast_one, Int.cast_ofNat_Int, *]; rfl))
    | refine imp_nt ?_
    | refine imp_nf ?_
    | refine imp_dt (fun _ => ?_)
    | refine imp_df (fun _ => ?_)
    | (refine fun (_ : _ = true) => ?_)
    | (refine fun (_ : _ = false) => ?_)
    | refine vg_t ?_ ?_
    | refine vg_f ?_ ?_)
      refine VC.beg hm (by omega) (fun _ _ => rfl) fun v e a1 m1 hB h1 => ?_
      have hI1 := hI.beg hz2 hB
      clear hB hI
      simp -implicitDefEqProofs only [eng, reduceIte, reduceCtorEq, Nat.reduceAdd, Nat.reduceMul, Nat.reduceSub, Nat.reduceEqDiff, Nat.reduceLeDiff, Nat.reduceLT, Nat.reduceDiv, Nat.reduceMod, Int.reduceLE, Int.reduceLT, Int.reduceEq, Int.reduceNeg, Int.reduceAdd, Int.reduceSub, Int.reduceToNat, Nat.reducePow, Int.ofNat_zero, Int.natCast_one, Int.cast_ofNat_Int]
      repeat' (first
    | refine VW.seq ?_
    | refine VW.block ?_
    | ((first | refine VW.skip ?_ | refine VW.exit ?_ | refine VW.reg ?_ | refine VW.regD ?_ | refine VW.ret ?_ | show goA _ _ _ _ _ _ _ _ _ _ | show goB _ _ _ _ _ _ _ _ _ | show goAD _ _ _ _ _ _ _ _ _ _ _ _ | show goBD _ _ _ _ _ _ _ _ _); simp -implicitDefEqProofs only [eng, reduceIte, reduceCtorEq, Nat.reduceAdd, Nat.reduceMul, Nat.reduceSub, Nat.reduceEqDiff, Nat.reduceLeDiff, Nat.reduceLT, Nat.reduceDiv, Nat.reduceMod, Int.reduceLE, Int.reduceLT, Int.reduceEq, Int.reduceNeg, Int.reduceAdd, Int.reduceSub, Int.reduceToNat, Nat.reducePow, Int.ofNat_zero, Int.natCast_one, Int.cast_ofNat_Int, *])
    | (refine VW.condT ?_ ?_; focus (simp -implicitDefEqProofs only [eng, reduceIte, reduceCtorEq, Nat.reduceAdd, Nat.reduceMul, Nat.reduceSub, Nat.reduceEqDiff, Nat.reduceLeDiff, Nat.reduceLT, Nat.reduceDiv, Nat.reduceMod, Int.reduceLE, Int.reduceLT, Int.reduceEq, Int.reduceNeg, Int.reduceAdd, Int.reduceSub, Int.reduceToNat, Nat.reducePow, Int.ofNat_zero, Int.natCast_one, Int.cast_ofNat_Int, *]; done))
    | (refine VW.condF ?_ ?_; focus (simp -implicitDefEqProofs only [eng, reduceIte, reduceCtorEq, Nat.reduceAdd, Nat.reduceMul, Nat.reduceSub, Nat.reduceEqDiff, Nat.reduceLeDiff, Nat.reduceLT, Nat.reduceDiv, Nat.reduceMod, Int.reduceLE, Int.reduceLT, Int.reduceEq, Int.reduceNeg, Int.reduceAdd, Int.reduceSub, Int.reduceToNat, Nat.reducePow, Int.ofNat_zero, Int.natCast_one, Int.cast_ofNat_Int, *]; done))
    | (apply VW.cond; focus (simp -implicitDefEqProofs only [eng, reduceIte, reduceCtorEq, Nat.reduceAdd, Nat.reduceMul, Nat.reduceSub, Nat.reduceEqDiff, Nat.reduceLeDiff, Nat.reduceLT, Nat.reduceDiv, Nat.reduceMod, Int.reduceLE, Int.reduceLT, Int.reduceEq, Int.reduceNeg, Int.reduceAdd, Int.reduceSub, Int.reduceToNat, Nat.reducePow, Int.ofNat_zero, Int.natCast_one, Int.cast_ofNat_Int, *]; rfl))
    | refine imp_nt ?_
    | refine imp_nf ?_
    | refine imp_dt (fun _ => ?_)
    | refine imp_df (fun _ => ?_)
    | (refine fun (_ : _ = true) => ?_)
    | (refine fun (_ : _ = false) => ?_)
    | refine vg_t ?_ ?_
    | refine vg_f ?_ ?_)
      refine VC.wri h1 (by omega) (fun id hid => restr_old (by omega)) fun e a2 m2 hB h2 => ?_
      have hI2 := hI1.wri hz2 hB
      clear hB hI1 hadd
      simp -implicitDefEqProofs only [eng, reduceIte, reduceCtorEq, Nat.reduceAdd, Nat.reduceMul, Nat.reduceSub, Nat.reduceEqDiff, Nat.reduceLeDiff, Nat.reduceLT, Nat.reduceDiv, Nat.reduceMod, Int.reduceLE, Int.reduceLT, Int.reduceEq, Int.reduceNeg, Int.reduceAdd, Int.reduceSub, Int.reduceToNat, Nat.reducePow, Int.ofNat_zero, Int.natCast_one, Int.cast_ofNat_Int]
      repeat' (first
    | refine VW.seq ?_
    | refine VW.block ?_
    | ((first | refine VW.skip ?_ | refine VW.exit ?_ | refine VW.reg ?_ | refine VW.regD ?_ | refine VW.ret ?_ | show goA _ _ _ _ _ _ _ _ _ _ | show goB _ _ _ _ _ _ _ _ _ | show goAD _ _ _ _ _ _ _ _ _ _ _ _ | show goBD _ _ _ _ _ _ _ _ _); simp -implicitDefEqProofs only [eng, reduceIte, reduceCtorEq, Nat.reduceAdd, Nat.reduceMul, Nat.reduceSub, Nat.reduceEqDiff, Nat.reduceLeDiff, Nat.reduceLT, Nat.reduceDiv, Nat.reduceMod, Int.reduceLE, Int.reduceLT, Int.reduceEq, Int.reduceNeg, Int.reduceAdd, Int.reduceSub, Int.reduceToNat, Nat.reducePow, Int.ofNat_zero, Int.natCast_one, Int.cast_ofNat_Int, *])
    | (refine VW.condT ?_ ?_; focus (simp -implicitDefEqProofs only [eng, reduceIte, reduceCtorEq, Nat.reduceAdd, Nat.reduceMul, Nat.reduceSub, Nat.reduceEqDiff, Nat.reduceLeDiff, Nat.reduceLT, Nat.reduceDiv, Nat.reduceMod, Int.reduceLE, Int.reduceLT, Int.reduceEq, Int.reduceNeg, Int.reduceAdd, Int.reduceSub, Int.reduceToNat, Nat.reducePow, Int.ofNat_zero, Int.natCast_one, Int.cast_ofNat_Int, *]; done))
    | (refine VW.condF ?_ ?_; focus (simp -implicitDefEqProofs only [eng, reduceIte, reduceCtorEq, Nat.reduceAdd, Nat.reduceMul, Nat.reduceSub, Nat.reduceEqDiff, Nat.reduceLeDiff, Nat.reduceLT, Nat.reduceDiv, Nat.reduceMod, Int.reduceLE, Int.reduceLT, Int.reduceEq, Int.reduceNeg, Int.reduceAdd, Int.reduceSub, Int.reduceToNat, Nat.reducePow, Int.ofNat_zero, Int.natCast_one, Int.cast_ofNat_Int, *]; done))
    | (apply VW.cond; focus (simp -implicitDefEqProofs only [eng, reduceIte, reduceCtorEq, Nat.reduceAdd, Nat.reduceMul, Nat.reduceSub, Nat.reduceEqDiff, Nat.reduceLeDiff, Nat.reduceLT, Nat.reduceDiv, Nat.reduceMod, Int.reduceLE, Int.reduceLT, Int.reduceEq, Int.reduceNeg, Int.reduceAdd, Int.reduceSub, Int.reduceToNat, Nat.reducePow, Int.ofNat_zero, Int.natCast_one, Int.cast_ofNat_Int, *]; rfl))
    | refine imp_nt ?_
    | refine imp_nf ?_
    | refine imp_dt (fun _ => ?_)
    | refine imp_df (fun _ => ?_)
    | (refine fun (_ : _ = true) => ?_)
    | (refine fun (_ : _ = false) => ?_)
    | refine vg_t ?_ ?_
    | refine vg_f ?_ ?_)
      exact ⟨_, M, by simp -implicitDefEqProofs only [eng, reduceIte, reduceCtorEq, Nat.reduceAdd, Nat.reduceMul, Nat.reduceSub, Nat.reduceEqDiff, Nat.reduceLeDiff, Nat.reduceLT, Nat.reduceDiv, Nat.reduceMod, Int.reduceLE, Int.reduceLT, Int.reduceEq, Int.reduceNeg, Int.reduceAdd, Int.reduceSub, Int.reduceToNat, Nat.reducePow, Int.ofNat_zero, Int.natCast_one, Int.cast_ofNat_Int, *], by simp -implicitDefEqProofs only [eng, reduceIte, reduceCtorEq, Nat.reduceAdd, Nat.reduceMul, Nat.reduceSub, Nat.reduceEqDiff, Nat.reduceLeDiff, Nat.reduceLT, Nat.reduceDiv, Nat.reduceMod, Int.reduceLE, Int.reduceLT, Int.reduceEq, Int.reduceNeg, Int.reduceAdd, Int.reduceSub, Int.reduceToNat, Nat.reducePow, Int.ofNat_zero, Int.natCast_one, Int.cast_ofNat_Int, *], by simp -implicitDefEqProofs only [eng, reduceIte, reduceCtorEq, Nat.reduceAdd, Nat.reduceMul, Nat.reduceSub, Nat.reduceEqDiff, Nat.reduceLeDiff, Nat.reduceLT, Nat.reduceDiv, Nat.reduceMod, Int.reduceLE, Int.reduceLT, Int.reduceEq, Int.reduceNeg, Int.reduceAdd, Int.reduceSub, Int.reduceToNat, Nat.reducePow, Int.ofNat_zero, Int.natCast_one, Int.cast_ofNat_Int, *], by simp -implicitDefEqProofs only [eng, reduceIte, reduceCtorEq, Nat.reduceAdd, Nat.reduceMul, Nat.reduceSub, Nat.reduceEqDiff, Nat.reduceLeDiff, Nat.reduceLT, Nat.reduceDiv, Nat.reduceMod, Int.reduceLE, Int.reduceLT, Int.reduceEq, Int.reduceNeg, Int.reduceAdd, Int.reduceSub, Int.reduceToNat, Nat.reducePow, Int.ofNat_zero, Int.natCast_one, Int.cast_ofNat_Int, *], by simp -implicitDefEqProofs only [eng, reduceIte, reduceCtorEq, Nat.reduceAdd, Nat.reduceMul, Nat.reduceSub, Nat.reduceEqDiff, Nat.reduceLeDiff, Nat.reduceLT, Nat.reduceDiv, Nat.reduceMod, Int.reduceLE, Int.reduceLT, Int.reduceEq, Int.reduceNeg, Int.reduceAdd, Int.reduceSub, Int.reduceToNat, Nat.reducePow, Int.ofNat_zero, Int.natCast_one, Int.cast_ofNat_Int, *], h2.mono (by omega), hI2⟩
    rcases (show (i = 20 ∧ (20 : Int) < l.length) ∨ ¬ (i : Int) < l.length by omega) with ⟨rfl, hin'⟩ | hin'
    all_goals
      repeat' (first
    | refine VW.seq ?_
    | refine VW.block ?_
    | ((first | refine VW.skip ?_ | refine VW.exit ?_ | refine VW.reg ?_ | refine VW.regD ?_ | refine VW.ret ?_ | show goA _ _ _ _ _ _ _ _ _ _ | show goB _ _ _ _ _ _ _ _ _ | show goAD _ _ _ _ _ _ _ _ _ _ _ _ | show goBD _ _ _ _ _ _ _ _ _); simp -implicitDefEqProofs only [eng, reduceIte, reduceCtorEq, Nat.reduceAdd, Nat.reduceMul, Nat.reduceSub, Nat.reduceEqDiff, Nat.reduceLeDiff, Nat.reduceLT, Nat.reduceDiv, Nat.reduceMod, Int.reduceLE, Int.reduceLT, Int.reduceEq, Int.reduceNeg, Int.reduceAdd, Int.reduceSub, Int.reduceToNat, Nat.reducePow, Int.ofNat_zero, Int.natCast_one, Int.cast_ofNat_Int, *])
    | (refine VW.condT ?_ ?_; focus (simp -implicitDefEqProofs only [eng, reduceIte, reduceCtorEq, Nat.reduceAdd, Nat.reduceMul, Nat.reduceSub, Nat.reduceEqDiff, Nat.reduceLeDiff, Nat.reduceLT, Nat.reduceDiv, Nat.reduceMod, Int.reduceLE, Int.reduceLT, Int.reduceEq, Int.reduceNeg, Int.reduceAdd, Int.reduceSub, Int.reduceToNat, Nat.reducePow, Int.ofNat_zero, Int.natCast_one, Int.cast_ofNat_Int, *]; done))
    | (refine VW.condF ?_ ?_; focus (simp -implicitDefEqProofs only [eng, reduceIte, reduceCtorEq, Nat.reduceAdd, Nat.reduceMul, Nat.reduceSub, Nat.reduceEqDiff, Nat.reduceLeDiff, Nat.reduceLT, Nat.reduceDiv, Nat.reduceMod, Int.reduceLE, Int.reduceLT, Int.reduceEq, Int.reduceNeg, Int.reduceAdd, Int.reduceSub, Int.reduceToNat, Nat.reducePow, Int.ofNat_zero, Int.natCast_one, Int.cast_ofNat_Int, *]; done))
    | (apply VW.cond; focus (simp -implicitDefEqProofs only [eng, reduceIte, reduceCtorEq, Nat.reduceAdd, Nat.reduceMul, Nat.reduceSub, Nat.reduceEqDiff, Nat.reduceLeDiff, Nat.reduceLT, Nat.reduceDiv, Nat.reduceMod, Int.reduceLE, Int.reduceLT, Int.reduceEq, Int.reduceNeg, Int.reduceAdd, Int.reduceSub, Int.reduceToNat, Nat.reducePow, Int.ofNat_zero, Int.natCast_one, Int.cast_ofNat_Int, *]; rfl))
    | refine imp_nt ?_
    | refine imp_nf ?_
    | refine imp_dt (fun _ => ?_)
    | refine imp_df (fun _ => ?_)
    | (refine fun (_ : _ = true) => ?_)
    | (refine fun (_ : _ = false) => ?_)
    | refine vg_t ?_ ?_
    | refine vg_f ?_ ?_)
      refine VC.com hm (by omega) fun v e a1 m1 hB h1 => ?_
      obtain ⟨hv, rfl, rfl⟩ := hB.good (by unfold In; omega) (by first | exact hI.s0 | exact hI.s1) hI.test
      have i1 := hI.c0
      have i2 := hI.c1
      have i3 := hI.h
      have hv' : v = a.c + 1 := by rw [hv, IntWalk.i64_in _ (by omega)]; omega
      simp -implicitDefEqProofs only [eng, reduceIte, reduceCtorEq, Nat.reduceAdd, Nat.reduceMul, Nat.reduceSub, Nat.reduceEqDiff, Nat.reduceLeDiff, Nat.reduceLT, Nat.reduceDiv, Nat.reduceMod, Int.reduceLE, Int.reduceLT, Int.reduceEq, Int.reduceNeg, Int.reduceAdd, Int.reduceSub, Int.reduceToNat, Nat.reducePow, Int.ofNat_zero, Int.natCast_one, Int.cast_ofNat_Int, *]
      repeat' (first
    | refine VW.seq ?_
    | refine VW.block ?_
    | ((first | refine VW.skip ?_ | refine VW.exit ?_ | refine VW.reg ?_ | refine VW.regD ?_ | refine VW.ret ?_ | show goA _ _ _ _ _ _ _ _ _ _ | show goB _ _ _ _ _ _ _ _ _ | show goAD _ _ _ _ _ _ _ _ _ _ _ _ | show goBD _ _ _ _ _ _ _ _ _); simp -implicitDefEqProofs only [eng, reduceIte, reduceCtorEq, Nat.reduceAdd, Nat.reduceMul, Nat.reduceSub, Nat.reduceEqDiff, Nat.reduceLeDiff, Nat.reduceLT, Nat.reduceDiv, Nat.reduceMod, Int.reduceLE, Int.reduceLT, Int.reduceEq, Int.reduceNeg, Int.reduceAdd, Int.reduceSub, Int.reduceToNat, Nat.reducePow, Int.ofNat_zero, Int.natCast_one, Int.cast_ofNat_Int, *])
    | (refine VW.condT ?_ ?_; focus (simp -implicitDefEqProofs only [eng, reduceIte, reduceCtorEq, Nat.reduceAdd, Nat.reduceMul, Nat.reduceSub, Nat.reduceEqDiff, Nat.reduceLeDiff, Nat.reduceLT, Nat.reduceDiv, Nat.reduceMod, Int.reduceLE, Int.reduceLT, Int.reduceEq, Int.reduceNeg, Int.reduceAdd, Int.reduceSub, Int.reduceToNat, Nat.reducePow, Int.ofNat_zero, Int.natCast_one, Int.cast_ofNat_Int, *]; done))
    | (refine VW.condF ?_ ?_; focus (simp -implicitDefEqProofs only [eng, reduceIte, reduceCtorEq, Nat.reduceAdd, Nat.reduceMul, Nat.reduceSub, Nat.reduceEqDiff, Nat.reduceLeDiff, Nat.reduceLT, Nat.reduceDiv, Nat.reduceMod, Int.reduceLE, Int.reduceLT, Int.reduceEq, Int.reduceNeg, Int.reduceAdd, Int.reduceSub, Int.reduceToNat, Nat.reducePow, Int.ofNat_zero, Int.natCast_one, Int.cast_ofNat_Int, *]; done))
    | (apply VW.cond; focus (simp -implicitDefEqProofs only [eng, reduceIte, reduceCtorEq, Nat.reduceAdd, Nat.reduceMul, Nat.reduceSub, Nat.reduceEqDiff, Nat.reduceLeDiff, Nat.reduceLT, Nat.reduceDiv, Nat.reduceMod, Int.reduceLE, Int.reduceLT, Int.reduceEq, Int.reduceNeg, Int.reduceAdd, Int.reduceSub, Int.reduceToNat, Nat.reducePow, Int.ofNat_zero, Int.natCast_one, Int.cast_ofNat_Int, *]; rfl))
    | refine imp_nt ?_
    | refine imp_nf ?_
    | refine imp_dt (fun _ => ?_)
    | refine imp_df (fun _ => ?_)
    | (refine fun (_ : _ = true) => ?_)
    | (refine fun (_ : _ = false) => ?_)
    | refine vg_t ?_ ?_
    | refine vg_f ?_ ?_)
      refine VC.com h1 (by omega) fun v2 e a2 m2 hB2 h2 => ?_
      have hl := fun i => hI.last (i := i) hv'
      obtain ⟨rfl, he, rfl⟩ := hB2.bad (by unfold In; omega) (by first | exact hI.s1 | exact hI.s0) (by rw [hl _]; decide)
      obtain rfl : e = 13 := by rw [he]; exact hl _
      simp -implicitDefEqProofs only [eng, reduceIte, reduceCtorEq, Nat.reduceAdd, Nat.reduceMul, Nat.reduceSub, Nat.reduceEqDiff, Nat.reduceLeDiff, Nat.reduceLT, Nat.reduceDiv, Nat.reduceMod, Int.reduceLE, Int.reduceLT, Int.reduceEq, Int.reduceNeg, Int.reduceAdd, Int.reduceSub, Int.reduceToNat, Nat.reducePow, Int.ofNat_zero, Int.natCast_one, Int.cast_ofNat_Int, *]
      repeat' (first
    | refine VW.seq ?_
    | refine VW.block ?_
    | ((first | refine VW.skip ?_ | refine VW.exit ?_ | refine VW.reg ?_ | refine VW.regD ?_ | refine VW.ret ?_ | show goA _ _ _ _ _ _ _ _ _ _ | show goB _ _ _ _ _ _ _ _ _ | show goAD _ _ _ _ _ _ _ _ _ _ _ _ | show goBD _ _ _ _ _ _ _ _ _); simp -implicitDefEqProofs only [eng, reduceIte, reduceCtorEq, Nat.reduceAdd, Nat.reduceMul, Nat.reduceSub, Nat.reduceEqDiff, Nat.reduceLeDiff, Nat.reduceLT, Nat.reduceDiv, Nat.reduceMod, Int.reduceLE, Int.reduceLT, Int.reduceEq, Int.reduceNeg, Int.reduceAdd, Int.reduceSub, Int.reduceToNat, Nat.reducePow, Int.ofNat_zero, Int.natCast_one, Int.cast_ofNat_Int, *])
    | (refine VW.condT ?_ ?_; focus (simp -implicitDefEqProofs only [eng, reduceIte, reduceCtorEq, Nat.reduceAdd, Nat.reduceMul, Nat.reduceSub, Nat.reduceEqDiff, Nat.reduceLeDiff, Nat.reduceLT, Nat.reduceDiv, Nat.reduceMod, Int.reduceLE, Int.reduceLT, Int.reduceEq, Int.reduceNeg, Int.reduceAdd, Int.reduceSub, Int.reduceToNat, Nat.reducePow, Int.ofNat_zero, Int.natCast_one, Int.cast_ofNat_Int, *]; done))
    | (refine VW.condF ?_ ?_; focus (simp -implicitDefEqProofs only [eng, reduceIte, reduceCtorEq, Nat.reduceAdd, Nat.reduceMul, Nat.reduceSub, Nat.reduceEqDiff, Nat.reduceLeDiff, Nat.reduceLT, Nat.reduceDiv, Nat.reduceMod, Int.reduceLE, Int.reduceLT, Int.reduceEq, Int.reduceNeg, Int.reduceAdd, Int.reduceSub, Int.reduceToNat, Nat.reducePow, Int.ofNat_zero, Int.natCast_one, Int.cast_ofNat_Int, *]; done))
    | (apply VW.cond; focus (simp -implicitDefEqProofs only [eng, reduceIte, reduceCtorEq, Nat.reduceAdd, Nat.reduceMul, Nat.reduceSub, Nat.reduceEqDiff, Nat.reduceLeDiff, Nat.reduceLT, Nat.reduceDiv, Nat.reduceMod, Int.reduceLE, Int.reduceLT, Int.reduceEq, Int.reduceNeg, Int.reduceAdd, Int.reduceSub, Int.reduceToNat, Nat.reducePow, Int.ofNat_zero, Int.natCast_one, Int.cast_ofNat_Int, *]; rfl))
    | refine imp_nt ?_
    | refine imp_nf ?_
    | refine imp_dt (fun _ => ?_)
    | refine imp_df (fun _ => ?_)
    | (refine fun (_ : _ = true) => ?_)
    | (refine fun (_ : _ = false) => ?_)
    | refine vg_t ?_ ?_
    | refine vg_f ?_ ?_)
      refine VC.opnE (r := true) h2 (by omega) (fun _ _ => rfl) (by first | exact congrArg Option.isSome hI.s1 | exact congrArg Option.isSome hI.s0) ?_
      simp -implicitDefEqProofs only [eng, reduceIte, reduceCtorEq, Nat.reduceAdd, Nat.reduceMul, Nat.reduceSub, Nat.reduceEqDiff, Nat.reduceLeDiff, Nat.reduceLT, Nat.reduceDiv, Nat.reduceMod, Int.reduceLE, Int.reduceLT, Int.reduceEq, Int.reduceNeg, Int.reduceAdd, Int.reduceSub, Int.reduceToNat, Nat.reducePow, Int.ofNat_zero, Int.natCast_one, Int.cast_ofNat_Int, *]
      repeat' (first
    | refine VW.seq ?_
    | refine VW.block ?_
    | ((first | refine VW.skip ?_ | refine VW.exit ?_ | refine VW.reg ?_ | refine VW.regD ?_ | refine VW.ret ?_ | show goA _ _ _ _ _ _ _ _ _ _ | show goB _ _ _ _ _ _ _ _ _ | show goAD _ _ _ _ _ _ _ _ _ _ _ _ | show goBD _ _ _ _ _ _ _ _ _); simp -implicitDefEqProofs only [eng, reduceIte, reduceCtorEq, Nat.reduceAdd, Nat.reduceMul, Nat.reduceSub, Nat.reduceEqDiff, Nat.reduceLeDiff, Nat.reduceLT, Nat.reduceDiv, Nat.reduceMod, Int.reduceLE, Int.reduceLT, Int.reduceEq, Int.reduceNeg, Int.reduceAdd, Int.reduceSub, Int.reduceToNat, Nat.reducePow, Int.ofNat_zero, Int.natCast_one, Int.cast_ofNat_Int, *])
    | (refine VW.condT ?_ ?_; focus (simp -implicitDefEqProofs only [eng, reduceIte, reduceCtorEq, Nat.reduceAdd, Nat.reduceMul, Nat.reduceSub, Nat.reduceEqDiff, Nat.reduceLeDiff, Nat.reduceLT, Nat.reduceDiv, Nat.reduceMod, Int.reduceLE, Int.reduceLT, Int.reduceEq, Int.reduceNeg, Int.reduceAdd, Int.reduceSub, Int.reduceToNat, Nat.reducePow, Int.ofNat_zero, Int.natCast_one, Int.cast_ofNat_Int, *]; done))
    | (refine VW.condF ?_ ?_; focus (simp -implicitDefEqProofs only [eng, reduceIte, reduceCtorEq, Nat.reduceAdd, Nat.reduceMul, Nat.reduceSub, Nat.reduceEqDiff, Nat.reduceLeDiff, Nat.reduceLT, Nat.reduceDiv, Nat.reduceMod, Int.reduceLE, Int.reduceLT, Int.reduceEq, Int.reduceNeg, Int.reduceAdd, Int.reduceSub, Int.reduceToNat, Nat.reducePow, Int.ofNat_zero, Int.natCast_one, Int.cast_ofNat_Int, *]; done))
    | (apply VW.cond; focus (simp -implicitDefEqProofs only [eng, reduceIte, reduceCtorEq, Nat.reduceAdd, Nat.reduceMul, Nat.reduceSub, Nat.reduceEqDiff, Nat.reduceLeDiff, Nat.reduceLT, Nat.reduceDiv, Nat.reduceMod, Int.reduceLE, Int.reduceLT, Int.reduceEq, Int.reduceNeg, Int.reduceAdd, Int.reduceSub, Int.reduceToNat, Nat.reducePow, Int.ofNat_zero, Int.natCast_one, Int.cast_ofNat_Int, *]; rfl))
    | refine imp_nt ?_
    | refine imp_nf ?_
    | refine imp_dt (fun _ => ?_)
    | refine imp_df (fun _ => ?_)
    | (refine fun (_ : _ = true) => ?_)
    | (refine fun (_ : _ = false) => ?_)
    | refine vg_t ?_ ?_
    | refine vg_f ?_ ?_)
      refine VC.opnE (r := false) h2 (by omega) (fun _ _ => rfl) rfl ?_
      simp -implicitDefEqProofs only [eng, reduceIte, reduceCtorEq, Nat.reduceAdd, Nat.reduceMul, Nat.reduceSub, Nat.reduceEqDiff, Nat.reduceLeDiff, Nat.reduceLT, Nat.reduceDiv, Nat.reduceMod, Int.reduceLE, Int.reduceLT, Int.reduceEq, Int.reduceNeg, Int.reduceAdd, Int.reduceSub, Int.reduceToNat, Nat.reducePow, Int.ofNat_zero, Int.natCast_one, Int.cast_ofNat_Int, *]
      repeat' (first
    | refine VW.seq ?_
    | refine VW.block ?_
    | ((first | refine VW.skip ?_ | refine VW.exit ?_ | refine VW.reg ?_ | refine VW.regD ?_ | refine VW.ret ?_ | show goA _ _ _ _ _ _ _ _ _ _ | show goB _ _ _ _ _ _ _ _ _ | show goAD _ _ _ _ _ _ _ _ _ _ _ _ | show goBD _ _ _ _ _ _ _ _ _); simp -implicitDefEqProofs only [eng, reduceIte, reduceCtorEq, Nat.reduceAdd, Nat.reduceMul, Nat.reduceSub, Nat.reduceEqDiff, Nat.reduceLeDiff, Nat.reduceLT, Nat.reduceDiv, Nat.reduceMod, Int.reduceLE, Int.reduceLT, Int.reduceEq, Int.reduceNeg, Int.reduceAdd, Int.reduceSub, Int.reduceToNat, Nat.reducePow, Int.ofNat_zero, Int.natCast_one, Int.cast_ofNat_Int, *])
    | (refine VW.condT ?_ ?_; focus (simp -implicitDefEqProofs only [eng, reduceIte, reduceCtorEq, Nat.reduceAdd, Nat.reduceMul, Nat.reduceSub, Nat.reduceEqDiff, Nat.reduceLeDiff, Nat.reduceLT, Nat.reduceDiv, Nat.reduceMod, Int.reduceLE, Int.reduceLT, Int.reduceEq, Int.reduceNeg, Int.reduceAdd, Int.reduceSub, Int.reduceToNat, Nat.reducePow, Int.ofNat_zero, Int.natCast_one, Int.cast_ofNat_Int, *]; done))
    | (refine VW.condF ?_ ?_; focus (simp -implicitDefEqProofs only [eng, reduceIte, reduceCtorEq, Nat.reduceAdd, Nat.reduceMul, Nat.reduceSub, Nat.reduceEqDiff, Nat.reduceLeDiff, Nat.reduceLT, Nat.reduceDiv, Nat.reduceMod, Int.reduceLE, Int.reduceLT, Int.reduceEq, Int.reduceNeg, Int.reduceAdd, Int.reduceSub, Int.reduceToNat, Nat.reducePow, Int.ofNat_zero, Int.natCast_one, Int.cast_ofNat_Int, *]; done))
    | (apply VW.cond; focus (simp -implicitDefEqProofs only [eng, reduceIte, reduceCtorEq, Nat.reduceAdd, Nat.reduceMul, Nat.reduceSub, Nat.reduceEqDiff, Nat.reduceLeDiff, Nat.reduceLT, Nat.reduceDiv, Nat.reduceMod, Int.reduceLE, Int.reduceLT, Int.reduceEq, Int.reduceNeg, Int.reduceAdd, Int.reduceSub, Int.reduceToNat, Nat.reducePow, Int.ofNat_zero, Int.natCast_one, Int.cast_ofNat_Int, *]; rfl))
    | refine imp_nt ?_
    | refine imp_nf ?_
    | refine imp_dt (fun _ => ?_)
    | refine imp_df (fun _ => ?_)
    | (refine fun (_ : _ = true) => ?_)
    | (refine fun (_ : _ = false) => ?_)
    | refine vg_t ?_ ?_
    | refine vg_f ?_ ?_)
      exact .v (by simp -implicitDefEqProofs only [eng, reduceIte, reduceCtorEq, Nat.reduceAdd, Nat.reduceMul, Nat.reduceSub, Nat.reduceEqDiff, Nat.reduceLeDiff, Nat.reduceLT, Nat.reduceDiv, Nat.reduceMod, Int.reduceLE, Int.reduceLT, Int.reduceEq, Int.reduceNeg, Int.reduceAdd, Int.reduceSub, Int.reduceToNat, Nat.reducePow, Int.ofNat_zero, Int.natCast_one, Int.cast_ofNat_Int, resF, resL, RX.ev, tup1, purT, *] <;> rfl) (by simp -implicitDefEqProofs only [eng, reduceIte, reduceCtorEq, Nat.reduceAdd, Nat.reduceMul, Nat.reduceSub, Nat.reduceEqDiff, Nat.reduceLeDiff, Nat.reduceLT, Nat.reduceDiv, Nat.reduceMod, Int.reduceLE, Int.reduceLT, Int.reduceEq, Int.reduceNeg, Int.reduceAdd, Int.reduceSub, Int.reduceToNat, Nat.reducePow, Int.ofNat_zero, Int.natCast_one, Int.cast_ofNat_Int, resF, resL, RX.ev, tup1, purT, *] <;> rfl)
theorem v4 (l : List Dd) (key : Str) (tu : Bool) (hl : ∀ d ∈ l, d.key.length ≤ 1048576) (b : Nat) : V Try.prog 4 [.sl (dds l), .str key, .bool tu] mt b (.bool true) mt := V.code mixed k4 (by simp) (w4 l key tu hl b)
end Go.Vx
