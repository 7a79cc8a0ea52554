/- SpanJoins, walked. -/
import Derived.Test.YtfeobpjoifffiaaSD
set_option linter.unusedSimpArgs false
set_option linter.unusedVariables false
namespace Go.Vx
open Go Go.Proofs

theorem rightS_iff {s : Sp} : rightS s = true ↔ -1000 ≤ s.1 ∧ s.1 < s.2 ∧ s.2 ≤ 1000 := by simp [rightS, rightB, and_assoc]
/-- As few spans: all right, each behind the one ahead, with a gap. -/
def Canon (l : List Sp) : Prop := (∀ s ∈ l, rightS s = true) ∧ l.Pairwise fun a b => a.2 < b.1
/-- What Join's fold holds, the last one first. -/
def CanonR (l : List Sp) : Prop := (∀ s ∈ l, rightS s = true) ∧ l.Pairwise fun a b => b.2 < a.1

theorem stepJ_canon {acc : List Sp} {s : Sp} (h : CanonR acc) (hs : rightS s = true) (hh : ∀ t ∈ acc.head?, t.1 ≤ s.1) : CanonR (stepJ acc s) ∧ ∀ t ∈ (stepJ acc s).head?, t.1 ≤ s.1 := by
  cases acc with
  | nil => exact ⟨⟨by simpa [stepJ] using hs, by simp [stepJ]⟩, by simp [stepJ]⟩
  | cons t r =>
    obtain ⟨h1, h2⟩ := h
    have ht := hh t (by simp)
    have htr := rightS_iff.1 (h1 t List.mem_cons_self)
    have hsr := rightS_iff.1 hs
    rw [List.pairwise_cons] at h2
    by_cases hc : t.2 < s.1
    · simp only [stepJ, if_pos hc]
      refine ⟨⟨fun u hu => ?_, ?_⟩, by simp⟩
      · rcases List.mem_cons.1 hu with rfl | hu
        · exact hs
        · exact h1 u hu
      · rw [List.pairwise_cons, List.pairwise_cons]
        refine ⟨fun u hu => ?_, h2⟩
        rcases List.mem_cons.1 hu with rfl | hu
        · exact hc
        · have := h2.1 u hu; omega
    · simp only [stepJ, if_neg hc]
      refine ⟨⟨fun u hu => ?_, ?_⟩, by simpa using ht⟩
      · rcases List.mem_cons.1 hu with rfl | hu
        · exact rightS_iff.2 ⟨htr.1, by simp; omega, by simp; omega⟩
        · exact h1 u (List.mem_cons_of_mem _ hu)
      · rw [List.pairwise_cons]
        exact h2

theorem foldJ_canon : ∀ {xs acc : List Sp}, (∀ s ∈ xs, rightS s = true) → xs.Pairwise (fun a b => a.1 ≤ b.1) → CanonR acc → (∀ t ∈ acc.head?, ∀ s ∈ xs, t.1 ≤ s.1) → CanonR (xs.foldl stepJ acc)
  | [], acc, _, _, h, _ => h
  | s :: xs, acc, h1, h2, h, hh => by
    rw [List.pairwise_cons] at h2
    obtain ⟨g1, g2⟩ := stepJ_canon h (h1 s List.mem_cons_self) (fun t ht => hh t ht s List.mem_cons_self)
    rw [List.foldl_cons]
    exact foldJ_canon (xs := xs) (acc := stepJ acc s) (fun u hu => h1 u (List.mem_cons_of_mem _ hu)) h2.2 g1 fun t ht u hu => by have := g2 t ht; have := h2.1 u hu; omega

theorem foldJ_id : ∀ {xs acc : List Sp}, xs.Pairwise (fun a b => a.2 < b.1) → (∀ t ∈ acc.head?, ∀ s ∈ xs, t.2 < s.1) → xs.foldl stepJ acc = xs.reverse ++ acc
  | [], acc, _, _ => rfl
  | s :: xs, acc, h2, hh => by
    rw [List.pairwise_cons] at h2
    have : stepJ acc s = s :: acc := by
      cases acc with
      | nil => rfl
      | cons t r => simp [stepJ, hh t (by simp) s List.mem_cons_self]
    rw [List.foldl_cons, this, foldJ_id h2.2 (by simpa using h2.1)]
    simp

theorem canonR_rev {l : List Sp} : CanonR l → Canon l.reverse := fun ⟨h1, h2⟩ => ⟨fun s hs => h1 s (List.mem_reverse.1 hs), by rw [List.pairwise_reverse]; exact h2⟩
theorem swap_perm {l : List Sp} {a b : Nat} {x y : Sp} (ha : l[a]? = some x) (hb : l[b]? = some y) : ((l.set a y).set b x).Perm l := by
  have h1 : a < l.length := (List.getElem?_eq_some_iff.1 ha).1
  have h2 : b < l.length := (List.getElem?_eq_some_iff.1 hb).1
  have := (Array.swap_perm (xs := l.toArray) (i := a) (j := b) (by simpa using h1) (by simpa using h2))
  rw [Array.perm_iff_toList_perm] at this
  simp only [Array.toList_swap] at this
  have e1 : l[a] = x := (List.getElem?_eq_some_iff.1 ha).2
  have e2 : l[b] = y := (List.getElem?_eq_some_iff.1 hb).2
  simpa [e1, e2] using this


theorem sortF_right {l : List Sp} : ∀ s ∈ sortF l, rightS s = true := fun s hs => by
  unfold sortF at hs
  have := (List.mergeSort_perm _ _).mem_iff.1 hs
  exact (List.mem_filter.1 this).2
theorem sortF_sorted {l : List Sp} : (sortF l).Pairwise (fun a b => a.1 ≤ b.1) := by
  have tr : ∀ a b c : Sp, leS a b = true → leS b c = true → leS a c = true := fun a b c => by unfold leS; rw [ltS, ltS, ltS]; simp; omega
  have to : ∀ a b : Sp, (leS a b || leS b a) = true := fun a b => by unfold leS; rw [ltS, ltS]; simp; omega
  refine (List.pairwise_mergeSort tr to (l.filter rightS)).imp fun {a b} h => ?_
  unfold leS at h; rw [ltS] at h; simp at h; omega
theorem joinF_canon (l : List Sp) : Canon (joinF l) := canonR_rev (foldJ_canon sortF_right sortF_sorted ⟨by simp, by simp⟩ (by simp))
theorem leS_of {a b : Sp} (h : a.1 < b.1) : leS a b = true := by unfold leS; rw [ltS]; simp; omega
theorem joinF_of_canon {j : List Sp} (h : Canon j) : joinF j = j := by
  have h1 : sortF j = j := by
    refine sort_eq ?_ ?_
    · rw [List.filter_eq_self.2 h.1]
    · refine List.Pairwise.imp_of_mem (fun {a b} ha hb hab => leS_of ?_) h.2
      have := rightS_iff.1 (h.1 a ha)
      omega
  rw [joinF, h1, foldJ_id h.2 (by simp)]
  simp
theorem joinF_perm {l m : List Sp} (h : m.Perm l) : joinF m = joinF l := by
  have : sortF m = sortF l := by
    have tr : ∀ a b c : Sp, leS a b = true → leS b c = true → leS a c = true := fun a b c => by unfold leS; rw [ltS, ltS, ltS]; simp; omega
    have to : ∀ a b : Sp, (leS a b || leS b a) = true := fun a b => by unfold leS; rw [ltS, ltS]; simp; omega
    refine sort_eq (((h.filter rightS).trans (List.mergeSort_perm _ leS).symm)) (List.pairwise_mergeSort tr to _)
  rw [joinF, joinF, this]

section
variable {P : Program}

def J13 (xs ys : List Sp) (i : Nat) (e : Env) (m : Mem) (nx : Nat) : Prop :=
  e 0 = some (.sl (sps xs)) ∧ e 1 = some (.sl (sps ys)) ∧ e 5 = some (.int .i64 i) ∧ xs.take i = ys.take i

theorem w13 (xs ys : List Sp) (b : Nat) : VW P c13 (PRet (Ends [.tmp 4] b (.bool (decide (xs = ys))) mt)) (fun t => [PV.sl (sps xs), PV.sl (sps ys)][t]?) mt b := by
  unfold c13
  refine VW.slen (t := 0) rfl fun hlen => ?_
  have hlx := sps_len (l := xs)
  have hly := sps_len (l := ys)
  rw [hlx] at hlen
  by_cases hl : xs.length = ys.length
  case neg =>
    have hl' : ¬ (xs.length : Int) = ys.length := by omega
    have hne : ¬ xs = ys := fun h => hl (h ▸ rfl)
    repeat' (first
    | refine VW.seq ?_
    | refine VW.block ?_
    | (refine VW.skip ?_; simp -implicitDefEqProofs only [eng, reduceIte, reduceCtorEq, Nat.reduceAdd, Nat.reduceMul, Nat.reduceSub, Nat.reduceEqDiff, Nat.reduceLeDiff, Nat.reduceLT, Nat.reduceDiv, Nat.reduceMod, Int.reduceLE, Int.reduceLT, Int.reduceEq, Int.reduceNeg, Int.reduceAdd, Int.reduceSub, Int.reduceToNat, Nat.reducePow])
    | (refine VW.exit ?_; simp -implicitDefEqProofs only [eng, reduceIte, reduceCtorEq, Nat.reduceAdd, Nat.reduceMul, Nat.reduceSub, Nat.reduceEqDiff, Nat.reduceLeDiff, Nat.reduceLT, Nat.reduceDiv, Nat.reduceMod, Int.reduceLE, Int.reduceLT, Int.reduceEq, Int.reduceNeg, Int.reduceAdd, Int.reduceSub, Int.reduceToNat, Nat.reducePow])
    | (refine VW.reg ?_; simp -implicitDefEqProofs only [eng, reduceIte, reduceCtorEq, Nat.reduceAdd, Nat.reduceMul, Nat.reduceSub, Nat.reduceEqDiff, Nat.reduceLeDiff, Nat.reduceLT, Nat.reduceDiv, Nat.reduceMod, Int.reduceLE, Int.reduceLT, Int.reduceEq, Int.reduceNeg, Int.reduceAdd, Int.reduceSub, Int.reduceToNat, Nat.reducePow, *])
    | (refine VW.regD ?_; simp -implicitDefEqProofs only [eng, reduceIte, reduceCtorEq, Nat.reduceAdd, Nat.reduceMul, Nat.reduceSub, Nat.reduceEqDiff, Nat.reduceLeDiff, Nat.reduceLT, Nat.reduceDiv, Nat.reduceMod, Int.reduceLE, Int.reduceLT, Int.reduceEq, Int.reduceNeg, Int.reduceAdd, Int.reduceSub, Int.reduceToNat, Nat.reducePow, *])
    | (refine VW.condT ?_ ?_; focus (simp -implicitDefEqProofs only [eng, reduceIte, reduceCtorEq, Nat.reduceAdd, Nat.reduceMul, Nat.reduceSub, Nat.reduceEqDiff, Nat.reduceLeDiff, Nat.reduceLT, Nat.reduceDiv, Nat.reduceMod, Int.reduceLE, Int.reduceLT, Int.reduceEq, Int.reduceNeg, Int.reduceAdd, Int.reduceSub, Int.reduceToNat, Nat.reducePow, *]; done))
    | (refine VW.condF ?_ ?_; focus (simp -implicitDefEqProofs only [eng, reduceIte, reduceCtorEq, Nat.reduceAdd, Nat.reduceMul, Nat.reduceSub, Nat.reduceEqDiff, Nat.reduceLeDiff, Nat.reduceLT, Nat.reduceDiv, Nat.reduceMod, Int.reduceLE, Int.reduceLT, Int.reduceEq, Int.reduceNeg, Int.reduceAdd, Int.reduceSub, Int.reduceToNat, Nat.reducePow, *]; done))
    | (apply VW.cond; focus (simp -implicitDefEqProofs only [eng, reduceIte, reduceCtorEq, Nat.reduceAdd, Nat.reduceMul, Nat.reduceSub, Nat.reduceEqDiff, Nat.reduceLeDiff, Nat.reduceLT, Nat.reduceDiv, Nat.reduceMod, Int.reduceLE, Int.reduceLT, Int.reduceEq, Int.reduceNeg, Int.reduceAdd, Int.reduceSub, Int.reduceToNat, Nat.reducePow, *]; rfl))
    | refine imp_nt ?_
    | refine imp_nf ?_
    | refine imp_dt (fun _ => ?_)
    | refine imp_df (fun _ => ?_)
    | (refine fun (_ : _ = true) => ?_)
    | (refine fun (_ : _ = false) => ?_)
    | (refine VW.ret ?_; simp -implicitDefEqProofs only [eng, reduceIte, reduceCtorEq, Nat.reduceAdd, Nat.reduceMul, Nat.reduceSub, Nat.reduceEqDiff, Nat.reduceLeDiff, Nat.reduceLT, Nat.reduceDiv, Nat.reduceMod, Int.reduceLE, Int.reduceLT, Int.reduceEq, Int.reduceNeg, Int.reduceAdd, Int.reduceSub, Int.reduceToNat, Nat.reducePow])
    | refine vg_t ?_ ?_
    | refine vg_f ?_ ?_
    | (show goA _ _ _ _ _ _ _ _ _ _; simp -implicitDefEqProofs only [eng, reduceIte, reduceCtorEq, Nat.reduceAdd, Nat.reduceMul, Nat.reduceSub, Nat.reduceEqDiff, Nat.reduceLeDiff, Nat.reduceLT, Nat.reduceDiv, Nat.reduceMod, Int.reduceLE, Int.reduceLT, Int.reduceEq, Int.reduceNeg, Int.reduceAdd, Int.reduceSub, Int.reduceToNat, Nat.reducePow, *])
    | (show goB _ _ _ _ _ _ _ _ _; simp -implicitDefEqProofs only [eng, reduceIte, reduceCtorEq, Nat.reduceAdd, Nat.reduceMul, Nat.reduceSub, Nat.reduceEqDiff, Nat.reduceLeDiff, Nat.reduceLT, Nat.reduceDiv, Nat.reduceMod, Int.reduceLE, Int.reduceLT, Int.reduceEq, Int.reduceNeg, Int.reduceAdd, Int.reduceSub, Int.reduceToNat, Nat.reducePow, *])
    | (show goAD _ _ _ _ _ _ _ _ _ _ _ _; simp -implicitDefEqProofs only [eng, reduceIte, reduceCtorEq, Nat.reduceAdd, Nat.reduceMul, Nat.reduceSub, Nat.reduceEqDiff, Nat.reduceLeDiff, Nat.reduceLT, Nat.reduceDiv, Nat.reduceMod, Int.reduceLE, Int.reduceLT, Int.reduceEq, Int.reduceNeg, Int.reduceAdd, Int.reduceSub, Int.reduceToNat, Nat.reducePow, *])
    | (show goBD _ _ _ _ _ _ _ _ _; simp -implicitDefEqProofs only [eng, reduceIte, reduceCtorEq, Nat.reduceAdd, Nat.reduceMul, Nat.reduceSub, Nat.reduceEqDiff, Nat.reduceLeDiff, Nat.reduceLT, Nat.reduceDiv, Nat.reduceMod, Int.reduceLE, Int.reduceLT, Int.reduceEq, Int.reduceNeg, Int.reduceAdd, Int.reduceSub, Int.reduceToNat, Nat.reducePow, *]))
    exact .tmp1 (by simp -implicitDefEqProofs only [eng, reduceIte, reduceCtorEq, Nat.reduceAdd, Nat.reduceMul, Nat.reduceSub, Nat.reduceEqDiff, Nat.reduceLeDiff, Nat.reduceLT, Nat.reduceDiv, Nat.reduceMod, Int.reduceLE, Int.reduceLT, Int.reduceEq, Int.reduceNeg, Int.reduceAdd, Int.reduceSub, Int.reduceToNat, Nat.reducePow, *]) rfl
  repeat' (first
    | refine VW.seq ?_
    | refine VW.block ?_
    | (refine VW.skip ?_; simp -implicitDefEqProofs only [eng, reduceIte, reduceCtorEq, Nat.reduceAdd, Nat.reduceMul, Nat.reduceSub, Nat.reduceEqDiff, Nat.reduceLeDiff, Nat.reduceLT, Nat.reduceDiv, Nat.reduceMod, Int.reduceLE, Int.reduceLT, Int.reduceEq, Int.reduceNeg, Int.reduceAdd, Int.reduceSub, Int.reduceToNat, Nat.reducePow])
    | (refine VW.exit ?_; simp -implicitDefEqProofs only [eng, reduceIte, reduceCtorEq, Nat.reduceAdd, Nat.reduceMul, Nat.reduceSub, Nat.reduceEqDiff, Nat.reduceLeDiff, Nat.reduceLT, Nat.reduceDiv, Nat.reduceMod, Int.reduceLE, Int.reduceLT, Int.reduceEq, Int.reduceNeg, Int.reduceAdd, Int.reduceSub, Int.reduceToNat, Nat.reducePow])
    | (refine VW.reg ?_; simp -implicitDefEqProofs only [eng, reduceIte, reduceCtorEq, Nat.reduceAdd, Nat.reduceMul, Nat.reduceSub, Nat.reduceEqDiff, Nat.reduceLeDiff, Nat.reduceLT, Nat.reduceDiv, Nat.reduceMod, Int.reduceLE, Int.reduceLT, Int.reduceEq, Int.reduceNeg, Int.reduceAdd, Int.reduceSub, Int.reduceToNat, Nat.reducePow, *])
    | (refine VW.regD ?_; simp -implicitDefEqProofs only [eng, reduceIte, reduceCtorEq, Nat.reduceAdd, Nat.reduceMul, Nat.reduceSub, Nat.reduceEqDiff, Nat.reduceLeDiff, Nat.reduceLT, Nat.reduceDiv, Nat.reduceMod, Int.reduceLE, Int.reduceLT, Int.reduceEq, Int.reduceNeg, Int.reduceAdd, Int.reduceSub, Int.reduceToNat, Nat.reducePow, *])
    | (refine VW.condT ?_ ?_; focus (simp -implicitDefEqProofs only [eng, reduceIte, reduceCtorEq, Nat.reduceAdd, Nat.reduceMul, Nat.reduceSub, Nat.reduceEqDiff, Nat.reduceLeDiff, Nat.reduceLT, Nat.reduceDiv, Nat.reduceMod, Int.reduceLE, Int.reduceLT, Int.reduceEq, Int.reduceNeg, Int.reduceAdd, Int.reduceSub, Int.reduceToNat, Nat.reducePow, *]; done))
    | (refine VW.condF ?_ ?_; focus (simp -implicitDefEqProofs only [eng, reduceIte, reduceCtorEq, Nat.reduceAdd, Nat.reduceMul, Nat.reduceSub, Nat.reduceEqDiff, Nat.reduceLeDiff, Nat.reduceLT, Nat.reduceDiv, Nat.reduceMod, Int.reduceLE, Int.reduceLT, Int.reduceEq, Int.reduceNeg, Int.reduceAdd, Int.reduceSub, Int.reduceToNat, Nat.reducePow, *]; done))
    | (apply VW.cond; focus (simp -implicitDefEqProofs only [eng, reduceIte, reduceCtorEq, Nat.reduceAdd, Nat.reduceMul, Nat.reduceSub, Nat.reduceEqDiff, Nat.reduceLeDiff, Nat.reduceLT, Nat.reduceDiv, Nat.reduceMod, Int.reduceLE, Int.reduceLT, Int.reduceEq, Int.reduceNeg, Int.reduceAdd, Int.reduceSub, Int.reduceToNat, Nat.reducePow, *]; rfl))
    | refine imp_nt ?_
    | refine imp_nf ?_
    | refine imp_dt (fun _ => ?_)
    | refine imp_df (fun _ => ?_)
    | (refine fun (_ : _ = true) => ?_)
    | (refine fun (_ : _ = false) => ?_)
    | (refine VW.ret ?_; simp -implicitDefEqProofs only [eng, reduceIte, reduceCtorEq, Nat.reduceAdd, Nat.reduceMul, Nat.reduceSub, Nat.reduceEqDiff, Nat.reduceLeDiff, Nat.reduceLT, Nat.reduceDiv, Nat.reduceMod, Int.reduceLE, Int.reduceLT, Int.reduceEq, Int.reduceNeg, Int.reduceAdd, Int.reduceSub, Int.reduceToNat, Nat.reducePow])
    | refine vg_t ?_ ?_
    | refine vg_f ?_ ?_
    | (show goA _ _ _ _ _ _ _ _ _ _; simp -implicitDefEqProofs only [eng, reduceIte, reduceCtorEq, Nat.reduceAdd, Nat.reduceMul, Nat.reduceSub, Nat.reduceEqDiff, Nat.reduceLeDiff, Nat.reduceLT, Nat.reduceDiv, Nat.reduceMod, Int.reduceLE, Int.reduceLT, Int.reduceEq, Int.reduceNeg, Int.reduceAdd, Int.reduceSub, Int.reduceToNat, Nat.reducePow, *])
    | (show goB _ _ _ _ _ _ _ _ _; simp -implicitDefEqProofs only [eng, reduceIte, reduceCtorEq, Nat.reduceAdd, Nat.reduceMul, Nat.reduceSub, Nat.reduceEqDiff, Nat.reduceLeDiff, Nat.reduceLT, Nat.reduceDiv, Nat.reduceMod, Int.reduceLE, Int.reduceLT, Int.reduceEq, Int.reduceNeg, Int.reduceAdd, Int.reduceSub, Int.reduceToNat, Nat.reducePow, *])
    | (show goAD _ _ _ _ _ _ _ _ _ _ _ _; simp -implicitDefEqProofs only [eng, reduceIte, reduceCtorEq, Nat.reduceAdd, Nat.reduceMul, Nat.reduceSub, Nat.reduceEqDiff, Nat.reduceLeDiff, Nat.reduceLT, Nat.reduceDiv, Nat.reduceMod, Int.reduceLE, Int.reduceLT, Int.reduceEq, Int.reduceNeg, Int.reduceAdd, Int.reduceSub, Int.reduceToNat, Nat.reducePow, *])
    | (show goBD _ _ _ _ _ _ _ _ _; simp -implicitDefEqProofs only [eng, reduceIte, reduceCtorEq, Nat.reduceAdd, Nat.reduceMul, Nat.reduceSub, Nat.reduceEqDiff, Nat.reduceLeDiff, Nat.reduceLT, Nat.reduceDiv, Nat.reduceMod, Int.reduceLE, Int.reduceLT, Int.reduceEq, Int.reduceNeg, Int.reduceAdd, Int.reduceSub, Int.reduceToNat, Nat.reducePow, *]))
  refine VW.forN xs.length (J13 xs ys) 0 (Nat.zero_le _) ⟨by simp -implicitDefEqProofs only [eng, reduceIte, reduceCtorEq, Nat.reduceAdd, Nat.reduceMul, Nat.reduceSub, Nat.reduceEqDiff, Nat.reduceLeDiff, Nat.reduceLT, Nat.reduceDiv, Nat.reduceMod, Int.reduceLE, Int.reduceLT, Int.reduceEq, Int.reduceNeg, Int.reduceAdd, Int.reduceSub, Int.reduceToNat, Nat.reducePow], by simp -implicitDefEqProofs only [eng, reduceIte, reduceCtorEq, Nat.reduceAdd, Nat.reduceMul, Nat.reduceSub, Nat.reduceEqDiff, Nat.reduceLeDiff, Nat.reduceLT, Nat.reduceDiv, Nat.reduceMod, Int.reduceLE, Int.reduceLT, Int.reduceEq, Int.reduceNeg, Int.reduceAdd, Int.reduceSub, Int.reduceToNat, Nat.reducePow], by simp -implicitDefEqProofs only [eng, reduceIte, reduceCtorEq, Nat.reduceAdd, Nat.reduceMul, Nat.reduceSub, Nat.reduceEqDiff, Nat.reduceLeDiff, Nat.reduceLT, Nat.reduceDiv, Nat.reduceMod, Int.reduceLE, Int.reduceLT, Int.reduceEq, Int.reduceNeg, Int.reduceAdd, Int.reduceSub, Int.reduceToNat, Nat.reducePow]; rfl, rfl⟩ ?_
  rintro i e m nx hi ⟨h0, h1, h5, htk⟩
  by_cases hin : i < xs.length
  · have hin' : (i : Int) < xs.length := by omega
    obtain ⟨x, hx⟩ := get_of hin
    obtain ⟨y, hy⟩ := get_of (l := ys) (i := i) (by omega)
    have hx' : (sps xs)[i]? = some [.int .i64 x.1, .int .i64 x.2] := by rw [sps_get, hx]; rfl
    have hy' : (sps ys)[i]? = some [.int .i64 y.1, .int .i64 y.2] := by rw [sps_get, hy]; rfl
    have h00 : (0 : Int) ≤ i := by omega
    have htn : (i : Int).toNat = i := Int.toNat_natCast i
    have hw := i64_nat (n := i) (by unfold maxLen at hlen; omega)
    by_cases hxy : x = y
    · subst hxy
      clear hl
      repeat' (first
    | refine VW.seq ?_
    | refine VW.block ?_
    | (refine VW.skip ?_; simp -implicitDefEqProofs only [eng, reduceIte, reduceCtorEq, Nat.reduceAdd, Nat.reduceMul, Nat.reduceSub, Nat.reduceEqDiff, Nat.reduceLeDiff, Nat.reduceLT, Nat.reduceDiv, Nat.reduceMod, Int.reduceLE, Int.reduceLT, Int.reduceEq, Int.reduceNeg, Int.reduceAdd, Int.reduceSub, Int.reduceToNat, Nat.reducePow])
    | (refine VW.exit ?_; simp -implicitDefEqProofs only [eng, reduceIte, reduceCtorEq, Nat.reduceAdd, Nat.reduceMul, Nat.reduceSub, Nat.reduceEqDiff, Nat.reduceLeDiff, Nat.reduceLT, Nat.reduceDiv, Nat.reduceMod, Int.reduceLE, Int.reduceLT, Int.reduceEq, Int.reduceNeg, Int.reduceAdd, Int.reduceSub, Int.reduceToNat, Nat.reducePow])
    | (refine VW.reg ?_; simp -implicitDefEqProofs only [eng, reduceIte, reduceCtorEq, Nat.reduceAdd, Nat.reduceMul, Nat.reduceSub, Nat.reduceEqDiff, Nat.reduceLeDiff, Nat.reduceLT, Nat.reduceDiv, Nat.reduceMod, Int.reduceLE, Int.reduceLT, Int.reduceEq, Int.reduceNeg, Int.reduceAdd, Int.reduceSub, Int.reduceToNat, Nat.reducePow, *])
    | (refine VW.regD ?_; simp -implicitDefEqProofs only [eng, reduceIte, reduceCtorEq, Nat.reduceAdd, Nat.reduceMul, Nat.reduceSub, Nat.reduceEqDiff, Nat.reduceLeDiff, Nat.reduceLT, Nat.reduceDiv, Nat.reduceMod, Int.reduceLE, Int.reduceLT, Int.reduceEq, Int.reduceNeg, Int.reduceAdd, Int.reduceSub, Int.reduceToNat, Nat.reducePow, *])
    | (refine VW.condT ?_ ?_; focus (simp -implicitDefEqProofs only [eng, reduceIte, reduceCtorEq, Nat.reduceAdd, Nat.reduceMul, Nat.reduceSub, Nat.reduceEqDiff, Nat.reduceLeDiff, Nat.reduceLT, Nat.reduceDiv, Nat.reduceMod, Int.reduceLE, Int.reduceLT, Int.reduceEq, Int.reduceNeg, Int.reduceAdd, Int.reduceSub, Int.reduceToNat, Nat.reducePow, *]; done))
    | (refine VW.condF ?_ ?_; focus (simp -implicitDefEqProofs only [eng, reduceIte, reduceCtorEq, Nat.reduceAdd, Nat.reduceMul, Nat.reduceSub, Nat.reduceEqDiff, Nat.reduceLeDiff, Nat.reduceLT, Nat.reduceDiv, Nat.reduceMod, Int.reduceLE, Int.reduceLT, Int.reduceEq, Int.reduceNeg, Int.reduceAdd, Int.reduceSub, Int.reduceToNat, Nat.reducePow, *]; done))
    | (apply VW.cond; focus (simp -implicitDefEqProofs only [eng, reduceIte, reduceCtorEq, Nat.reduceAdd, Nat.reduceMul, Nat.reduceSub, Nat.reduceEqDiff, Nat.reduceLeDiff, Nat.reduceLT, Nat.reduceDiv, Nat.reduceMod, Int.reduceLE, Int.reduceLT, Int.reduceEq, Int.reduceNeg, Int.reduceAdd, Int.reduceSub, Int.reduceToNat, Nat.reducePow, *]; rfl))
    | refine imp_nt ?_
    | refine imp_nf ?_
    | refine imp_dt (fun _ => ?_)
    | refine imp_df (fun _ => ?_)
    | (refine fun (_ : _ = true) => ?_)
    | (refine fun (_ : _ = false) => ?_)
    | (refine VW.ret ?_; simp -implicitDefEqProofs only [eng, reduceIte, reduceCtorEq, Nat.reduceAdd, Nat.reduceMul, Nat.reduceSub, Nat.reduceEqDiff, Nat.reduceLeDiff, Nat.reduceLT, Nat.reduceDiv, Nat.reduceMod, Int.reduceLE, Int.reduceLT, Int.reduceEq, Int.reduceNeg, Int.reduceAdd, Int.reduceSub, Int.reduceToNat, Nat.reducePow])
    | refine vg_t ?_ ?_
    | refine vg_f ?_ ?_
    | (show goA _ _ _ _ _ _ _ _ _ _; simp -implicitDefEqProofs only [eng, reduceIte, reduceCtorEq, Nat.reduceAdd, Nat.reduceMul, Nat.reduceSub, Nat.reduceEqDiff, Nat.reduceLeDiff, Nat.reduceLT, Nat.reduceDiv, Nat.reduceMod, Int.reduceLE, Int.reduceLT, Int.reduceEq, Int.reduceNeg, Int.reduceAdd, Int.reduceSub, Int.reduceToNat, Nat.reducePow, *])
    | (show goB _ _ _ _ _ _ _ _ _; simp -implicitDefEqProofs only [eng, reduceIte, reduceCtorEq, Nat.reduceAdd, Nat.reduceMul, Nat.reduceSub, Nat.reduceEqDiff, Nat.reduceLeDiff, Nat.reduceLT, Nat.reduceDiv, Nat.reduceMod, Int.reduceLE, Int.reduceLT, Int.reduceEq, Int.reduceNeg, Int.reduceAdd, Int.reduceSub, Int.reduceToNat, Nat.reducePow, *])
    | (show goAD _ _ _ _ _ _ _ _ _ _ _ _; simp -implicitDefEqProofs only [eng, reduceIte, reduceCtorEq, Nat.reduceAdd, Nat.reduceMul, Nat.reduceSub, Nat.reduceEqDiff, Nat.reduceLeDiff, Nat.reduceLT, Nat.reduceDiv, Nat.reduceMod, Int.reduceLE, Int.reduceLT, Int.reduceEq, Int.reduceNeg, Int.reduceAdd, Int.reduceSub, Int.reduceToNat, Nat.reducePow, *])
    | (show goBD _ _ _ _ _ _ _ _ _; simp -implicitDefEqProofs only [eng, reduceIte, reduceCtorEq, Nat.reduceAdd, Nat.reduceMul, Nat.reduceSub, Nat.reduceEqDiff, Nat.reduceLeDiff, Nat.reduceLT, Nat.reduceDiv, Nat.reduceMod, Int.reduceLE, Int.reduceLT, Int.reduceEq, Int.reduceNeg, Int.reduceAdd, Int.reduceSub, Int.reduceToNat, Nat.reducePow, *]))
      exact ⟨by simp -implicitDefEqProofs only [eng, reduceIte, reduceCtorEq, Nat.reduceAdd, Nat.reduceMul, Nat.reduceSub, Nat.reduceEqDiff, Nat.reduceLeDiff, Nat.reduceLT, Nat.reduceDiv, Nat.reduceMod, Int.reduceLE, Int.reduceLT, Int.reduceEq, Int.reduceNeg, Int.reduceAdd, Int.reduceSub, Int.reduceToNat, Nat.reducePow, *], by simp -implicitDefEqProofs only [eng, reduceIte, reduceCtorEq, Nat.reduceAdd, Nat.reduceMul, Nat.reduceSub, Nat.reduceEqDiff, Nat.reduceLeDiff, Nat.reduceLT, Nat.reduceDiv, Nat.reduceMod, Int.reduceLE, Int.reduceLT, Int.reduceEq, Int.reduceNeg, Int.reduceAdd, Int.reduceSub, Int.reduceToNat, Nat.reducePow, *], by simp -implicitDefEqProofs only [eng, reduceIte, reduceCtorEq, Nat.reduceAdd, Nat.reduceMul, Nat.reduceSub, Nat.reduceEqDiff, Nat.reduceLeDiff, Nat.reduceLT, Nat.reduceDiv, Nat.reduceMod, Int.reduceLE, Int.reduceLT, Int.reduceEq, Int.reduceNeg, Int.reduceAdd, Int.reduceSub, Int.reduceToNat, Nat.reducePow, *], by rw [List.take_add_one, List.take_add_one, htk, hx, hy]⟩
    · have hne : ¬ xs = ys := fun h => hxy (by rw [h, hy] at hx; injection hx with hx; exact hx.symm)
      have hd : (decide (x.1 = y.1) && decide (x.2 = y.2)) = false := by
        rw [← Bool.decide_and, decide_eq_false_iff_not]
        exact fun h => hxy (Prod.ext h.1 h.2)
      clear hl
      repeat' (first
    | refine VW.seq ?_
    | refine VW.block ?_
    | (refine VW.skip ?_; simp -implicitDefEqProofs only [eng, reduceIte, reduceCtorEq, Nat.reduceAdd, Nat.reduceMul, Nat.reduceSub, Nat.reduceEqDiff, Nat.reduceLeDiff, Nat.reduceLT, Nat.reduceDiv, Nat.reduceMod, Int.reduceLE, Int.reduceLT, Int.reduceEq, Int.reduceNeg, Int.reduceAdd, Int.reduceSub, Int.reduceToNat, Nat.reducePow])
    | (refine VW.exit ?_; simp -implicitDefEqProofs only [eng, reduceIte, reduceCtorEq, Nat.reduceAdd, Nat.reduceMul, Nat.reduceSub, Nat.reduceEqDiff, Nat.reduceLeDiff, Nat.reduceLT, Nat.reduceDiv, Nat.reduceMod, Int.reduceLE, Int.reduceLT, Int.reduceEq, Int.reduceNeg, Int.reduceAdd, Int.reduceSub, Int.reduceToNat, Nat.reducePow])
    | (refine VW.reg ?_; simp -implicitDefEqProofs only [eng, reduceIte, reduceCtorEq, Nat.reduceAdd, Nat.reduceMul, Nat.reduceSub, Nat.reduceEqDiff, Nat.reduceLeDiff, Nat.reduceLT, Nat.reduceDiv, Nat.reduceMod, Int.reduceLE, Int.reduceLT, Int.reduceEq, Int.reduceNeg, Int.reduceAdd, Int.reduceSub, Int.reduceToNat, Nat.reducePow, *])
    | (refine VW.regD ?_; simp -implicitDefEqProofs only [eng, reduceIte, reduceCtorEq, Nat.reduceAdd, Nat.reduceMul, Nat.reduceSub, Nat.reduceEqDiff, Nat.reduceLeDiff, Nat.reduceLT, Nat.reduceDiv, Nat.reduceMod, Int.reduceLE, Int.reduceLT, Int.reduceEq, Int.reduceNeg, Int.reduceAdd, Int.reduceSub, Int.reduceToNat, Nat.reducePow, *])
    | (refine VW.condT ?_ ?_; focus (simp -implicitDefEqProofs only [eng, reduceIte, reduceCtorEq, Nat.reduceAdd, Nat.reduceMul, Nat.reduceSub, Nat.reduceEqDiff, Nat.reduceLeDiff, Nat.reduceLT, Nat.reduceDiv, Nat.reduceMod, Int.reduceLE, Int.reduceLT, Int.reduceEq, Int.reduceNeg, Int.reduceAdd, Int.reduceSub, Int.reduceToNat, Nat.reducePow, *]; done))
    | (refine VW.condF ?_ ?_; focus (simp -implicitDefEqProofs only [eng, reduceIte, reduceCtorEq, Nat.reduceAdd, Nat.reduceMul, Nat.reduceSub, Nat.reduceEqDiff, Nat.reduceLeDiff, Nat.reduceLT, Nat.reduceDiv, Nat.reduceMod, Int.reduceLE, Int.reduceLT, Int.reduceEq, Int.reduceNeg, Int.reduceAdd, Int.reduceSub, Int.reduceToNat, Nat.reducePow, *]; done))
    | (apply VW.cond; focus (simp -implicitDefEqProofs only [eng, reduceIte, reduceCtorEq, Nat.reduceAdd, Nat.reduceMul, Nat.reduceSub, Nat.reduceEqDiff, Nat.reduceLeDiff, Nat.reduceLT, Nat.reduceDiv, Nat.reduceMod, Int.reduceLE, Int.reduceLT, Int.reduceEq, Int.reduceNeg, Int.reduceAdd, Int.reduceSub, Int.reduceToNat, Nat.reducePow, *]; rfl))
    | refine imp_nt ?_
    | refine imp_nf ?_
    | refine imp_dt (fun _ => ?_)
    | refine imp_df (fun _ => ?_)
    | (refine fun (_ : _ = true) => ?_)
    | (refine fun (_ : _ = false) => ?_)
    | (refine VW.ret ?_; simp -implicitDefEqProofs only [eng, reduceIte, reduceCtorEq, Nat.reduceAdd, Nat.reduceMul, Nat.reduceSub, Nat.reduceEqDiff, Nat.reduceLeDiff, Nat.reduceLT, Nat.reduceDiv, Nat.reduceMod, Int.reduceLE, Int.reduceLT, Int.reduceEq, Int.reduceNeg, Int.reduceAdd, Int.reduceSub, Int.reduceToNat, Nat.reducePow])
    | refine vg_t ?_ ?_
    | refine vg_f ?_ ?_
    | (show goA _ _ _ _ _ _ _ _ _ _; simp -implicitDefEqProofs only [eng, reduceIte, reduceCtorEq, Nat.reduceAdd, Nat.reduceMul, Nat.reduceSub, Nat.reduceEqDiff, Nat.reduceLeDiff, Nat.reduceLT, Nat.reduceDiv, Nat.reduceMod, Int.reduceLE, Int.reduceLT, Int.reduceEq, Int.reduceNeg, Int.reduceAdd, Int.reduceSub, Int.reduceToNat, Nat.reducePow, *])
    | (show goB _ _ _ _ _ _ _ _ _; simp -implicitDefEqProofs only [eng, reduceIte, reduceCtorEq, Nat.reduceAdd, Nat.reduceMul, Nat.reduceSub, Nat.reduceEqDiff, Nat.reduceLeDiff, Nat.reduceLT, Nat.reduceDiv, Nat.reduceMod, Int.reduceLE, Int.reduceLT, Int.reduceEq, Int.reduceNeg, Int.reduceAdd, Int.reduceSub, Int.reduceToNat, Nat.reducePow, *])
    | (show goAD _ _ _ _ _ _ _ _ _ _ _ _; simp -implicitDefEqProofs only [eng, reduceIte, reduceCtorEq, Nat.reduceAdd, Nat.reduceMul, Nat.reduceSub, Nat.reduceEqDiff, Nat.reduceLeDiff, Nat.reduceLT, Nat.reduceDiv, Nat.reduceMod, Int.reduceLE, Int.reduceLT, Int.reduceEq, Int.reduceNeg, Int.reduceAdd, Int.reduceSub, Int.reduceToNat, Nat.reducePow, *])
    | (show goBD _ _ _ _ _ _ _ _ _; simp -implicitDefEqProofs only [eng, reduceIte, reduceCtorEq, Nat.reduceAdd, Nat.reduceMul, Nat.reduceSub, Nat.reduceEqDiff, Nat.reduceLeDiff, Nat.reduceLT, Nat.reduceDiv, Nat.reduceMod, Int.reduceLE, Int.reduceLT, Int.reduceEq, Int.reduceNeg, Int.reduceAdd, Int.reduceSub, Int.reduceToNat, Nat.reducePow, *]))
      exact .tmp1 (by simp -implicitDefEqProofs only [eng, reduceIte, reduceCtorEq, Nat.reduceAdd, Nat.reduceMul, Nat.reduceSub, Nat.reduceEqDiff, Nat.reduceLeDiff, Nat.reduceLT, Nat.reduceDiv, Nat.reduceMod, Int.reduceLE, Int.reduceLT, Int.reduceEq, Int.reduceNeg, Int.reduceAdd, Int.reduceSub, Int.reduceToNat, Nat.reducePow, *]) rfl
  · have hin' : ¬ (i : Int) < xs.length := by omega
    have he : xs = ys := by rwa [List.take_of_length_le (by omega), List.take_of_length_le (by omega)] at htk
    clear htk hl
    subst he
    repeat' (first
    | refine VW.seq ?_
    | refine VW.block ?_
    | (refine VW.skip ?_; simp -implicitDefEqProofs only [eng, reduceIte, reduceCtorEq, Nat.reduceAdd, Nat.reduceMul, Nat.reduceSub, Nat.reduceEqDiff, Nat.reduceLeDiff, Nat.reduceLT, Nat.reduceDiv, Nat.reduceMod, Int.reduceLE, Int.reduceLT, Int.reduceEq, Int.reduceNeg, Int.reduceAdd, Int.reduceSub, Int.reduceToNat, Nat.reducePow])
    | (refine VW.exit ?_; simp -implicitDefEqProofs only [eng, reduceIte, reduceCtorEq, Nat.reduceAdd, Nat.reduceMul, Nat.reduceSub, Nat.reduceEqDiff, Nat.reduceLeDiff, Nat.reduceLT, Nat.reduceDiv, Nat.reduceMod, Int.reduceLE, Int.reduceLT, Int.reduceEq, Int.reduceNeg, Int.reduceAdd, Int.reduceSub, Int.reduceToNat, Nat.reducePow])
    | (refine VW.reg ?_; simp -implicitDefEqProofs only [eng, reduceIte, reduceCtorEq, Nat.reduceAdd, Nat.reduceMul, Nat.reduceSub, Nat.reduceEqDiff, Nat.reduceLeDiff, Nat.reduceLT, Nat.reduceDiv, Nat.reduceMod, Int.reduceLE, Int.reduceLT, Int.reduceEq, Int.reduceNeg, Int.reduceAdd, Int.reduceSub, Int.reduceToNat, Nat.reducePow, *])
    | (refine VW.regD ?_; simp -implicitDefEqProofs only [eng, reduceIte, reduceCtorEq, Nat.reduceAdd, Nat.reduceMul, Nat.reduceSub, Nat.reduceEqDiff, Nat.reduceLeDiff, Nat.reduceLT, Nat.reduceDiv, Nat.reduceMod, Int.reduceLE, Int.reduceLT, Int.reduceEq, Int.reduceNeg, Int.reduceAdd, Int.reduceSub, Int.reduceToNat, Nat.reducePow, *])
    | (refine VW.condT ?_ ?_; focus (simp -implicitDefEqProofs only [eng, reduceIte, reduceCtorEq, Nat.reduceAdd, Nat.reduceMul, Nat.reduceSub, Nat.reduceEqDiff, Nat.reduceLeDiff, Nat.reduceLT, Nat.reduceDiv, Nat.reduceMod, Int.reduceLE, Int.reduceLT, Int.reduceEq, Int.reduceNeg, Int.reduceAdd, Int.reduceSub, Int.reduceToNat, Nat.reducePow, *]; done))
    | (refine VW.condF ?_ ?_; focus (simp -implicitDefEqProofs only [eng, reduceIte, reduceCtorEq, Nat.reduceAdd, Nat.reduceMul, Nat.reduceSub, Nat.reduceEqDiff, Nat.reduceLeDiff, Nat.reduceLT, Nat.reduceDiv, Nat.reduceMod, Int.reduceLE, Int.reduceLT, Int.reduceEq, Int.reduceNeg, Int.reduceAdd, Int.reduceSub, Int.reduceToNat, Nat.reducePow, *]; done))
    | (apply VW.cond; focus (simp -implicitDefEqProofs only [eng, reduceIte, reduceCtorEq, Nat.reduceAdd, Nat.reduceMul, Nat.reduceSub, Nat.reduceEqDiff, Nat.reduceLeDiff, Nat.reduceLT, Nat.reduceDiv, Nat.reduceMod, Int.reduceLE, Int.reduceLT, Int.reduceEq, Int.reduceNeg, Int.reduceAdd, Int.reduceSub, Int.reduceToNat, Nat.reducePow, *]; rfl))
    | refine imp_nt ?_
    | refine imp_nf ?_
    | refine imp_dt (fun _ => ?_)
    | refine imp_df (fun _ => ?_)
    | (refine fun (_ : _ = true) => ?_)
    | (refine fun (_ : _ = false) => ?_)
    | (refine VW.ret ?_; simp -implicitDefEqProofs only [eng, reduceIte, reduceCtorEq, Nat.reduceAdd, Nat.reduceMul, Nat.reduceSub, Nat.reduceEqDiff, Nat.reduceLeDiff, Nat.reduceLT, Nat.reduceDiv, Nat.reduceMod, Int.reduceLE, Int.reduceLT, Int.reduceEq, Int.reduceNeg, Int.reduceAdd, Int.reduceSub, Int.reduceToNat, Nat.reducePow])
    | refine vg_t ?_ ?_
    | refine vg_f ?_ ?_
    | (show goA _ _ _ _ _ _ _ _ _ _; simp -implicitDefEqProofs only [eng, reduceIte, reduceCtorEq, Nat.reduceAdd, Nat.reduceMul, Nat.reduceSub, Nat.reduceEqDiff, Nat.reduceLeDiff, Nat.reduceLT, Nat.reduceDiv, Nat.reduceMod, Int.reduceLE, Int.reduceLT, Int.reduceEq, Int.reduceNeg, Int.reduceAdd, Int.reduceSub, Int.reduceToNat, Nat.reducePow, *])
    | (show goB _ _ _ _ _ _ _ _ _; simp -implicitDefEqProofs only [eng, reduceIte, reduceCtorEq, Nat.reduceAdd, Nat.reduceMul, Nat.reduceSub, Nat.reduceEqDiff, Nat.reduceLeDiff, Nat.reduceLT, Nat.reduceDiv, Nat.reduceMod, Int.reduceLE, Int.reduceLT, Int.reduceEq, Int.reduceNeg, Int.reduceAdd, Int.reduceSub, Int.reduceToNat, Nat.reducePow, *])
    | (show goAD _ _ _ _ _ _ _ _ _ _ _ _; simp -implicitDefEqProofs only [eng, reduceIte, reduceCtorEq, Nat.reduceAdd, Nat.reduceMul, Nat.reduceSub, Nat.reduceEqDiff, Nat.reduceLeDiff, Nat.reduceLT, Nat.reduceDiv, Nat.reduceMod, Int.reduceLE, Int.reduceLT, Int.reduceEq, Int.reduceNeg, Int.reduceAdd, Int.reduceSub, Int.reduceToNat, Nat.reducePow, *])
    | (show goBD _ _ _ _ _ _ _ _ _; simp -implicitDefEqProofs only [eng, reduceIte, reduceCtorEq, Nat.reduceAdd, Nat.reduceMul, Nat.reduceSub, Nat.reduceEqDiff, Nat.reduceLeDiff, Nat.reduceLT, Nat.reduceDiv, Nat.reduceMod, Int.reduceLE, Int.reduceLT, Int.reduceEq, Int.reduceNeg, Int.reduceAdd, Int.reduceSub, Int.reduceToNat, Nat.reducePow, *]))
    exact .tmp1 (by simp -implicitDefEqProofs only [eng, reduceIte, reduceCtorEq, Nat.reduceAdd, Nat.reduceMul, Nat.reduceSub, Nat.reduceEqDiff, Nat.reduceLeDiff, Nat.reduceLT, Nat.reduceDiv, Nat.reduceMod, Int.reduceLE, Int.reduceLT, Int.reduceEq, Int.reduceNeg, Int.reduceAdd, Int.reduceSub, Int.reduceToNat, Nat.reducePow, *]) rfl
theorem v13 (xs ys : List Sp) (b : Nat) : V Try.prog 13 [.sl (sps xs), .sl (sps ys)] mt b (.bool (decide (xs = ys))) mt := V.code mixed k13 (by simp) (w13 xs ys b)

def J3 (l j : List Sp) (x0 x1 : Int) (i : Nat) (e : Env) (m : Mem) (nx : Nat) : Prop :=
  1 ≤ i ∧ e 0 = some (.sl (sps l)) ∧ e 5 = some (.sl (sps j)) ∧ e 6 = some (.int .i64 i) ∧ ∃ k, e 3 = some (.ptr k 2 0 0) ∧ m k = some (.box [.int .u8 x0, .int .u8 x1] 23)

theorem w3 (h10 : ∀ l b, V P 10 [.sl (sps l)] mt b (.sl (sps (l.take 30))) mt) (h11 : ∀ l : List Sp, l.length < 4294967296 → ∀ b, V P 11 [.sl (sps l)] mt b (.sl (sps (joinF l))) mt) (h12 : ∀ b, V P 12 [] mt b (.bool true) mt)
    (h13 : ∀ xs ys b, V P 13 [.sl (sps xs), .sl (sps ys)] mt b (.bool (decide (xs = ys))) mt) (l0 : List Sp) (x0 x1 : Int) (hx0 : 0 ≤ x0 ∧ x0 ≤ 255) (hx1 : 0 ≤ x1 ∧ x1 ≤ 255) (b : Nat) :
    VW P c3 (PRet (Ends [.tmp 4] b (.bool true) mt)) (fun t => [PV.sl (sps l0), PV.agg [.int .u8 x0, .int .u8 x1]][t]?) mt b := by
  unfold c3
  have h10' := h10 l0
  have hl30 : (l0.take 30).length ≤ 30 := by simp; omega
  generalize l0.take 30 = l at *
  have h11' := h11 l (by omega)
  have hjc := joinF_canon l
  have hjl := joinF_len l
  have hjj := joinF_of_canon hjc
  have hswap : ∀ (a b : Nat) x y, l[a]? = some x → l[b]? = some y → joinF ((l.set a y).set b x) = joinF l := fun a b x y h1 h2 => joinF_perm (swap_perm h1 h2)
  generalize hj : joinF l = j at *
  have h11j := h11 j (by omega)
  rw [hjj] at h11j
  have h13j := h13 j j
  simp only [decide_true] at h13j
  repeat' (first
    | refine VW.seq ?_
    | refine VW.block ?_
    | (refine VW.skip ?_; simp -implicitDefEqProofs only [eng, reduceIte, reduceCtorEq, Nat.reduceAdd, Nat.reduceMul, Nat.reduceSub, Nat.reduceEqDiff, Nat.reduceLeDiff, Nat.reduceLT, Nat.reduceDiv, Nat.reduceMod, Int.reduceLE, Int.reduceLT, Int.reduceEq, Int.reduceNeg, Int.reduceAdd, Int.reduceSub, Int.reduceToNat, Nat.reducePow])
    | (refine VW.exit ?_; simp -implicitDefEqProofs only [eng, reduceIte, reduceCtorEq, Nat.reduceAdd, Nat.reduceMul, Nat.reduceSub, Nat.reduceEqDiff, Nat.reduceLeDiff, Nat.reduceLT, Nat.reduceDiv, Nat.reduceMod, Int.reduceLE, Int.reduceLT, Int.reduceEq, Int.reduceNeg, Int.reduceAdd, Int.reduceSub, Int.reduceToNat, Nat.reducePow])
    | (refine VW.reg ?_; simp -implicitDefEqProofs only [eng, reduceIte, reduceCtorEq, Nat.reduceAdd, Nat.reduceMul, Nat.reduceSub, Nat.reduceEqDiff, Nat.reduceLeDiff, Nat.reduceLT, Nat.reduceDiv, Nat.reduceMod, Int.reduceLE, Int.reduceLT, Int.reduceEq, Int.reduceNeg, Int.reduceAdd, Int.reduceSub, Int.reduceToNat, Nat.reducePow, *])
    | (refine VW.regD ?_; simp -implicitDefEqProofs only [eng, reduceIte, reduceCtorEq, Nat.reduceAdd, Nat.reduceMul, Nat.reduceSub, Nat.reduceEqDiff, Nat.reduceLeDiff, Nat.reduceLT, Nat.reduceDiv, Nat.reduceMod, Int.reduceLE, Int.reduceLT, Int.reduceEq, Int.reduceNeg, Int.reduceAdd, Int.reduceSub, Int.reduceToNat, Nat.reducePow, *])
    | (refine VW.condT ?_ ?_; focus (simp -implicitDefEqProofs only [eng, reduceIte, reduceCtorEq, Nat.reduceAdd, Nat.reduceMul, Nat.reduceSub, Nat.reduceEqDiff, Nat.reduceLeDiff, Nat.reduceLT, Nat.reduceDiv, Nat.reduceMod, Int.reduceLE, Int.reduceLT, Int.reduceEq, Int.reduceNeg, Int.reduceAdd, Int.reduceSub, Int.reduceToNat, Nat.reducePow, *]; done))
    | (refine VW.condF ?_ ?_; focus (simp -implicitDefEqProofs only [eng, reduceIte, reduceCtorEq, Nat.reduceAdd, Nat.reduceMul, Nat.reduceSub, Nat.reduceEqDiff, Nat.reduceLeDiff, Nat.reduceLT, Nat.reduceDiv, Nat.reduceMod, Int.reduceLE, Int.reduceLT, Int.reduceEq, Int.reduceNeg, Int.reduceAdd, Int.reduceSub, Int.reduceToNat, Nat.reducePow, *]; done))
    | (apply VW.cond; focus (simp -implicitDefEqProofs only [eng, reduceIte, reduceCtorEq, Nat.reduceAdd, Nat.reduceMul, Nat.reduceSub, Nat.reduceEqDiff, Nat.reduceLeDiff, Nat.reduceLT, Nat.reduceDiv, Nat.reduceMod, Int.reduceLE, Int.reduceLT, Int.reduceEq, Int.reduceNeg, Int.reduceAdd, Int.reduceSub, Int.reduceToNat, Nat.reducePow, *]; rfl))
    | refine imp_nt ?_
    | refine imp_nf ?_
    | refine imp_dt (fun _ => ?_)
    | refine imp_df (fun _ => ?_)
    | (refine fun (_ : _ = true) => ?_)
    | (refine fun (_ : _ = false) => ?_)
    | (refine VW.ret ?_; simp -implicitDefEqProofs only [eng, reduceIte, reduceCtorEq, Nat.reduceAdd, Nat.reduceMul, Nat.reduceSub, Nat.reduceEqDiff, Nat.reduceLeDiff, Nat.reduceLT, Nat.reduceDiv, Nat.reduceMod, Int.reduceLE, Int.reduceLT, Int.reduceEq, Int.reduceNeg, Int.reduceAdd, Int.reduceSub, Int.reduceToNat, Nat.reducePow])
    | refine vg_t ?_ ?_
    | refine vg_f ?_ ?_
    | (show goA _ _ _ _ _ _ _ _ _ _; simp -implicitDefEqProofs only [eng, reduceIte, reduceCtorEq, Nat.reduceAdd, Nat.reduceMul, Nat.reduceSub, Nat.reduceEqDiff, Nat.reduceLeDiff, Nat.reduceLT, Nat.reduceDiv, Nat.reduceMod, Int.reduceLE, Int.reduceLT, Int.reduceEq, Int.reduceNeg, Int.reduceAdd, Int.reduceSub, Int.reduceToNat, Nat.reducePow, *])
    | (show goB _ _ _ _ _ _ _ _ _; simp -implicitDefEqProofs only [eng, reduceIte, reduceCtorEq, Nat.reduceAdd, Nat.reduceMul, Nat.reduceSub, Nat.reduceEqDiff, Nat.reduceLeDiff, Nat.reduceLT, Nat.reduceDiv, Nat.reduceMod, Int.reduceLE, Int.reduceLT, Int.reduceEq, Int.reduceNeg, Int.reduceAdd, Int.reduceSub, Int.reduceToNat, Nat.reducePow, *])
    | (show goAD _ _ _ _ _ _ _ _ _ _ _ _; simp -implicitDefEqProofs only [eng, reduceIte, reduceCtorEq, Nat.reduceAdd, Nat.reduceMul, Nat.reduceSub, Nat.reduceEqDiff, Nat.reduceLeDiff, Nat.reduceLT, Nat.reduceDiv, Nat.reduceMod, Int.reduceLE, Int.reduceLT, Int.reduceEq, Int.reduceNeg, Int.reduceAdd, Int.reduceSub, Int.reduceToNat, Nat.reducePow, *])
    | (show goBD _ _ _ _ _ _ _ _ _; simp -implicitDefEqProofs only [eng, reduceIte, reduceCtorEq, Nat.reduceAdd, Nat.reduceMul, Nat.reduceSub, Nat.reduceEqDiff, Nat.reduceLeDiff, Nat.reduceLT, Nat.reduceDiv, Nat.reduceMod, Int.reduceLE, Int.reduceLT, Int.reduceEq, Int.reduceNeg, Int.reduceAdd, Int.reduceSub, Int.reduceToNat, Nat.reducePow, *])
    | (refine VC.p1 (h10' _) rfl rfl ?_; simp -implicitDefEqProofs only [eng, reduceIte, reduceCtorEq, Nat.reduceAdd, Nat.reduceMul, Nat.reduceSub, Nat.reduceEqDiff, Nat.reduceLeDiff, Nat.reduceLT, Nat.reduceDiv, Nat.reduceMod, Int.reduceLE, Int.reduceLT, Int.reduceEq, Int.reduceNeg, Int.reduceAdd, Int.reduceSub, Int.reduceToNat, Nat.reducePow, *])
    | (refine VC.p1 (h11' _) rfl rfl ?_; simp -implicitDefEqProofs only [eng, reduceIte, reduceCtorEq, Nat.reduceAdd, Nat.reduceMul, Nat.reduceSub, Nat.reduceEqDiff, Nat.reduceLeDiff, Nat.reduceLT, Nat.reduceDiv, Nat.reduceMod, Int.reduceLE, Int.reduceLT, Int.reduceEq, Int.reduceNeg, Int.reduceAdd, Int.reduceSub, Int.reduceToNat, Nat.reducePow, *]))
  refine VW.forN (max 1 j.length) (J3 l j x0 x1) 1 (by omega) ⟨Nat.le_refl _, by simp -implicitDefEqProofs only [eng, reduceIte, reduceCtorEq, Nat.reduceAdd, Nat.reduceMul, Nat.reduceSub, Nat.reduceEqDiff, Nat.reduceLeDiff, Nat.reduceLT, Nat.reduceDiv, Nat.reduceMod, Int.reduceLE, Int.reduceLT, Int.reduceEq, Int.reduceNeg, Int.reduceAdd, Int.reduceSub, Int.reduceToNat, Nat.reducePow], by simp -implicitDefEqProofs only [eng, reduceIte, reduceCtorEq, Nat.reduceAdd, Nat.reduceMul, Nat.reduceSub, Nat.reduceEqDiff, Nat.reduceLeDiff, Nat.reduceLT, Nat.reduceDiv, Nat.reduceMod, Int.reduceLE, Int.reduceLT, Int.reduceEq, Int.reduceNeg, Int.reduceAdd, Int.reduceSub, Int.reduceToNat, Nat.reducePow], by simp -implicitDefEqProofs only [eng, reduceIte, reduceCtorEq, Nat.reduceAdd, Nat.reduceMul, Nat.reduceSub, Nat.reduceEqDiff, Nat.reduceLeDiff, Nat.reduceLT, Nat.reduceDiv, Nat.reduceMod, Int.reduceLE, Int.reduceLT, Int.reduceEq, Int.reduceNeg, Int.reduceAdd, Int.reduceSub, Int.reduceToNat, Nat.reducePow]; rfl, ⟨_, by simp -implicitDefEqProofs only [eng, reduceIte, reduceCtorEq, Nat.reduceAdd, Nat.reduceMul, Nat.reduceSub, Nat.reduceEqDiff, Nat.reduceLeDiff, Nat.reduceLT, Nat.reduceDiv, Nat.reduceMod, Int.reduceLE, Int.reduceLT, Int.reduceEq, Int.reduceNeg, Int.reduceAdd, Int.reduceSub, Int.reduceToNat, Nat.reducePow]; rfl, by simp -implicitDefEqProofs only [eng, reduceIte, reduceCtorEq, Nat.reduceAdd, Nat.reduceMul, Nat.reduceSub, Nat.reduceEqDiff, Nat.reduceLeDiff, Nat.reduceLT, Nat.reduceDiv, Nat.reduceMod, Int.reduceLE, Int.reduceLT, Int.reduceEq, Int.reduceNeg, Int.reduceAdd, Int.reduceSub, Int.reduceToNat, Nat.reducePow] <;> rfl⟩⟩ ?_
  clear h10'
  rintro i e m nx hi ⟨h1i, h0, h5, h6, ⟨k, h3, hm⟩⟩
  refine VW.below hm fun hlt => ?_
  obtain ⟨n1, n2, n3, n4, n5⟩ := below_ne hlt
  have hlj := sps_len (l := j)
  by_cases hin : i < j.length
  · have hin' : (i : Int) < j.length := by omega
    have hmx : i < max 1 j.length := by omega
    obtain ⟨s, hs⟩ := get_of (l := j) (i := i - 1) (by omega)
    obtain ⟨t, ht⟩ := get_of hin
    have hst : s.2 < t.1 := by
      have := List.pairwise_iff_getElem.1 hjc.2 (i - 1) i (by omega) hin (by omega)
      rwa [(List.getElem?_eq_some_iff.1 hs).2, (List.getElem?_eq_some_iff.1 ht).2] at this
    have hge : ¬ (t.1 ≤ s.2) := by omega
    have hs' : (sps j)[i - 1]? = some [.int .i64 s.1, .int .i64 s.2] := by rw [sps_get, hs]; rfl
    have ht' : (sps j)[i]? = some [.int .i64 t.1, .int .i64 t.2] := by rw [sps_get, ht]; rfl
    have h00 : (0 : Int) ≤ i := by omega
    have htn : (i : Int).toNat = i := Int.toNat_natCast i
    have h00' : (0 : Int) ≤ ((i - 1 : Nat) : Int) := by omega
    have htn' : ((i - 1 : Nat) : Int).toNat = i - 1 := Int.toNat_natCast _
    have hw := i64_nat (n := i) (by omega)
    have hw' : IntKind.i64.wrap ((i : Int) - 1) = ((i - 1 : Nat) : Int) := by rw [IntWalk.i64_in _ (by omega)]; omega
    clear hst hjc hs ht hswap
    repeat' (first
    | refine VW.seq ?_
    | refine VW.block ?_
    | (refine VW.skip ?_; simp -implicitDefEqProofs only [eng, reduceIte, reduceCtorEq, Nat.reduceAdd, Nat.reduceMul, Nat.reduceSub, Nat.reduceEqDiff, Nat.reduceLeDiff, Nat.reduceLT, Nat.reduceDiv, Nat.reduceMod, Int.reduceLE, Int.reduceLT, Int.reduceEq, Int.reduceNeg, Int.reduceAdd, Int.reduceSub, Int.reduceToNat, Nat.reducePow])
    | (refine VW.exit ?_; simp -implicitDefEqProofs only [eng, reduceIte, reduceCtorEq, Nat.reduceAdd, Nat.reduceMul, Nat.reduceSub, Nat.reduceEqDiff, Nat.reduceLeDiff, Nat.reduceLT, Nat.reduceDiv, Nat.reduceMod, Int.reduceLE, Int.reduceLT, Int.reduceEq, Int.reduceNeg, Int.reduceAdd, Int.reduceSub, Int.reduceToNat, Nat.reducePow])
    | (refine VW.reg ?_; simp -implicitDefEqProofs only [eng, reduceIte, reduceCtorEq, Nat.reduceAdd, Nat.reduceMul, Nat.reduceSub, Nat.reduceEqDiff, Nat.reduceLeDiff, Nat.reduceLT, Nat.reduceDiv, Nat.reduceMod, Int.reduceLE, Int.reduceLT, Int.reduceEq, Int.reduceNeg, Int.reduceAdd, Int.reduceSub, Int.reduceToNat, Nat.reducePow, *])
    | (refine VW.regD ?_; simp -implicitDefEqProofs only [eng, reduceIte, reduceCtorEq, Nat.reduceAdd, Nat.reduceMul, Nat.reduceSub, Nat.reduceEqDiff, Nat.reduceLeDiff, Nat.reduceLT, Nat.reduceDiv, Nat.reduceMod, Int.reduceLE, Int.reduceLT, Int.reduceEq, Int.reduceNeg, Int.reduceAdd, Int.reduceSub, Int.reduceToNat, Nat.reducePow, *])
    | (refine VW.condT ?_ ?_; focus (simp -implicitDefEqProofs only [eng, reduceIte, reduceCtorEq, Nat.reduceAdd, Nat.reduceMul, Nat.reduceSub, Nat.reduceEqDiff, Nat.reduceLeDiff, Nat.reduceLT, Nat.reduceDiv, Nat.reduceMod, Int.reduceLE, Int.reduceLT, Int.reduceEq, Int.reduceNeg, Int.reduceAdd, Int.reduceSub, Int.reduceToNat, Nat.reducePow, *]; done))
    | (refine VW.condF ?_ ?_; focus (simp -implicitDefEqProofs only [eng, reduceIte, reduceCtorEq, Nat.reduceAdd, Nat.reduceMul, Nat.reduceSub, Nat.reduceEqDiff, Nat.reduceLeDiff, Nat.reduceLT, Nat.reduceDiv, Nat.reduceMod, Int.reduceLE, Int.reduceLT, Int.reduceEq, Int.reduceNeg, Int.reduceAdd, Int.reduceSub, Int.reduceToNat, Nat.reducePow, *]; done))
    | (apply VW.cond; focus (simp -implicitDefEqProofs only [eng, reduceIte, reduceCtorEq, Nat.reduceAdd, Nat.reduceMul, Nat.reduceSub, Nat.reduceEqDiff, Nat.reduceLeDiff, Nat.reduceLT, Nat.reduceDiv, Nat.reduceMod, Int.reduceLE, Int.reduceLT, Int.reduceEq, Int.reduceNeg, Int.reduceAdd, Int.reduceSub, Int.reduceToNat, Nat.reducePow, *]; rfl))
    | refine imp_nt ?_
    | refine imp_nf ?_
    | refine imp_dt (fun _ => ?_)
    | refine imp_df (fun _ => ?_)
    | (refine fun (_ : _ = true) => ?_)
    | (refine fun (_ : _ = false) => ?_)
    | (refine VW.ret ?_; simp -implicitDefEqProofs only [eng, reduceIte, reduceCtorEq, Nat.reduceAdd, Nat.reduceMul, Nat.reduceSub, Nat.reduceEqDiff, Nat.reduceLeDiff, Nat.reduceLT, Nat.reduceDiv, Nat.reduceMod, Int.reduceLE, Int.reduceLT, Int.reduceEq, Int.reduceNeg, Int.reduceAdd, Int.reduceSub, Int.reduceToNat, Nat.reducePow])
    | refine vg_t ?_ ?_
    | refine vg_f ?_ ?_
    | (show goA _ _ _ _ _ _ _ _ _ _; simp -implicitDefEqProofs only [eng, reduceIte, reduceCtorEq, Nat.reduceAdd, Nat.reduceMul, Nat.reduceSub, Nat.reduceEqDiff, Nat.reduceLeDiff, Nat.reduceLT, Nat.reduceDiv, Nat.reduceMod, Int.reduceLE, Int.reduceLT, Int.reduceEq, Int.reduceNeg, Int.reduceAdd, Int.reduceSub, Int.reduceToNat, Nat.reducePow, *])
    | (show goB _ _ _ _ _ _ _ _ _; simp -implicitDefEqProofs only [eng, reduceIte, reduceCtorEq, Nat.reduceAdd, Nat.reduceMul, Nat.reduceSub, Nat.reduceEqDiff, Nat.reduceLeDiff, Nat.reduceLT, Nat.reduceDiv, Nat.reduceMod, Int.reduceLE, Int.reduceLT, Int.reduceEq, Int.reduceNeg, Int.reduceAdd, Int.reduceSub, Int.reduceToNat, Nat.reducePow, *])
    | (show goAD _ _ _ _ _ _ _ _ _ _ _ _; simp -implicitDefEqProofs only [eng, reduceIte, reduceCtorEq, Nat.reduceAdd, Nat.reduceMul, Nat.reduceSub, Nat.reduceEqDiff, Nat.reduceLeDiff, Nat.reduceLT, Nat.reduceDiv, Nat.reduceMod, Int.reduceLE, Int.reduceLT, Int.reduceEq, Int.reduceNeg, Int.reduceAdd, Int.reduceSub, Int.reduceToNat, Nat.reducePow, *])
    | (show goBD _ _ _ _ _ _ _ _ _; simp -implicitDefEqProofs only [eng, reduceIte, reduceCtorEq, Nat.reduceAdd, Nat.reduceMul, Nat.reduceSub, Nat.reduceEqDiff, Nat.reduceLeDiff, Nat.reduceLT, Nat.reduceDiv, Nat.reduceMod, Int.reduceLE, Int.reduceLT, Int.reduceEq, Int.reduceNeg, Int.reduceAdd, Int.reduceSub, Int.reduceToNat, Nat.reducePow, *]))
    exact ⟨by omega, by simp -implicitDefEqProofs only [eng, reduceIte, reduceCtorEq, Nat.reduceAdd, Nat.reduceMul, Nat.reduceSub, Nat.reduceEqDiff, Nat.reduceLeDiff, Nat.reduceLT, Nat.reduceDiv, Nat.reduceMod, Int.reduceLE, Int.reduceLT, Int.reduceEq, Int.reduceNeg, Int.reduceAdd, Int.reduceSub, Int.reduceToNat, Nat.reducePow, *], by simp -implicitDefEqProofs only [eng, reduceIte, reduceCtorEq, Nat.reduceAdd, Nat.reduceMul, Nat.reduceSub, Nat.reduceEqDiff, Nat.reduceLeDiff, Nat.reduceLT, Nat.reduceDiv, Nat.reduceMod, Int.reduceLE, Int.reduceLT, Int.reduceEq, Int.reduceNeg, Int.reduceAdd, Int.reduceSub, Int.reduceToNat, Nat.reducePow, *], by simp -implicitDefEqProofs only [eng, reduceIte, reduceCtorEq, Nat.reduceAdd, Nat.reduceMul, Nat.reduceSub, Nat.reduceEqDiff, Nat.reduceLeDiff, Nat.reduceLT, Nat.reduceDiv, Nat.reduceMod, Int.reduceLE, Int.reduceLT, Int.reduceEq, Int.reduceNeg, Int.reduceAdd, Int.reduceSub, Int.reduceToNat, Nat.reducePow, *], ⟨_, by simp -implicitDefEqProofs only [eng, reduceIte, reduceCtorEq, Nat.reduceAdd, Nat.reduceMul, Nat.reduceSub, Nat.reduceEqDiff, Nat.reduceLeDiff, Nat.reduceLT, Nat.reduceDiv, Nat.reduceMod, Int.reduceLE, Int.reduceLT, Int.reduceEq, Int.reduceNeg, Int.reduceAdd, Int.reduceSub, Int.reduceToNat, Nat.reducePow, *]; rfl, by simp -implicitDefEqProofs only [eng, reduceIte, reduceCtorEq, Nat.reduceAdd, Nat.reduceMul, Nat.reduceSub, Nat.reduceEqDiff, Nat.reduceLeDiff, Nat.reduceLT, Nat.reduceDiv, Nat.reduceMod, Int.reduceLE, Int.reduceLT, Int.reduceEq, Int.reduceNeg, Int.reduceAdd, Int.reduceSub, Int.reduceToNat, Nat.reducePow, *]⟩⟩
  · have hin' : ¬ (i : Int) < j.length := by omega
    have hll := sps_len (l := l)
    clear hi h1i hjc
    by_cases hl0 : l.length = 0
    · have hj0 : j.length = 0 := by omega
      have hl0' : (l.length : Int) = 0 := by omega
      have hj0' : (j.length : Int) = 0 := by omega
      have hi0 : ¬ (i : Int) < 0 := by omega
      clear hl30 hjl hl0 hj0 hswap
      repeat' (first
    | refine VW.seq ?_
    | refine VW.block ?_
    | (refine VW.skip ?_; simp -implicitDefEqProofs only [eng, reduceIte, reduceCtorEq, Nat.reduceAdd, Nat.reduceMul, Nat.reduceSub, Nat.reduceEqDiff, Nat.reduceLeDiff, Nat.reduceLT, Nat.reduceDiv, Nat.reduceMod, Int.reduceLE, Int.reduceLT, Int.reduceEq, Int.reduceNeg, Int.reduceAdd, Int.reduceSub, Int.reduceToNat, Nat.reducePow])
    | (refine VW.exit ?_; simp -implicitDefEqProofs only [eng, reduceIte, reduceCtorEq, Nat.reduceAdd, Nat.reduceMul, Nat.reduceSub, Nat.reduceEqDiff, Nat.reduceLeDiff, Nat.reduceLT, Nat.reduceDiv, Nat.reduceMod, Int.reduceLE, Int.reduceLT, Int.reduceEq, Int.reduceNeg, Int.reduceAdd, Int.reduceSub, Int.reduceToNat, Nat.reducePow])
    | (refine VW.reg ?_; simp -implicitDefEqProofs only [eng, reduceIte, reduceCtorEq, Nat.reduceAdd, Nat.reduceMul, Nat.reduceSub, Nat.reduceEqDiff, Nat.reduceLeDiff, Nat.reduceLT, Nat.reduceDiv, Nat.reduceMod, Int.reduceLE, Int.reduceLT, Int.reduceEq, Int.reduceNeg, Int.reduceAdd, Int.reduceSub, Int.reduceToNat, Nat.reducePow, *])
    | (refine VW.regD ?_; simp -implicitDefEqProofs only [eng, reduceIte, reduceCtorEq, Nat.reduceAdd, Nat.reduceMul, Nat.reduceSub, Nat.reduceEqDiff, Nat.reduceLeDiff, Nat.reduceLT, Nat.reduceDiv, Nat.reduceMod, Int.reduceLE, Int.reduceLT, Int.reduceEq, Int.reduceNeg, Int.reduceAdd, Int.reduceSub, Int.reduceToNat, Nat.reducePow, *])
    | (refine VW.condT ?_ ?_; focus (simp -implicitDefEqProofs only [eng, reduceIte, reduceCtorEq, Nat.reduceAdd, Nat.reduceMul, Nat.reduceSub, Nat.reduceEqDiff, Nat.reduceLeDiff, Nat.reduceLT, Nat.reduceDiv, Nat.reduceMod, Int.reduceLE, Int.reduceLT, Int.reduceEq, Int.reduceNeg, Int.reduceAdd, Int.reduceSub, Int.reduceToNat, Nat.reducePow, *]; done))
    | (refine VW.condF ?_ ?_; focus (simp -implicitDefEqProofs only [eng, reduceIte, reduceCtorEq, Nat.reduceAdd, Nat.reduceMul, Nat.reduceSub, Nat.reduceEqDiff, Nat.reduceLeDiff, Nat.reduceLT, Nat.reduceDiv, Nat.reduceMod, Int.reduceLE, Int.reduceLT, Int.reduceEq, Int.reduceNeg, Int.reduceAdd, Int.reduceSub, Int.reduceToNat, Nat.reducePow, *]; done))
    | (apply VW.cond; focus (simp -implicitDefEqProofs only [eng, reduceIte, reduceCtorEq, Nat.reduceAdd, Nat.reduceMul, Nat.reduceSub, Nat.reduceEqDiff, Nat.reduceLeDiff, Nat.reduceLT, Nat.reduceDiv, Nat.reduceMod, Int.reduceLE, Int.reduceLT, Int.reduceEq, Int.reduceNeg, Int.reduceAdd, Int.reduceSub, Int.reduceToNat, Nat.reducePow, *]; rfl))
    | refine imp_nt ?_
    | refine imp_nf ?_
    | refine imp_dt (fun _ => ?_)
    | refine imp_df (fun _ => ?_)
    | (refine fun (_ : _ = true) => ?_)
    | (refine fun (_ : _ = false) => ?_)
    | (refine VW.ret ?_; simp -implicitDefEqProofs only [eng, reduceIte, reduceCtorEq, Nat.reduceAdd, Nat.reduceMul, Nat.reduceSub, Nat.reduceEqDiff, Nat.reduceLeDiff, Nat.reduceLT, Nat.reduceDiv, Nat.reduceMod, Int.reduceLE, Int.reduceLT, Int.reduceEq, Int.reduceNeg, Int.reduceAdd, Int.reduceSub, Int.reduceToNat, Nat.reducePow])
    | refine vg_t ?_ ?_
    | refine vg_f ?_ ?_
    | (show goA _ _ _ _ _ _ _ _ _ _; simp -implicitDefEqProofs only [eng, reduceIte, reduceCtorEq, Nat.reduceAdd, Nat.reduceMul, Nat.reduceSub, Nat.reduceEqDiff, Nat.reduceLeDiff, Nat.reduceLT, Nat.reduceDiv, Nat.reduceMod, Int.reduceLE, Int.reduceLT, Int.reduceEq, Int.reduceNeg, Int.reduceAdd, Int.reduceSub, Int.reduceToNat, Nat.reducePow, *])
    | (show goB _ _ _ _ _ _ _ _ _; simp -implicitDefEqProofs only [eng, reduceIte, reduceCtorEq, Nat.reduceAdd, Nat.reduceMul, Nat.reduceSub, Nat.reduceEqDiff, Nat.reduceLeDiff, Nat.reduceLT, Nat.reduceDiv, Nat.reduceMod, Int.reduceLE, Int.reduceLT, Int.reduceEq, Int.reduceNeg, Int.reduceAdd, Int.reduceSub, Int.reduceToNat, Nat.reducePow, *])
    | (show goAD _ _ _ _ _ _ _ _ _ _ _ _; simp -implicitDefEqProofs only [eng, reduceIte, reduceCtorEq, Nat.reduceAdd, Nat.reduceMul, Nat.reduceSub, Nat.reduceEqDiff, Nat.reduceLeDiff, Nat.reduceLT, Nat.reduceDiv, Nat.reduceMod, Int.reduceLE, Int.reduceLT, Int.reduceEq, Int.reduceNeg, Int.reduceAdd, Int.reduceSub, Int.reduceToNat, Nat.reducePow, *])
    | (show goBD _ _ _ _ _ _ _ _ _; simp -implicitDefEqProofs only [eng, reduceIte, reduceCtorEq, Nat.reduceAdd, Nat.reduceMul, Nat.reduceSub, Nat.reduceEqDiff, Nat.reduceLeDiff, Nat.reduceLT, Nat.reduceDiv, Nat.reduceMod, Int.reduceLE, Int.reduceLT, Int.reduceEq, Int.reduceNeg, Int.reduceAdd, Int.reduceSub, Int.reduceToNat, Nat.reducePow, *])
    | (refine VC.p0 (h12 _) ?_; simp -implicitDefEqProofs only [eng, reduceIte, reduceCtorEq, Nat.reduceAdd, Nat.reduceMul, Nat.reduceSub, Nat.reduceEqDiff, Nat.reduceLeDiff, Nat.reduceLT, Nat.reduceDiv, Nat.reduceMod, Int.reduceLE, Int.reduceLT, Int.reduceEq, Int.reduceNeg, Int.reduceAdd, Int.reduceSub, Int.reduceToNat, Nat.reducePow, *]))
      exact .tmp1 (by simp -implicitDefEqProofs only [eng, reduceIte, reduceCtorEq, Nat.reduceAdd, Nat.reduceMul, Nat.reduceSub, Nat.reduceEqDiff, Nat.reduceLeDiff, Nat.reduceLT, Nat.reduceDiv, Nat.reduceMod, Int.reduceLE, Int.reduceLT, Int.reduceEq, Int.reduceNeg, Int.reduceAdd, Int.reduceSub, Int.reduceToNat, Nat.reducePow, *]) rfl
    · have hl0' : ¬ (l.length : Int) = 0 := by omega
      obtain ⟨a, ha, hal⟩ : ∃ a : Nat, x0.tmod (l.length : Int) = (a : Int) ∧ a < l.length := by
        refine ⟨x0.toNat % l.length, ?_, Nat.mod_lt _ (by omega)⟩
        rw [Int.tmod_eq_emod_of_nonneg hx0.1, Int.natCast_emod, Int.toNat_of_nonneg hx0.1]
      obtain ⟨c, hc, hcl⟩ : ∃ a : Nat, x1.tmod (l.length : Int) = (a : Int) ∧ a < l.length := by
        refine ⟨x1.toNat % l.length, ?_, Nat.mod_lt _ (by omega)⟩
        rw [Int.tmod_eq_emod_of_nonneg hx1.1, Int.natCast_emod, Int.toNat_of_nonneg hx1.1]
      obtain ⟨x, hx⟩ := get_of hal
      obtain ⟨y, hy⟩ := get_of hcl
      have hsw := hswap a c x y hx hy
      have hmlen : ((l.set a y).set c x).length = l.length := by simp
      have h11m := h11 ((l.set a y).set c x) (by omega)
      rw [hsw] at h11m
      have hx' : (sps l)[a]? = some [.int .i64 x.1, .int .i64 x.2] := by rw [sps_get, hx]; rfl
      have hy' : (sps l)[c]? = some [.int .i64 y.1, .int .i64 y.2] := by rw [sps_get, hy]; rfl
      have hset : ((sps l).set a [.int .i64 y.1, .int .i64 y.2])[c]? = some [.int .i64 y.1, .int .i64 y.2] := by
        rw [List.getElem?_set]
        by_cases hac : a = c
        · subst hac; simp [hll, hal]
        · simp [hac, hy']
      have hsl : ((sps l).set a [.int .i64 y.1, .int .i64 y.2]).length = l.length := by simp [hll]
      have hyl : allLen 2 (sps l) := fun q hq => by simp only [sps, List.mem_map] at hq; obtain ⟨z, _, rfl⟩ := hq; rfl
      have hfl : l.length * 16 ≤ 140737488355328 := by omega
      have c0 : IntKind.i64.wrap x0 = x0 := IntWalk.i64_in _ (by omega)
      have c1 : IntKind.i64.wrap x1 = x1 := IntWalk.i64_in _ (by omega)
      have a00 : (0 : Int) ≤ a := by omega
      have c00 : (0 : Int) ≤ c := by omega
      have atn : (a : Int).toNat = a := Int.toNat_natCast a
      have ctn : (c : Int).toNat = c := Int.toNat_natCast c
      have hmm : sps ((l.set a y).set c x) = ((sps l).set a [.int .i64 y.1, .int .i64 y.2]).set c [.int .i64 x.1, .int .i64 x.2] := by simp [sps, isp, List.map_set]
      clear hswap hx hy hl0 hl30 hjl hx0 hx1 hsw h11
      repeat' (first
    | refine VW.seq ?_
    | refine VW.block ?_
    | (refine VW.skip ?_; simp -implicitDefEqProofs only [eng, reduceIte, reduceCtorEq, Nat.reduceAdd, Nat.reduceMul, Nat.reduceSub, Nat.reduceEqDiff, Nat.reduceLeDiff, Nat.reduceLT, Nat.reduceDiv, Nat.reduceMod, Int.reduceLE, Int.reduceLT, Int.reduceEq, Int.reduceNeg, Int.reduceAdd, Int.reduceSub, Int.reduceToNat, Nat.reducePow])
    | (refine VW.exit ?_; simp -implicitDefEqProofs only [eng, reduceIte, reduceCtorEq, Nat.reduceAdd, Nat.reduceMul, Nat.reduceSub, Nat.reduceEqDiff, Nat.reduceLeDiff, Nat.reduceLT, Nat.reduceDiv, Nat.reduceMod, Int.reduceLE, Int.reduceLT, Int.reduceEq, Int.reduceNeg, Int.reduceAdd, Int.reduceSub, Int.reduceToNat, Nat.reducePow])
    | (refine VW.reg ?_; simp -implicitDefEqProofs only [eng, reduceIte, reduceCtorEq, Nat.reduceAdd, Nat.reduceMul, Nat.reduceSub, Nat.reduceEqDiff, Nat.reduceLeDiff, Nat.reduceLT, Nat.reduceDiv, Nat.reduceMod, Int.reduceLE, Int.reduceLT, Int.reduceEq, Int.reduceNeg, Int.reduceAdd, Int.reduceSub, Int.reduceToNat, Nat.reducePow, *])
    | (refine VW.regD ?_; simp -implicitDefEqProofs only [eng, reduceIte, reduceCtorEq, Nat.reduceAdd, Nat.reduceMul, Nat.reduceSub, Nat.reduceEqDiff, Nat.reduceLeDiff, Nat.reduceLT, Nat.reduceDiv, Nat.reduceMod, Int.reduceLE, Int.reduceLT, Int.reduceEq, Int.reduceNeg, Int.reduceAdd, Int.reduceSub, Int.reduceToNat, Nat.reducePow, *])
    | (refine VW.condT ?_ ?_; focus (simp -implicitDefEqProofs only [eng, reduceIte, reduceCtorEq, Nat.reduceAdd, Nat.reduceMul, Nat.reduceSub, Nat.reduceEqDiff, Nat.reduceLeDiff, Nat.reduceLT, Nat.reduceDiv, Nat.reduceMod, Int.reduceLE, Int.reduceLT, Int.reduceEq, Int.reduceNeg, Int.reduceAdd, Int.reduceSub, Int.reduceToNat, Nat.reducePow, *]; done))
    | (refine VW.condF ?_ ?_; focus (simp -implicitDefEqProofs only [eng, reduceIte, reduceCtorEq, Nat.reduceAdd, Nat.reduceMul, Nat.reduceSub, Nat.reduceEqDiff, Nat.reduceLeDiff, Nat.reduceLT, Nat.reduceDiv, Nat.reduceMod, Int.reduceLE, Int.reduceLT, Int.reduceEq, Int.reduceNeg, Int.reduceAdd, Int.reduceSub, Int.reduceToNat, Nat.reducePow, *]; done))
    | (apply VW.cond; focus (simp -implicitDefEqProofs only [eng, reduceIte, reduceCtorEq, Nat.reduceAdd, Nat.reduceMul, Nat.reduceSub, Nat.reduceEqDiff, Nat.reduceLeDiff, Nat.reduceLT, Nat.reduceDiv, Nat.reduceMod, Int.reduceLE, Int.reduceLT, Int.reduceEq, Int.reduceNeg, Int.reduceAdd, Int.reduceSub, Int.reduceToNat, Nat.reducePow, *]; rfl))
    | refine imp_nt ?_
    | refine imp_nf ?_
    | refine imp_dt (fun _ => ?_)
    | refine imp_df (fun _ => ?_)
    | (refine fun (_ : _ = true) => ?_)
    | (refine fun (_ : _ = false) => ?_)
    | (refine VW.ret ?_; simp -implicitDefEqProofs only [eng, reduceIte, reduceCtorEq, Nat.reduceAdd, Nat.reduceMul, Nat.reduceSub, Nat.reduceEqDiff, Nat.reduceLeDiff, Nat.reduceLT, Nat.reduceDiv, Nat.reduceMod, Int.reduceLE, Int.reduceLT, Int.reduceEq, Int.reduceNeg, Int.reduceAdd, Int.reduceSub, Int.reduceToNat, Nat.reducePow])
    | refine vg_t ?_ ?_
    | refine vg_f ?_ ?_
    | (show goA _ _ _ _ _ _ _ _ _ _; simp -implicitDefEqProofs only [eng, reduceIte, reduceCtorEq, Nat.reduceAdd, Nat.reduceMul, Nat.reduceSub, Nat.reduceEqDiff, Nat.reduceLeDiff, Nat.reduceLT, Nat.reduceDiv, Nat.reduceMod, Int.reduceLE, Int.reduceLT, Int.reduceEq, Int.reduceNeg, Int.reduceAdd, Int.reduceSub, Int.reduceToNat, Nat.reducePow, *])
    | (show goB _ _ _ _ _ _ _ _ _; simp -implicitDefEqProofs only [eng, reduceIte, reduceCtorEq, Nat.reduceAdd, Nat.reduceMul, Nat.reduceSub, Nat.reduceEqDiff, Nat.reduceLeDiff, Nat.reduceLT, Nat.reduceDiv, Nat.reduceMod, Int.reduceLE, Int.reduceLT, Int.reduceEq, Int.reduceNeg, Int.reduceAdd, Int.reduceSub, Int.reduceToNat, Nat.reducePow, *])
    | (show goAD _ _ _ _ _ _ _ _ _ _ _ _; simp -implicitDefEqProofs only [eng, reduceIte, reduceCtorEq, Nat.reduceAdd, Nat.reduceMul, Nat.reduceSub, Nat.reduceEqDiff, Nat.reduceLeDiff, Nat.reduceLT, Nat.reduceDiv, Nat.reduceMod, Int.reduceLE, Int.reduceLT, Int.reduceEq, Int.reduceNeg, Int.reduceAdd, Int.reduceSub, Int.reduceToNat, Nat.reducePow, *])
    | (show goBD _ _ _ _ _ _ _ _ _; simp -implicitDefEqProofs only [eng, reduceIte, reduceCtorEq, Nat.reduceAdd, Nat.reduceMul, Nat.reduceSub, Nat.reduceEqDiff, Nat.reduceLeDiff, Nat.reduceLT, Nat.reduceDiv, Nat.reduceMod, Int.reduceLE, Int.reduceLT, Int.reduceEq, Int.reduceNeg, Int.reduceAdd, Int.reduceSub, Int.reduceToNat, Nat.reducePow, *])
    | (refine VC.p0 (h12 _) ?_; simp -implicitDefEqProofs only [eng, reduceIte, reduceCtorEq, Nat.reduceAdd, Nat.reduceMul, Nat.reduceSub, Nat.reduceEqDiff, Nat.reduceLeDiff, Nat.reduceLT, Nat.reduceDiv, Nat.reduceMod, Int.reduceLE, Int.reduceLT, Int.reduceEq, Int.reduceNeg, Int.reduceAdd, Int.reduceSub, Int.reduceToNat, Nat.reducePow, *])
    | (refine VC.p1 (h11j _) rfl rfl ?_; simp -implicitDefEqProofs only [eng, reduceIte, reduceCtorEq, Nat.reduceAdd, Nat.reduceMul, Nat.reduceSub, Nat.reduceEqDiff, Nat.reduceLeDiff, Nat.reduceLT, Nat.reduceDiv, Nat.reduceMod, Int.reduceLE, Int.reduceLT, Int.reduceEq, Int.reduceNeg, Int.reduceAdd, Int.reduceSub, Int.reduceToNat, Nat.reducePow, *])
    | (refine VC.p2 (h13j _) rfl rfl rfl rfl ?_; simp -implicitDefEqProofs only [eng, reduceIte, reduceCtorEq, Nat.reduceAdd, Nat.reduceMul, Nat.reduceSub, Nat.reduceEqDiff, Nat.reduceLeDiff, Nat.reduceLT, Nat.reduceDiv, Nat.reduceMod, Int.reduceLE, Int.reduceLT, Int.reduceEq, Int.reduceNeg, Int.reduceAdd, Int.reduceSub, Int.reduceToNat, Nat.reducePow, *]))
      repeat' (first
    | refine VW.seq ?_
    | refine VW.block ?_
    | (refine VW.skip ?_; simp -implicitDefEqProofs only [eng, reduceIte, reduceCtorEq, Nat.reduceAdd, Nat.reduceMul, Nat.reduceSub, Nat.reduceEqDiff, Nat.reduceLeDiff, Nat.reduceLT, Nat.reduceDiv, Nat.reduceMod, Int.reduceLE, Int.reduceLT, Int.reduceEq, Int.reduceNeg, Int.reduceAdd, Int.reduceSub, Int.reduceToNat, Nat.reducePow])
    | (refine VW.exit ?_; simp -implicitDefEqProofs only [eng, reduceIte, reduceCtorEq, Nat.reduceAdd, Nat.reduceMul, Nat.reduceSub, Nat.reduceEqDiff, Nat.reduceLeDiff, Nat.reduceLT, Nat.reduceDiv, Nat.reduceMod, Int.reduceLE, Int.reduceLT, Int.reduceEq, Int.reduceNeg, Int.reduceAdd, Int.reduceSub, Int.reduceToNat, Nat.reducePow])
    | (refine VW.reg ?_; simp -implicitDefEqProofs only [eng, reduceIte, reduceCtorEq, Nat.reduceAdd, Nat.reduceMul, Nat.reduceSub, Nat.reduceEqDiff, Nat.reduceLeDiff, Nat.reduceLT, Nat.reduceDiv, Nat.reduceMod, Int.reduceLE, Int.reduceLT, Int.reduceEq, Int.reduceNeg, Int.reduceAdd, Int.reduceSub, Int.reduceToNat, Nat.reducePow, *])
    | (refine VW.regD ?_; simp -implicitDefEqProofs only [eng, reduceIte, reduceCtorEq, Nat.reduceAdd, Nat.reduceMul, Nat.reduceSub, Nat.reduceEqDiff, Nat.reduceLeDiff, Nat.reduceLT, Nat.reduceDiv, Nat.reduceMod, Int.reduceLE, Int.reduceLT, Int.reduceEq, Int.reduceNeg, Int.reduceAdd, Int.reduceSub, Int.reduceToNat, Nat.reducePow, *])
    | (refine VW.condT ?_ ?_; focus (simp -implicitDefEqProofs only [eng, reduceIte, reduceCtorEq, Nat.reduceAdd, Nat.reduceMul, Nat.reduceSub, Nat.reduceEqDiff, Nat.reduceLeDiff, Nat.reduceLT, Nat.reduceDiv, Nat.reduceMod, Int.reduceLE, Int.reduceLT, Int.reduceEq, Int.reduceNeg, Int.reduceAdd, Int.reduceSub, Int.reduceToNat, Nat.reducePow, *]; done))
    | (refine VW.condF ?_ ?_; focus (simp -implicitDefEqProofs only [eng, reduceIte, reduceCtorEq, Nat.reduceAdd, Nat.reduceMul, Nat.reduceSub, Nat.reduceEqDiff, Nat.reduceLeDiff, Nat.reduceLT, Nat.reduceDiv, Nat.reduceMod, Int.reduceLE, Int.reduceLT, Int.reduceEq, Int.reduceNeg, Int.reduceAdd, Int.reduceSub, Int.reduceToNat, Nat.reducePow, *]; done))
    | (apply VW.cond; focus (simp -implicitDefEqProofs only [eng, reduceIte, reduceCtorEq, Nat.reduceAdd, Nat.reduceMul, Nat.reduceSub, Nat.reduceEqDiff, Nat.reduceLeDiff, Nat.reduceLT, Nat.reduceDiv, Nat.reduceMod, Int.reduceLE, Int.reduceLT, Int.reduceEq, Int.reduceNeg, Int.reduceAdd, Int.reduceSub, Int.reduceToNat, Nat.reducePow, *]; rfl))
    | refine imp_nt ?_
    | refine imp_nf ?_
    | refine imp_dt (fun _ => ?_)
    | refine imp_df (fun _ => ?_)
    | (refine fun (_ : _ = true) => ?_)
    | (refine fun (_ : _ = false) => ?_)
    | (refine VW.ret ?_; simp -implicitDefEqProofs only [eng, reduceIte, reduceCtorEq, Nat.reduceAdd, Nat.reduceMul, Nat.reduceSub, Nat.reduceEqDiff, Nat.reduceLeDiff, Nat.reduceLT, Nat.reduceDiv, Nat.reduceMod, Int.reduceLE, Int.reduceLT, Int.reduceEq, Int.reduceNeg, Int.reduceAdd, Int.reduceSub, Int.reduceToNat, Nat.reducePow])
    | refine vg_t ?_ ?_
    | refine vg_f ?_ ?_
    | (show goA _ _ _ _ _ _ _ _ _ _; simp -implicitDefEqProofs only [eng, reduceIte, reduceCtorEq, Nat.reduceAdd, Nat.reduceMul, Nat.reduceSub, Nat.reduceEqDiff, Nat.reduceLeDiff, Nat.reduceLT, Nat.reduceDiv, Nat.reduceMod, Int.reduceLE, Int.reduceLT, Int.reduceEq, Int.reduceNeg, Int.reduceAdd, Int.reduceSub, Int.reduceToNat, Nat.reducePow, *])
    | (show goB _ _ _ _ _ _ _ _ _; simp -implicitDefEqProofs only [eng, reduceIte, reduceCtorEq, Nat.reduceAdd, Nat.reduceMul, Nat.reduceSub, Nat.reduceEqDiff, Nat.reduceLeDiff, Nat.reduceLT, Nat.reduceDiv, Nat.reduceMod, Int.reduceLE, Int.reduceLT, Int.reduceEq, Int.reduceNeg, Int.reduceAdd, Int.reduceSub, Int.reduceToNat, Nat.reducePow, *])
    | (show goAD _ _ _ _ _ _ _ _ _ _ _ _; simp -implicitDefEqProofs only [eng, reduceIte, reduceCtorEq, Nat.reduceAdd, Nat.reduceMul, Nat.reduceSub, Nat.reduceEqDiff, Nat.reduceLeDiff, Nat.reduceLT, Nat.reduceDiv, Nat.reduceMod, Int.reduceLE, Int.reduceLT, Int.reduceEq, Int.reduceNeg, Int.reduceAdd, Int.reduceSub, Int.reduceToNat, Nat.reducePow, *])
    | (show goBD _ _ _ _ _ _ _ _ _; simp -implicitDefEqProofs only [eng, reduceIte, reduceCtorEq, Nat.reduceAdd, Nat.reduceMul, Nat.reduceSub, Nat.reduceEqDiff, Nat.reduceLeDiff, Nat.reduceLT, Nat.reduceDiv, Nat.reduceMod, Int.reduceLE, Int.reduceLT, Int.reduceEq, Int.reduceNeg, Int.reduceAdd, Int.reduceSub, Int.reduceToNat, Nat.reducePow, *])
    | (refine VC.p0 (h12 _) ?_; simp -implicitDefEqProofs only [eng, reduceIte, reduceCtorEq, Nat.reduceAdd, Nat.reduceMul, Nat.reduceSub, Nat.reduceEqDiff, Nat.reduceLeDiff, Nat.reduceLT, Nat.reduceDiv, Nat.reduceMod, Int.reduceLE, Int.reduceLT, Int.reduceEq, Int.reduceNeg, Int.reduceAdd, Int.reduceSub, Int.reduceToNat, Nat.reducePow, *])
    | (refine VC.p1 (h11j _) rfl rfl ?_; simp -implicitDefEqProofs only [eng, reduceIte, reduceCtorEq, Nat.reduceAdd, Nat.reduceMul, Nat.reduceSub, Nat.reduceEqDiff, Nat.reduceLeDiff, Nat.reduceLT, Nat.reduceDiv, Nat.reduceMod, Int.reduceLE, Int.reduceLT, Int.reduceEq, Int.reduceNeg, Int.reduceAdd, Int.reduceSub, Int.reduceToNat, Nat.reducePow, *])
    | (refine VC.p2 (h13j _) rfl rfl rfl rfl ?_; simp -implicitDefEqProofs only [eng, reduceIte, reduceCtorEq, Nat.reduceAdd, Nat.reduceMul, Nat.reduceSub, Nat.reduceEqDiff, Nat.reduceLeDiff, Nat.reduceLT, Nat.reduceDiv, Nat.reduceMod, Int.reduceLE, Int.reduceLT, Int.reduceEq, Int.reduceNeg, Int.reduceAdd, Int.reduceSub, Int.reduceToNat, Nat.reducePow, *]))
      refine VC.o1 rfl (by simp -implicitDefEqProofs only [eng, reduceIte, reduceCtorEq, Nat.reduceAdd, Nat.reduceMul, Nat.reduceSub, Nat.reduceEqDiff, Nat.reduceLeDiff, Nat.reduceLT, Nat.reduceDiv, Nat.reduceMod, Int.reduceLE, Int.reduceLT, Int.reduceEq, Int.reduceNeg, Int.reduceAdd, Int.reduceSub, Int.reduceToNat, Nat.reducePow, *] <;> rfl) (by simp -implicitDefEqProofs only [eng, reduceIte, reduceCtorEq, Nat.reduceAdd, Nat.reduceMul, Nat.reduceSub, Nat.reduceEqDiff, Nat.reduceLeDiff, Nat.reduceLT, Nat.reduceDiv, Nat.reduceMod, Int.reduceLE, Int.reduceLT, Int.reduceEq, Int.reduceNeg, Int.reduceAdd, Int.reduceSub, Int.reduceToNat, Nat.reducePow, *] <;> rfl) (h11m _) (by simp [hsl]) hmm ?_
      simp -implicitDefEqProofs only [eng, reduceIte, reduceCtorEq, Nat.reduceAdd, Nat.reduceMul, Nat.reduceSub, Nat.reduceEqDiff, Nat.reduceLeDiff, Nat.reduceLT, Nat.reduceDiv, Nat.reduceMod, Int.reduceLE, Int.reduceLT, Int.reduceEq, Int.reduceNeg, Int.reduceAdd, Int.reduceSub, Int.reduceToNat, Nat.reducePow, *]
      repeat' (first
    | refine VW.seq ?_
    | refine VW.block ?_
    | (refine VW.skip ?_; simp -implicitDefEqProofs only [eng, reduceIte, reduceCtorEq, Nat.reduceAdd, Nat.reduceMul, Nat.reduceSub, Nat.reduceEqDiff, Nat.reduceLeDiff, Nat.reduceLT, Nat.reduceDiv, Nat.reduceMod, Int.reduceLE, Int.reduceLT, Int.reduceEq, Int.reduceNeg, Int.reduceAdd, Int.reduceSub, Int.reduceToNat, Nat.reducePow])
    | (refine VW.exit ?_; simp -implicitDefEqProofs only [eng, reduceIte, reduceCtorEq, Nat.reduceAdd, Nat.reduceMul, Nat.reduceSub, Nat.reduceEqDiff, Nat.reduceLeDiff, Nat.reduceLT, Nat.reduceDiv, Nat.reduceMod, Int.reduceLE, Int.reduceLT, Int.reduceEq, Int.reduceNeg, Int.reduceAdd, Int.reduceSub, Int.reduceToNat, Nat.reducePow])
    | (refine VW.reg ?_; simp -implicitDefEqProofs only [eng, reduceIte, reduceCtorEq, Nat.reduceAdd, Nat.reduceMul, Nat.reduceSub, Nat.reduceEqDiff, Nat.reduceLeDiff, Nat.reduceLT, Nat.reduceDiv, Nat.reduceMod, Int.reduceLE, Int.reduceLT, Int.reduceEq, Int.reduceNeg, Int.reduceAdd, Int.reduceSub, Int.reduceToNat, Nat.reducePow, *])
    | (refine VW.regD ?_; simp -implicitDefEqProofs only [eng, reduceIte, reduceCtorEq, Nat.reduceAdd, Nat.reduceMul, Nat.reduceSub, Nat.reduceEqDiff, Nat.reduceLeDiff, Nat.reduceLT, Nat.reduceDiv, Nat.reduceMod, Int.reduceLE, Int.reduceLT, Int.reduceEq, Int.reduceNeg, Int.reduceAdd, Int.reduceSub, Int.reduceToNat, Nat.reducePow, *])
    | (refine VW.condT ?_ ?_; focus (simp -implicitDefEqProofs only [eng, reduceIte, reduceCtorEq, Nat.reduceAdd, Nat.reduceMul, Nat.reduceSub, Nat.reduceEqDiff, Nat.reduceLeDiff, Nat.reduceLT, Nat.reduceDiv, Nat.reduceMod, Int.reduceLE, Int.reduceLT, Int.reduceEq, Int.reduceNeg, Int.reduceAdd, Int.reduceSub, Int.reduceToNat, Nat.reducePow, *]; done))
    | (refine VW.condF ?_ ?_; focus (simp -implicitDefEqProofs only [eng, reduceIte, reduceCtorEq, Nat.reduceAdd, Nat.reduceMul, Nat.reduceSub, Nat.reduceEqDiff, Nat.reduceLeDiff, Nat.reduceLT, Nat.reduceDiv, Nat.reduceMod, Int.reduceLE, Int.reduceLT, Int.reduceEq, Int.reduceNeg, Int.reduceAdd, Int.reduceSub, Int.reduceToNat, Nat.reducePow, *]; done))
    | (apply VW.cond; focus (simp -implicitDefEqProofs only [eng, reduceIte, reduceCtorEq, Nat.reduceAdd, Nat.reduceMul, Nat.reduceSub, Nat.reduceEqDiff, Nat.reduceLeDiff, Nat.reduceLT, Nat.reduceDiv, Nat.reduceMod, Int.reduceLE, Int.reduceLT, Int.reduceEq, Int.reduceNeg, Int.reduceAdd, Int.reduceSub, Int.reduceToNat, Nat.reducePow, *]; rfl))
    | refine imp_nt ?_
    | refine imp_nf ?_
    | refine imp_dt (fun _ => ?_)
    | refine imp_df (fun _ => ?_)
    | (refine fun (_ : _ = true) => ?_)
    | (refine fun (_ : _ = false) => ?_)
    | (refine VW.ret ?_; simp -implicitDefEqProofs only [eng, reduceIte, reduceCtorEq, Nat.reduceAdd, Nat.reduceMul, Nat.reduceSub, Nat.reduceEqDiff, Nat.reduceLeDiff, Nat.reduceLT, Nat.reduceDiv, Nat.reduceMod, Int.reduceLE, Int.reduceLT, Int.reduceEq, Int.reduceNeg, Int.reduceAdd, Int.reduceSub, Int.reduceToNat, Nat.reducePow])
    | refine vg_t ?_ ?_
    | refine vg_f ?_ ?_
    | (show goA _ _ _ _ _ _ _ _ _ _; simp -implicitDefEqProofs only [eng, reduceIte, reduceCtorEq, Nat.reduceAdd, Nat.reduceMul, Nat.reduceSub, Nat.reduceEqDiff, Nat.reduceLeDiff, Nat.reduceLT, Nat.reduceDiv, Nat.reduceMod, Int.reduceLE, Int.reduceLT, Int.reduceEq, Int.reduceNeg, Int.reduceAdd, Int.reduceSub, Int.reduceToNat, Nat.reducePow, *])
    | (show goB _ _ _ _ _ _ _ _ _; simp -implicitDefEqProofs only [eng, reduceIte, reduceCtorEq, Nat.reduceAdd, Nat.reduceMul, Nat.reduceSub, Nat.reduceEqDiff, Nat.reduceLeDiff, Nat.reduceLT, Nat.reduceDiv, Nat.reduceMod, Int.reduceLE, Int.reduceLT, Int.reduceEq, Int.reduceNeg, Int.reduceAdd, Int.reduceSub, Int.reduceToNat, Nat.reducePow, *])
    | (show goAD _ _ _ _ _ _ _ _ _ _ _ _; simp -implicitDefEqProofs only [eng, reduceIte, reduceCtorEq, Nat.reduceAdd, Nat.reduceMul, Nat.reduceSub, Nat.reduceEqDiff, Nat.reduceLeDiff, Nat.reduceLT, Nat.reduceDiv, Nat.reduceMod, Int.reduceLE, Int.reduceLT, Int.reduceEq, Int.reduceNeg, Int.reduceAdd, Int.reduceSub, Int.reduceToNat, Nat.reducePow, *])
    | (show goBD _ _ _ _ _ _ _ _ _; simp -implicitDefEqProofs only [eng, reduceIte, reduceCtorEq, Nat.reduceAdd, Nat.reduceMul, Nat.reduceSub, Nat.reduceEqDiff, Nat.reduceLeDiff, Nat.reduceLT, Nat.reduceDiv, Nat.reduceMod, Int.reduceLE, Int.reduceLT, Int.reduceEq, Int.reduceNeg, Int.reduceAdd, Int.reduceSub, Int.reduceToNat, Nat.reducePow, *])
    | (refine VC.p0 (h12 _) ?_; simp -implicitDefEqProofs only [eng, reduceIte, reduceCtorEq, Nat.reduceAdd, Nat.reduceMul, Nat.reduceSub, Nat.reduceEqDiff, Nat.reduceLeDiff, Nat.reduceLT, Nat.reduceDiv, Nat.reduceMod, Int.reduceLE, Int.reduceLT, Int.reduceEq, Int.reduceNeg, Int.reduceAdd, Int.reduceSub, Int.reduceToNat, Nat.reducePow, *])
    | (refine VC.p1 (h11j _) rfl rfl ?_; simp -implicitDefEqProofs only [eng, reduceIte, reduceCtorEq, Nat.reduceAdd, Nat.reduceMul, Nat.reduceSub, Nat.reduceEqDiff, Nat.reduceLeDiff, Nat.reduceLT, Nat.reduceDiv, Nat.reduceMod, Int.reduceLE, Int.reduceLT, Int.reduceEq, Int.reduceNeg, Int.reduceAdd, Int.reduceSub, Int.reduceToNat, Nat.reducePow, *])
    | (refine VC.p2 (h13j _) rfl rfl rfl rfl ?_; simp -implicitDefEqProofs only [eng, reduceIte, reduceCtorEq, Nat.reduceAdd, Nat.reduceMul, Nat.reduceSub, Nat.reduceEqDiff, Nat.reduceLeDiff, Nat.reduceLT, Nat.reduceDiv, Nat.reduceMod, Int.reduceLE, Int.reduceLT, Int.reduceEq, Int.reduceNeg, Int.reduceAdd, Int.reduceSub, Int.reduceToNat, Nat.reducePow, *]))
      exact .tmp1 (by simp -implicitDefEqProofs only [eng, reduceIte, reduceCtorEq, Nat.reduceAdd, Nat.reduceMul, Nat.reduceSub, Nat.reduceEqDiff, Nat.reduceLeDiff, Nat.reduceLT, Nat.reduceDiv, Nat.reduceMod, Int.reduceLE, Int.reduceLT, Int.reduceEq, Int.reduceNeg, Int.reduceAdd, Int.reduceSub, Int.reduceToNat, Nat.reducePow, *]) rfl

end
theorem v3 (l : List Sp) (x0 x1 : Int) (hx0 : 0 ≤ x0 ∧ x0 ≤ 255) (hx1 : 0 ≤ x1 ∧ x1 ≤ 255) (b : Nat) : V Try.prog 3 [.sl (sps l), .agg [.int .u8 x0, .int .u8 x1]] mt b (.bool true) mt := V.code mixed k3 (by simp) (w3 v10 v11 v12 v13 l x0 x1 hx0 hx1 b)
end Go.Vx
