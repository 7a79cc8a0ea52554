/- Apart, and SpanLists, walked. -/
import Derived.Test.YtfeobpjoifffiaaSM
import Derived.Test.YtfeobpjoifffiaaSE
set_option linter.unusedSimpArgs false
set_option linter.unusedVariables false
namespace Go.Vx
open Go Go.Proofs

/-- No two have a point together. -/
def Ap (l : List Sp) : Prop := l.Pairwise fun a b => overR b.1 b.2 a.1 a.2 = false
instance {l : List Sp} : Decidable (Ap l) := inferInstanceAs (Decidable (l.Pairwise fun a b => overR b.1 b.2 a.1 a.2 = false))
theorem over_symm {x y u v : Int} : overR x y u v = overR u v x y := by
  rw [overR_eq, overR_eq, Bool.eq_iff_iff]
  simp [overB]
  constructor <;> (intro h; simp_all)
theorem ap_iff (l : List Sp) : Ap l ↔ ∀ (i : Nat) a b, (sortF l)[i]? = some a → (sortF l)[i + 1]? = some b → a.2 ≤ b.1 := by
  have h1 : Ap l ↔ Ap (l.filter rightS) := by
    unfold Ap
    rw [List.pairwise_filter]
    constructor
    · exact fun h => h.imp fun h _ _ => h
    · refine fun h => h.imp fun {a b} h => ?_
      cases ha : rightS a
      · rw [overR_eq]; simp [rightS] at ha; simp [overB, ha]
      · cases hb : rightS b
        · rw [overR_eq]; simp [rightS] at hb; simp [overB, hb]
        · exact h ha hb
  have h2 : Ap (l.filter rightS) ↔ Ap (sortF l) := by
    unfold Ap
    exact (List.Perm.pairwise_iff (fun {a b} h => by rw [over_symm]; exact h) (List.mergeSort_perm (l.filter rightS) leS)).symm
  have hr := sortF_right (l := l)
  have hs := sortF_sorted (l := l)
  rw [h1, h2]
  generalize sortF l = s at *
  have h3 : ∀ (i j : Nat) a b, i < j → s[i]? = some a → s[j]? = some b → a.1 ≤ b.1 := fun i j a b hij ha hb => by
    have := List.pairwise_iff_getElem.1 hs i j (List.getElem?_eq_some_iff.1 ha).1 (List.getElem?_eq_some_iff.1 hb).1 hij
    rwa [(List.getElem?_eq_some_iff.1 ha).2, (List.getElem?_eq_some_iff.1 hb).2] at this
  have h4 : ∀ a b : Sp, rightS a = true → rightS b = true → a.1 ≤ b.1 → (overR b.1 b.2 a.1 a.2 = false ↔ a.2 ≤ b.1) := fun a b ha hb hab => by
    rw [overR_eq]
    have h1 := rightS_iff.1 ha
    have h2 := rightS_iff.1 hb
    unfold rightS at ha hb
    constructor
    · intro h
      simp [overB, ha, hb] at h
      omega
    · intro h
      simp [overB, ha, hb]
      omega
  unfold Ap
  rw [List.pairwise_iff_getElem]
  constructor
  · intro h i a b ha hb
    have hi := (List.getElem?_eq_some_iff.1 ha).1
    have hj := (List.getElem?_eq_some_iff.1 hb).1
    have := h i (i + 1) hi hj (by omega)
    rw [(List.getElem?_eq_some_iff.1 ha).2, (List.getElem?_eq_some_iff.1 hb).2] at this
    exact (h4 a b (hr a (List.mem_of_getElem? ha)) (hr b (List.mem_of_getElem? hb)) (h3 i (i + 1) a b (by omega) ha hb)).1 this
  · intro h i j hi hj hij
    have ha : s[i]? = some s[i] := by simp [hi]
    have hb : s[j]? = some s[j] := by simp [hj]
    rw [h4 _ _ (hr _ (List.mem_of_getElem? ha)) (hr _ (List.mem_of_getElem? hb)) (h3 i j _ _ hij ha hb)]
    have hc : s[i + 1]? = some (s[i + 1]'(by omega)) := by simp
    have h5 := h i _ _ ha hc
    rcases Nat.lt_or_ge (i + 1) j with hlt | hge
    · have := h3 (i + 1) j _ _ hlt hc hb
      omega
    · have : i + 1 = j := by omega
      subst this
      exact h5

section
variable {P : Program}
def J33 (s : List Sp) (i : Nat) (e : Env) (m : Mem) (nx : Nat) : Prop :=
  1 ≤ i ∧ e 3 = some (.sl (sps s)) ∧ e 4 = some (.int .i64 i) ∧ ∀ (k : Nat) a b, k + 1 < i → s[k]? = some a → s[k + 1]? = some b → a.2 ≤ b.1

theorem w33 (h37 : ∀ l : List Sp, l.length < 4294967296 → ∀ b, V P 37 [.sl (sps l)] mt b (.sl (sps (sortF l))) mt) (l : List Sp) (hN : l.length < 4294967296) (b : Nat) : VW P c33 (PRet (Ends [.tmp 2] b (.bool (decide (Ap l))) mt)) (fun i => [PV.sl (sps l)][i]?) mt b := by
  unfold c33
  have h37' := h37 l hN
  have hap := ap_iff l
  have hsl := sortF_len (l := l)
  generalize sortF l = s at *
  repeat' (first
    | refine VW.seq ?_
    | refine VW.block ?_
    | (refine VW.skip ?_; simp -implicitDefEqProofs only [eng, reduceIte, reduceCtorEq, Nat.reduceAdd, Nat.reduceMul, Nat.reduceSub, Nat.reduceEqDiff, Nat.reduceLeDiff, Nat.reduceLT, Nat.reduceDiv, Nat.reduceMod, Int.reduceLE, Int.reduceLT, Int.reduceEq, Int.reduceNeg, Int.reduceAdd, Int.reduceSub, Int.reduceToNat, Nat.reducePow])
    | (refine VW.exit ?_; simp -implicitDefEqProofs only [eng, reduceIte, reduceCtorEq, Nat.reduceAdd, Nat.reduceMul, Nat.reduceSub, Nat.reduceEqDiff, Nat.reduceLeDiff, Nat.reduceLT, Nat.reduceDiv, Nat.reduceMod, Int.reduceLE, Int.reduceLT, Int.reduceEq, Int.reduceNeg, Int.reduceAdd, Int.reduceSub, Int.reduceToNat, Nat.reducePow])
    | (refine VW.reg ?_; simp -implicitDefEqProofs only [eng, reduceIte, reduceCtorEq, Nat.reduceAdd, Nat.reduceMul, Nat.reduceSub, Nat.reduceEqDiff, Nat.reduceLeDiff, Nat.reduceLT, Nat.reduceDiv, Nat.reduceMod, Int.reduceLE, Int.reduceLT, Int.reduceEq, Int.reduceNeg, Int.reduceAdd, Int.reduceSub, Int.reduceToNat, Nat.reducePow, *])
    | (refine VW.regD ?_; simp -implicitDefEqProofs only [eng, reduceIte, reduceCtorEq, Nat.reduceAdd, Nat.reduceMul, Nat.reduceSub, Nat.reduceEqDiff, Nat.reduceLeDiff, Nat.reduceLT, Nat.reduceDiv, Nat.reduceMod, Int.reduceLE, Int.reduceLT, Int.reduceEq, Int.reduceNeg, Int.reduceAdd, Int.reduceSub, Int.reduceToNat, Nat.reducePow, *])
    | (refine VW.condT ?_ ?_; focus (simp -implicitDefEqProofs only [eng, reduceIte, reduceCtorEq, Nat.reduceAdd, Nat.reduceMul, Nat.reduceSub, Nat.reduceEqDiff, Nat.reduceLeDiff, Nat.reduceLT, Nat.reduceDiv, Nat.reduceMod, Int.reduceLE, Int.reduceLT, Int.reduceEq, Int.reduceNeg, Int.reduceAdd, Int.reduceSub, Int.reduceToNat, Nat.reducePow, *]; done))
    | (refine VW.condF ?_ ?_; focus (simp -implicitDefEqProofs only [eng, reduceIte, reduceCtorEq, Nat.reduceAdd, Nat.reduceMul, Nat.reduceSub, Nat.reduceEqDiff, Nat.reduceLeDiff, Nat.reduceLT, Nat.reduceDiv, Nat.reduceMod, Int.reduceLE, Int.reduceLT, Int.reduceEq, Int.reduceNeg, Int.reduceAdd, Int.reduceSub, Int.reduceToNat, Nat.reducePow, *]; done))
    | (apply VW.cond; focus (simp -implicitDefEqProofs only [eng, reduceIte, reduceCtorEq, Nat.reduceAdd, Nat.reduceMul, Nat.reduceSub, Nat.reduceEqDiff, Nat.reduceLeDiff, Nat.reduceLT, Nat.reduceDiv, Nat.reduceMod, Int.reduceLE, Int.reduceLT, Int.reduceEq, Int.reduceNeg, Int.reduceAdd, Int.reduceSub, Int.reduceToNat, Nat.reducePow, *]; rfl))
    | refine imp_nt ?_
    | refine imp_nf ?_
    | refine imp_dt (fun _ => ?_)
    | refine imp_df (fun _ => ?_)
    | (refine fun (_ : _ = true) => ?_)
    | (refine fun (_ : _ = false) => ?_)
    | (refine VW.ret ?_; simp -implicitDefEqProofs only [eng, reduceIte, reduceCtorEq, Nat.reduceAdd, Nat.reduceMul, Nat.reduceSub, Nat.reduceEqDiff, Nat.reduceLeDiff, Nat.reduceLT, Nat.reduceDiv, Nat.reduceMod, Int.reduceLE, Int.reduceLT, Int.reduceEq, Int.reduceNeg, Int.reduceAdd, Int.reduceSub, Int.reduceToNat, Nat.reducePow])
    | refine vg_t ?_ ?_
    | refine vg_f ?_ ?_
    | (show goA _ _ _ _ _ _ _ _ _ _; simp -implicitDefEqProofs only [eng, reduceIte, reduceCtorEq, Nat.reduceAdd, Nat.reduceMul, Nat.reduceSub, Nat.reduceEqDiff, Nat.reduceLeDiff, Nat.reduceLT, Nat.reduceDiv, Nat.reduceMod, Int.reduceLE, Int.reduceLT, Int.reduceEq, Int.reduceNeg, Int.reduceAdd, Int.reduceSub, Int.reduceToNat, Nat.reducePow, *])
    | (show goB _ _ _ _ _ _ _ _ _; simp -implicitDefEqProofs only [eng, reduceIte, reduceCtorEq, Nat.reduceAdd, Nat.reduceMul, Nat.reduceSub, Nat.reduceEqDiff, Nat.reduceLeDiff, Nat.reduceLT, Nat.reduceDiv, Nat.reduceMod, Int.reduceLE, Int.reduceLT, Int.reduceEq, Int.reduceNeg, Int.reduceAdd, Int.reduceSub, Int.reduceToNat, Nat.reducePow, *])
    | (show goAD _ _ _ _ _ _ _ _ _ _ _ _; simp -implicitDefEqProofs only [eng, reduceIte, reduceCtorEq, Nat.reduceAdd, Nat.reduceMul, Nat.reduceSub, Nat.reduceEqDiff, Nat.reduceLeDiff, Nat.reduceLT, Nat.reduceDiv, Nat.reduceMod, Int.reduceLE, Int.reduceLT, Int.reduceEq, Int.reduceNeg, Int.reduceAdd, Int.reduceSub, Int.reduceToNat, Nat.reducePow, *])
    | (show goBD _ _ _ _ _ _ _ _ _; simp -implicitDefEqProofs only [eng, reduceIte, reduceCtorEq, Nat.reduceAdd, Nat.reduceMul, Nat.reduceSub, Nat.reduceEqDiff, Nat.reduceLeDiff, Nat.reduceLT, Nat.reduceDiv, Nat.reduceMod, Int.reduceLE, Int.reduceLT, Int.reduceEq, Int.reduceNeg, Int.reduceAdd, Int.reduceSub, Int.reduceToNat, Nat.reducePow, *])
    | (refine VC.p1 (h37' _) rfl rfl ?_; simp -implicitDefEqProofs only [eng, reduceIte, reduceCtorEq, Nat.reduceAdd, Nat.reduceMul, Nat.reduceSub, Nat.reduceEqDiff, Nat.reduceLeDiff, Nat.reduceLT, Nat.reduceDiv, Nat.reduceMod, Int.reduceLE, Int.reduceLT, Int.reduceEq, Int.reduceNeg, Int.reduceAdd, Int.reduceSub, Int.reduceToNat, Nat.reducePow, *]))
  refine VW.forN (max 1 s.length) (J33 s) 1 (by omega) ⟨Nat.le_refl _, by simp -implicitDefEqProofs only [eng, reduceIte, reduceCtorEq, Nat.reduceAdd, Nat.reduceMul, Nat.reduceSub, Nat.reduceEqDiff, Nat.reduceLeDiff, Nat.reduceLT, Nat.reduceDiv, Nat.reduceMod, Int.reduceLE, Int.reduceLT, Int.reduceEq, Int.reduceNeg, Int.reduceAdd, Int.reduceSub, Int.reduceToNat, Nat.reducePow], by simp -implicitDefEqProofs only [eng, reduceIte, reduceCtorEq, Nat.reduceAdd, Nat.reduceMul, Nat.reduceSub, Nat.reduceEqDiff, Nat.reduceLeDiff, Nat.reduceLT, Nat.reduceDiv, Nat.reduceMod, Int.reduceLE, Int.reduceLT, Int.reduceEq, Int.reduceNeg, Int.reduceAdd, Int.reduceSub, Int.reduceToNat, Nat.reducePow] <;> rfl, fun k a b hk => by omega⟩ ?_
  rintro i e m nx hi ⟨h1i, h3, h4, hall⟩
  have hls := sps_len (l := s)
  by_cases hin : i < s.length
  · have hin' : (i : Int) < s.length := by omega
    have hmx : i < max 1 s.length := by omega
    obtain ⟨a, ha⟩ := get_of (l := s) (i := i - 1) (by omega)
    obtain ⟨c, hc⟩ := get_of hin
    have ha' : (sps s)[i - 1]? = some [.int .i64 a.1, .int .i64 a.2] := by rw [sps_get, ha]; rfl
    have hc' : (sps s)[i]? = some [.int .i64 c.1, .int .i64 c.2] := by rw [sps_get, hc]; rfl
    have h00 : (0 : Int) ≤ i := by omega
    have htn : (i : Int).toNat = i := Int.toNat_natCast i
    have h00' : (0 : Int) ≤ ((i - 1 : Nat) : Int) := by omega
    have htn' : ((i - 1 : Nat) : Int).toNat = i - 1 := Int.toNat_natCast _
    have hw := i64_nat (n := i) (by omega)
    have hw' : IntKind.i64.wrap ((i : Int) - 1) = ((i - 1 : Nat) : Int) := by rw [IntWalk.i64_in _ (by omega)]; omega
    by_cases hlt : c.1 < a.2
    · have hd : decide (Ap l) = false := decide_eq_false fun h => by
        have := hap.1 h (i - 1) a c ha (by rw [Nat.sub_add_cancel h1i]; exact hc)
        omega
      clear hap hall ha hc hi h1i
      repeat' (first
    | refine VW.seq ?_
    | refine VW.block ?_
    | (refine VW.skip ?_; simp -implicitDefEqProofs only [eng, reduceIte, reduceCtorEq, Nat.reduceAdd, Nat.reduceMul, Nat.reduceSub, Nat.reduceEqDiff, Nat.reduceLeDiff, Nat.reduceLT, Nat.reduceDiv, Nat.reduceMod, Int.reduceLE, Int.reduceLT, Int.reduceEq, Int.reduceNeg, Int.reduceAdd, Int.reduceSub, Int.reduceToNat, Nat.reducePow])
    | (refine VW.exit ?_; simp -implicitDefEqProofs only [eng, reduceIte, reduceCtorEq, Nat.reduceAdd, Nat.reduceMul, Nat.reduceSub, Nat.reduceEqDiff, Nat.reduceLeDiff, Nat.reduceLT, Nat.reduceDiv, Nat.reduceMod, Int.reduceLE, Int.reduceLT, Int.reduceEq, Int.reduceNeg, Int.reduceAdd, Int.reduceSub, Int.reduceToNat, Nat.reducePow])
    | (refine VW.reg ?_; simp -implicitDefEqProofs only [eng, reduceIte, reduceCtorEq, Nat.reduceAdd, Nat.reduceMul, Nat.reduceSub, Nat.reduceEqDiff, Nat.reduceLeDiff, Nat.reduceLT, Nat.reduceDiv, Nat.reduceMod, Int.reduceLE, Int.reduceLT, Int.reduceEq, Int.reduceNeg, Int.reduceAdd, Int.reduceSub, Int.reduceToNat, Nat.reducePow, *])
    | (refine VW.regD ?_; simp -implicitDefEqProofs only [eng, reduceIte, reduceCtorEq, Nat.reduceAdd, Nat.reduceMul, Nat.reduceSub, Nat.reduceEqDiff, Nat.reduceLeDiff, Nat.reduceLT, Nat.reduceDiv, Nat.reduceMod, Int.reduceLE, Int.reduceLT, Int.reduceEq, Int.reduceNeg, Int.reduceAdd, Int.reduceSub, Int.reduceToNat, Nat.reducePow, *])
    | (refine VW.condT ?_ ?_; focus (simp -implicitDefEqProofs only [eng, reduceIte, reduceCtorEq, Nat.reduceAdd, Nat.reduceMul, Nat.reduceSub, Nat.reduceEqDiff, Nat.reduceLeDiff, Nat.reduceLT, Nat.reduceDiv, Nat.reduceMod, Int.reduceLE, Int.reduceLT, Int.reduceEq, Int.reduceNeg, Int.reduceAdd, Int.reduceSub, Int.reduceToNat, Nat.reducePow, *]; done))
    | (refine VW.condF ?_ ?_; focus (simp -implicitDefEqProofs only [eng, reduceIte, reduceCtorEq, Nat.reduceAdd, Nat.reduceMul, Nat.reduceSub, Nat.reduceEqDiff, Nat.reduceLeDiff, Nat.reduceLT, Nat.reduceDiv, Nat.reduceMod, Int.reduceLE, Int.reduceLT, Int.reduceEq, Int.reduceNeg, Int.reduceAdd, Int.reduceSub, Int.reduceToNat, Nat.reducePow, *]; done))
    | (apply VW.cond; focus (simp -implicitDefEqProofs only [eng, reduceIte, reduceCtorEq, Nat.reduceAdd, Nat.reduceMul, Nat.reduceSub, Nat.reduceEqDiff, Nat.reduceLeDiff, Nat.reduceLT, Nat.reduceDiv, Nat.reduceMod, Int.reduceLE, Int.reduceLT, Int.reduceEq, Int.reduceNeg, Int.reduceAdd, Int.reduceSub, Int.reduceToNat, Nat.reducePow, *]; rfl))
    | refine imp_nt ?_
    | refine imp_nf ?_
    | refine imp_dt (fun _ => ?_)
    | refine imp_df (fun _ => ?_)
    | (refine fun (_ : _ = true) => ?_)
    | (refine fun (_ : _ = false) => ?_)
    | (refine VW.ret ?_; simp -implicitDefEqProofs only [eng, reduceIte, reduceCtorEq, Nat.reduceAdd, Nat.reduceMul, Nat.reduceSub, Nat.reduceEqDiff, Nat.reduceLeDiff, Nat.reduceLT, Nat.reduceDiv, Nat.reduceMod, Int.reduceLE, Int.reduceLT, Int.reduceEq, Int.reduceNeg, Int.reduceAdd, Int.reduceSub, Int.reduceToNat, Nat.reducePow])
    | refine vg_t ?_ ?_
    | refine vg_f ?_ ?_
    | (show goA _ _ _ _ _ _ _ _ _ _; simp -implicitDefEqProofs only [eng, reduceIte, reduceCtorEq, Nat.reduceAdd, Nat.reduceMul, Nat.reduceSub, Nat.reduceEqDiff, Nat.reduceLeDiff, Nat.reduceLT, Nat.reduceDiv, Nat.reduceMod, Int.reduceLE, Int.reduceLT, Int.reduceEq, Int.reduceNeg, Int.reduceAdd, Int.reduceSub, Int.reduceToNat, Nat.reducePow, *])
    | (show goB _ _ _ _ _ _ _ _ _; simp -implicitDefEqProofs only [eng, reduceIte, reduceCtorEq, Nat.reduceAdd, Nat.reduceMul, Nat.reduceSub, Nat.reduceEqDiff, Nat.reduceLeDiff, Nat.reduceLT, Nat.reduceDiv, Nat.reduceMod, Int.reduceLE, Int.reduceLT, Int.reduceEq, Int.reduceNeg, Int.reduceAdd, Int.reduceSub, Int.reduceToNat, Nat.reducePow, *])
    | (show goAD _ _ _ _ _ _ _ _ _ _ _ _; simp -implicitDefEqProofs only [eng, reduceIte, reduceCtorEq, Nat.reduceAdd, Nat.reduceMul, Nat.reduceSub, Nat.reduceEqDiff, Nat.reduceLeDiff, Nat.reduceLT, Nat.reduceDiv, Nat.reduceMod, Int.reduceLE, Int.reduceLT, Int.reduceEq, Int.reduceNeg, Int.reduceAdd, Int.reduceSub, Int.reduceToNat, Nat.reducePow, *])
    | (show goBD _ _ _ _ _ _ _ _ _; simp -implicitDefEqProofs only [eng, reduceIte, reduceCtorEq, Nat.reduceAdd, Nat.reduceMul, Nat.reduceSub, Nat.reduceEqDiff, Nat.reduceLeDiff, Nat.reduceLT, Nat.reduceDiv, Nat.reduceMod, Int.reduceLE, Int.reduceLT, Int.reduceEq, Int.reduceNeg, Int.reduceAdd, Int.reduceSub, Int.reduceToNat, Nat.reducePow, *]))
      exact .tmp1 (by simp -implicitDefEqProofs only [eng, reduceIte, reduceCtorEq, Nat.reduceAdd, Nat.reduceMul, Nat.reduceSub, Nat.reduceEqDiff, Nat.reduceLeDiff, Nat.reduceLT, Nat.reduceDiv, Nat.reduceMod, Int.reduceLE, Int.reduceLT, Int.reduceEq, Int.reduceNeg, Int.reduceAdd, Int.reduceSub, Int.reduceToNat, Nat.reducePow, *]) rfl
    · have hall' : ∀ (k : Nat) a b, k + 1 < i + 1 → s[k]? = some a → s[k + 1]? = some b → a.2 ≤ b.1 := fun k a' b' hk h1 h2 => by
        by_cases hki : k + 1 < i
        · exact hall k a' b' hki h1 h2
        · have : k = i - 1 := by omega
          subst this
          rw [Nat.sub_add_cancel h1i, hc] at h2
          rw [ha] at h1
          injection h1 with h1; injection h2 with h2
          subst h1; subst h2
          omega
      have h1i' : 1 ≤ i + 1 := by omega
      clear hap hall ha hc hi h1i
      repeat' (first
    | refine VW.seq ?_
    | refine VW.block ?_
    | (refine VW.skip ?_; simp -implicitDefEqProofs only [eng, reduceIte, reduceCtorEq, Nat.reduceAdd, Nat.reduceMul, Nat.reduceSub, Nat.reduceEqDiff, Nat.reduceLeDiff, Nat.reduceLT, Nat.reduceDiv, Nat.reduceMod, Int.reduceLE, Int.reduceLT, Int.reduceEq, Int.reduceNeg, Int.reduceAdd, Int.reduceSub, Int.reduceToNat, Nat.reducePow])
    | (refine VW.exit ?_; simp -implicitDefEqProofs only [eng, reduceIte, reduceCtorEq, Nat.reduceAdd, Nat.reduceMul, Nat.reduceSub, Nat.reduceEqDiff, Nat.reduceLeDiff, Nat.reduceLT, Nat.reduceDiv, Nat.reduceMod, Int.reduceLE, Int.reduceLT, Int.reduceEq, Int.reduceNeg, Int.reduceAdd, Int.reduceSub, Int.reduceToNat, Nat.reducePow])
    | (refine VW.reg ?_; simp -implicitDefEqProofs only [eng, reduceIte, reduceCtorEq, Nat.reduceAdd, Nat.reduceMul, Nat.reduceSub, Nat.reduceEqDiff, Nat.reduceLeDiff, Nat.reduceLT, Nat.reduceDiv, Nat.reduceMod, Int.reduceLE, Int.reduceLT, Int.reduceEq, Int.reduceNeg, Int.reduceAdd, Int.reduceSub, Int.reduceToNat, Nat.reducePow, *])
    | (refine VW.regD ?_; simp -implicitDefEqProofs only [eng, reduceIte, reduceCtorEq, Nat.reduceAdd, Nat.reduceMul, Nat.reduceSub, Nat.reduceEqDiff, Nat.reduceLeDiff, Nat.reduceLT, Nat.reduceDiv, Nat.reduceMod, Int.reduceLE, Int.reduceLT, Int.reduceEq, Int.reduceNeg, Int.reduceAdd, Int.reduceSub, Int.reduceToNat, Nat.reducePow, *])
    | (refine VW.condT ?_ ?_; focus (simp -implicitDefEqProofs only [eng, reduceIte, reduceCtorEq, Nat.reduceAdd, Nat.reduceMul, Nat.reduceSub, Nat.reduceEqDiff, Nat.reduceLeDiff, Nat.reduceLT, Nat.reduceDiv, Nat.reduceMod, Int.reduceLE, Int.reduceLT, Int.reduceEq, Int.reduceNeg, Int.reduceAdd, Int.reduceSub, Int.reduceToNat, Nat.reducePow, *]; done))
    | (refine VW.condF ?_ ?_; focus (simp -implicitDefEqProofs only [eng, reduceIte, reduceCtorEq, Nat.reduceAdd, Nat.reduceMul, Nat.reduceSub, Nat.reduceEqDiff, Nat.reduceLeDiff, Nat.reduceLT, Nat.reduceDiv, Nat.reduceMod, Int.reduceLE, Int.reduceLT, Int.reduceEq, Int.reduceNeg, Int.reduceAdd, Int.reduceSub, Int.reduceToNat, Nat.reducePow, *]; done))
    | (apply VW.cond; focus (simp -implicitDefEqProofs only [eng, reduceIte, reduceCtorEq, Nat.reduceAdd, Nat.reduceMul, Nat.reduceSub, Nat.reduceEqDiff, Nat.reduceLeDiff, Nat.reduceLT, Nat.reduceDiv, Nat.reduceMod, Int.reduceLE, Int.reduceLT, Int.reduceEq, Int.reduceNeg, Int.reduceAdd, Int.reduceSub, Int.reduceToNat, Nat.reducePow, *]; rfl))
    | refine imp_nt ?_
    | refine imp_nf ?_
    | refine imp_dt (fun _ => ?_)
    | refine imp_df (fun _ => ?_)
    | (refine fun (_ : _ = true) => ?_)
    | (refine fun (_ : _ = false) => ?_)
    | (refine VW.ret ?_; simp -implicitDefEqProofs only [eng, reduceIte, reduceCtorEq, Nat.reduceAdd, Nat.reduceMul, Nat.reduceSub, Nat.reduceEqDiff, Nat.reduceLeDiff, Nat.reduceLT, Nat.reduceDiv, Nat.reduceMod, Int.reduceLE, Int.reduceLT, Int.reduceEq, Int.reduceNeg, Int.reduceAdd, Int.reduceSub, Int.reduceToNat, Nat.reducePow])
    | refine vg_t ?_ ?_
    | refine vg_f ?_ ?_
    | (show goA _ _ _ _ _ _ _ _ _ _; simp -implicitDefEqProofs only [eng, reduceIte, reduceCtorEq, Nat.reduceAdd, Nat.reduceMul, Nat.reduceSub, Nat.reduceEqDiff, Nat.reduceLeDiff, Nat.reduceLT, Nat.reduceDiv, Nat.reduceMod, Int.reduceLE, Int.reduceLT, Int.reduceEq, Int.reduceNeg, Int.reduceAdd, Int.reduceSub, Int.reduceToNat, Nat.reducePow, *])
    | (show goB _ _ _ _ _ _ _ _ _; simp -implicitDefEqProofs only [eng, reduceIte, reduceCtorEq, Nat.reduceAdd, Nat.reduceMul, Nat.reduceSub, Nat.reduceEqDiff, Nat.reduceLeDiff, Nat.reduceLT, Nat.reduceDiv, Nat.reduceMod, Int.reduceLE, Int.reduceLT, Int.reduceEq, Int.reduceNeg, Int.reduceAdd, Int.reduceSub, Int.reduceToNat, Nat.reducePow, *])
    | (show goAD _ _ _ _ _ _ _ _ _ _ _ _; simp -implicitDefEqProofs only [eng, reduceIte, reduceCtorEq, Nat.reduceAdd, Nat.reduceMul, Nat.reduceSub, Nat.reduceEqDiff, Nat.reduceLeDiff, Nat.reduceLT, Nat.reduceDiv, Nat.reduceMod, Int.reduceLE, Int.reduceLT, Int.reduceEq, Int.reduceNeg, Int.reduceAdd, Int.reduceSub, Int.reduceToNat, Nat.reducePow, *])
    | (show goBD _ _ _ _ _ _ _ _ _; simp -implicitDefEqProofs only [eng, reduceIte, reduceCtorEq, Nat.reduceAdd, Nat.reduceMul, Nat.reduceSub, Nat.reduceEqDiff, Nat.reduceLeDiff, Nat.reduceLT, Nat.reduceDiv, Nat.reduceMod, Int.reduceLE, Int.reduceLT, Int.reduceEq, Int.reduceNeg, Int.reduceAdd, Int.reduceSub, Int.reduceToNat, Nat.reducePow, *]))
      exact ⟨h1i', by simp -implicitDefEqProofs only [eng, reduceIte, reduceCtorEq, Nat.reduceAdd, Nat.reduceMul, Nat.reduceSub, Nat.reduceEqDiff, Nat.reduceLeDiff, Nat.reduceLT, Nat.reduceDiv, Nat.reduceMod, Int.reduceLE, Int.reduceLT, Int.reduceEq, Int.reduceNeg, Int.reduceAdd, Int.reduceSub, Int.reduceToNat, Nat.reducePow, *], by simp -implicitDefEqProofs only [eng, reduceIte, reduceCtorEq, Nat.reduceAdd, Nat.reduceMul, Nat.reduceSub, Nat.reduceEqDiff, Nat.reduceLeDiff, Nat.reduceLT, Nat.reduceDiv, Nat.reduceMod, Int.reduceLE, Int.reduceLT, Int.reduceEq, Int.reduceNeg, Int.reduceAdd, Int.reduceSub, Int.reduceToNat, Nat.reducePow, *], hall'⟩
  · have hin' : ¬ (i : Int) < s.length := by omega
    have hd : decide (Ap l) = true := decide_eq_true (hap.2 fun k a b ha hb => hall k a b (by have := (List.getElem?_eq_some_iff.1 hb).1; omega) ha hb)
    clear hap hall hi h1i
    repeat' (first
    | refine VW.seq ?_
    | refine VW.block ?_
    | (refine VW.skip ?_; simp -implicitDefEqProofs only [eng, reduceIte, reduceCtorEq, Nat.reduceAdd, Nat.reduceMul, Nat.reduceSub, Nat.reduceEqDiff, Nat.reduceLeDiff, Nat.reduceLT, Nat.reduceDiv, Nat.reduceMod, Int.reduceLE, Int.reduceLT, Int.reduceEq, Int.reduceNeg, Int.reduceAdd, Int.reduceSub, Int.reduceToNat, Nat.reducePow])
    | (refine VW.exit ?_; simp -implicitDefEqProofs only [eng, reduceIte, reduceCtorEq, Nat.reduceAdd, Nat.reduceMul, Nat.reduceSub, Nat.reduceEqDiff, Nat.reduceLeDiff, Nat.reduceLT, Nat.reduceDiv, Nat.reduceMod, Int.reduceLE, Int.reduceLT, Int.reduceEq, Int.reduceNeg, Int.reduceAdd, Int.reduceSub, Int.reduceToNat, Nat.reducePow])
    | (refine VW.reg ?_; simp -implicitDefEqProofs only [eng, reduceIte, reduceCtorEq, Nat.reduceAdd, Nat.reduceMul, Nat.reduceSub, Nat.reduceEqDiff, Nat.reduceLeDiff, Nat.reduceLT, Nat.reduceDiv, Nat.reduceMod, Int.reduceLE, Int.reduceLT, Int.reduceEq, Int.reduceNeg, Int.reduceAdd, Int.reduceSub, Int.reduceToNat, Nat.reducePow, *])
    | (refine VW.regD ?_; simp -implicitDefEqProofs only [eng, reduceIte, reduceCtorEq, Nat.reduceAdd, Nat.reduceMul, Nat.reduceSub, Nat.reduceEqDiff, Nat.reduceLeDiff, Nat.reduceLT, Nat.reduceDiv, Nat.reduceMod, Int.reduceLE, Int.reduceLT, Int.reduceEq, Int.reduceNeg, Int.reduceAdd, Int.reduceSub, Int.reduceToNat, Nat.reducePow, *])
    | (refine VW.condT ?_ ?_; focus (simp -implicitDefEqProofs only [eng, reduceIte, reduceCtorEq, Nat.reduceAdd, Nat.reduceMul, Nat.reduceSub, Nat.reduceEqDiff, Nat.reduceLeDiff, Nat.reduceLT, Nat.reduceDiv, Nat.reduceMod, Int.reduceLE, Int.reduceLT, Int.reduceEq, Int.reduceNeg, Int.reduceAdd, Int.reduceSub, Int.reduceToNat, Nat.reducePow, *]; done))
    | (refine VW.condF ?_ ?_; focus (simp -implicitDefEqProofs only [eng, reduceIte, reduceCtorEq, Nat.reduceAdd, Nat.reduceMul, Nat.reduceSub, Nat.reduceEqDiff, Nat.reduceLeDiff, Nat.reduceLT, Nat.reduceDiv, Nat.reduceMod, Int.reduceLE, Int.reduceLT, Int.reduceEq, Int.reduceNeg, Int.reduceAdd, Int.reduceSub, Int.reduceToNat, Nat.reducePow, *]; done))
    | (apply VW.cond; focus (simp -implicitDefEqProofs only [eng, reduceIte, reduceCtorEq, Nat.reduceAdd, Nat.reduceMul, Nat.reduceSub, Nat.reduceEqDiff, Nat.reduceLeDiff, Nat.reduceLT, Nat.reduceDiv, Nat.reduceMod, Int.reduceLE, Int.reduceLT, Int.reduceEq, Int.reduceNeg, Int.reduceAdd, Int.reduceSub, Int.reduceToNat, Nat.reducePow, *]; rfl))
    | refine imp_nt ?_
    | refine imp_nf ?_
    | refine imp_dt (fun _ => ?_)
    | refine imp_df (fun _ => ?_)
    | (refine fun (_ : _ = true) => ?_)
    | (refine fun (_ : _ = false) => ?_)
    | (refine VW.ret ?_; simp -implicitDefEqProofs only [eng, reduceIte, reduceCtorEq, Nat.reduceAdd, Nat.reduceMul, Nat.reduceSub, Nat.reduceEqDiff, Nat.reduceLeDiff, Nat.reduceLT, Nat.reduceDiv, Nat.reduceMod, Int.reduceLE, Int.reduceLT, Int.reduceEq, Int.reduceNeg, Int.reduceAdd, Int.reduceSub, Int.reduceToNat, Nat.reducePow])
    | refine vg_t ?_ ?_
    | refine vg_f ?_ ?_
    | (show goA _ _ _ _ _ _ _ _ _ _; simp -implicitDefEqProofs only [eng, reduceIte, reduceCtorEq, Nat.reduceAdd, Nat.reduceMul, Nat.reduceSub, Nat.reduceEqDiff, Nat.reduceLeDiff, Nat.reduceLT, Nat.reduceDiv, Nat.reduceMod, Int.reduceLE, Int.reduceLT, Int.reduceEq, Int.reduceNeg, Int.reduceAdd, Int.reduceSub, Int.reduceToNat, Nat.reducePow, *])
    | (show goB _ _ _ _ _ _ _ _ _; simp -implicitDefEqProofs only [eng, reduceIte, reduceCtorEq, Nat.reduceAdd, Nat.reduceMul, Nat.reduceSub, Nat.reduceEqDiff, Nat.reduceLeDiff, Nat.reduceLT, Nat.reduceDiv, Nat.reduceMod, Int.reduceLE, Int.reduceLT, Int.reduceEq, Int.reduceNeg, Int.reduceAdd, Int.reduceSub, Int.reduceToNat, Nat.reducePow, *])
    | (show goAD _ _ _ _ _ _ _ _ _ _ _ _; simp -implicitDefEqProofs only [eng, reduceIte, reduceCtorEq, Nat.reduceAdd, Nat.reduceMul, Nat.reduceSub, Nat.reduceEqDiff, Nat.reduceLeDiff, Nat.reduceLT, Nat.reduceDiv, Nat.reduceMod, Int.reduceLE, Int.reduceLT, Int.reduceEq, Int.reduceNeg, Int.reduceAdd, Int.reduceSub, Int.reduceToNat, Nat.reducePow, *])
    | (show goBD _ _ _ _ _ _ _ _ _; simp -implicitDefEqProofs only [eng, reduceIte, reduceCtorEq, Nat.reduceAdd, Nat.reduceMul, Nat.reduceSub, Nat.reduceEqDiff, Nat.reduceLeDiff, Nat.reduceLT, Nat.reduceDiv, Nat.reduceMod, Int.reduceLE, Int.reduceLT, Int.reduceEq, Int.reduceNeg, Int.reduceAdd, Int.reduceSub, Int.reduceToNat, Nat.reducePow, *]))
    exact .tmp1 (by simp -implicitDefEqProofs only [eng, reduceIte, reduceCtorEq, Nat.reduceAdd, Nat.reduceMul, Nat.reduceSub, Nat.reduceEqDiff, Nat.reduceLeDiff, Nat.reduceLT, Nat.reduceDiv, Nat.reduceMod, Int.reduceLE, Int.reduceLT, Int.reduceEq, Int.reduceNeg, Int.reduceAdd, Int.reduceSub, Int.reduceToNat, Nat.reducePow, *]) rfl

def J34 (l : List Sp) (i : Nat) (e : Env) (m : Mem) (nx : Nat) : Prop := e 0 = some (.sl (sps l)) ∧ e 3 = some (.int .i64 i) ∧ Ap (l.take i)
def J34b (l : List Sp) (i : Nat) (s : Sp) (k : Nat) (e : Env) (m : Mem) (nx : Nat) : Prop :=
  e 0 = some (.sl (sps l)) ∧ e 3 = some (.int .i64 i) ∧ e 4 = some (.int .i64 k) ∧ ∀ (q : Nat) t, q < k → l[q]? = some t → overR s.1 s.2 t.1 t.2 = false

theorem w34 (h21 : ∀ x y u v b, V P 21 [asp x y, asp u v] mt b (.bool (overR x y u v)) mt) (l : List Sp) (hN : l.length < 4294967296) (b : Nat) : VW P c34 (PRet (Ends [.tmp 2] b (.bool (decide (Ap l))) mt)) (fun i => [PV.sl (sps l)][i]?) mt b := by
  unfold c34
  have hll := sps_len (l := l)
  repeat' (first
    | refine VW.seq ?_
    | refine VW.block ?_
    | (refine VW.skip ?_; simp -implicitDefEqProofs only [eng, reduceIte, reduceCtorEq, Nat.reduceAdd, Nat.reduceMul, Nat.reduceSub, Nat.reduceEqDiff, Nat.reduceLeDiff, Nat.reduceLT, Nat.reduceDiv, Nat.reduceMod, Int.reduceLE, Int.reduceLT, Int.reduceEq, Int.reduceNeg, Int.reduceAdd, Int.reduceSub, Int.reduceToNat, Nat.reducePow])
    | (refine VW.exit ?_; simp -implicitDefEqProofs only [eng, reduceIte, reduceCtorEq, Nat.reduceAdd, Nat.reduceMul, Nat.reduceSub, Nat.reduceEqDiff, Nat.reduceLeDiff, Nat.reduceLT, Nat.reduceDiv, Nat.reduceMod, Int.reduceLE, Int.reduceLT, Int.reduceEq, Int.reduceNeg, Int.reduceAdd, Int.reduceSub, Int.reduceToNat, Nat.reducePow])
    | (refine VW.reg ?_; simp -implicitDefEqProofs only [eng, reduceIte, reduceCtorEq, Nat.reduceAdd, Nat.reduceMul, Nat.reduceSub, Nat.reduceEqDiff, Nat.reduceLeDiff, Nat.reduceLT, Nat.reduceDiv, Nat.reduceMod, Int.reduceLE, Int.reduceLT, Int.reduceEq, Int.reduceNeg, Int.reduceAdd, Int.reduceSub, Int.reduceToNat, Nat.reducePow, *])
    | (refine VW.regD ?_; simp -implicitDefEqProofs only [eng, reduceIte, reduceCtorEq, Nat.reduceAdd, Nat.reduceMul, Nat.reduceSub, Nat.reduceEqDiff, Nat.reduceLeDiff, Nat.reduceLT, Nat.reduceDiv, Nat.reduceMod, Int.reduceLE, Int.reduceLT, Int.reduceEq, Int.reduceNeg, Int.reduceAdd, Int.reduceSub, Int.reduceToNat, Nat.reducePow, *])
    | (refine VW.condT ?_ ?_; focus (simp -implicitDefEqProofs only [eng, reduceIte, reduceCtorEq, Nat.reduceAdd, Nat.reduceMul, Nat.reduceSub, Nat.reduceEqDiff, Nat.reduceLeDiff, Nat.reduceLT, Nat.reduceDiv, Nat.reduceMod, Int.reduceLE, Int.reduceLT, Int.reduceEq, Int.reduceNeg, Int.reduceAdd, Int.reduceSub, Int.reduceToNat, Nat.reducePow, *]; done))
    | (refine VW.condF ?_ ?_; focus (simp -implicitDefEqProofs only [eng, reduceIte, reduceCtorEq, Nat.reduceAdd, Nat.reduceMul, Nat.reduceSub, Nat.reduceEqDiff, Nat.reduceLeDiff, Nat.reduceLT, Nat.reduceDiv, Nat.reduceMod, Int.reduceLE, Int.reduceLT, Int.reduceEq, Int.reduceNeg, Int.reduceAdd, Int.reduceSub, Int.reduceToNat, Nat.reducePow, *]; done))
    | (apply VW.cond; focus (simp -implicitDefEqProofs only [eng, reduceIte, reduceCtorEq, Nat.reduceAdd, Nat.reduceMul, Nat.reduceSub, Nat.reduceEqDiff, Nat.reduceLeDiff, Nat.reduceLT, Nat.reduceDiv, Nat.reduceMod, Int.reduceLE, Int.reduceLT, Int.reduceEq, Int.reduceNeg, Int.reduceAdd, Int.reduceSub, Int.reduceToNat, Nat.reducePow, *]; rfl))
    | refine imp_nt ?_
    | refine imp_nf ?_
    | refine imp_dt (fun _ => ?_)
    | refine imp_df (fun _ => ?_)
    | (refine fun (_ : _ = true) => ?_)
    | (refine fun (_ : _ = false) => ?_)
    | (refine VW.ret ?_; simp -implicitDefEqProofs only [eng, reduceIte, reduceCtorEq, Nat.reduceAdd, Nat.reduceMul, Nat.reduceSub, Nat.reduceEqDiff, Nat.reduceLeDiff, Nat.reduceLT, Nat.reduceDiv, Nat.reduceMod, Int.reduceLE, Int.reduceLT, Int.reduceEq, Int.reduceNeg, Int.reduceAdd, Int.reduceSub, Int.reduceToNat, Nat.reducePow])
    | refine vg_t ?_ ?_
    | refine vg_f ?_ ?_
    | (show goA _ _ _ _ _ _ _ _ _ _; simp -implicitDefEqProofs only [eng, reduceIte, reduceCtorEq, Nat.reduceAdd, Nat.reduceMul, Nat.reduceSub, Nat.reduceEqDiff, Nat.reduceLeDiff, Nat.reduceLT, Nat.reduceDiv, Nat.reduceMod, Int.reduceLE, Int.reduceLT, Int.reduceEq, Int.reduceNeg, Int.reduceAdd, Int.reduceSub, Int.reduceToNat, Nat.reducePow, *])
    | (show goB _ _ _ _ _ _ _ _ _; simp -implicitDefEqProofs only [eng, reduceIte, reduceCtorEq, Nat.reduceAdd, Nat.reduceMul, Nat.reduceSub, Nat.reduceEqDiff, Nat.reduceLeDiff, Nat.reduceLT, Nat.reduceDiv, Nat.reduceMod, Int.reduceLE, Int.reduceLT, Int.reduceEq, Int.reduceNeg, Int.reduceAdd, Int.reduceSub, Int.reduceToNat, Nat.reducePow, *])
    | (show goAD _ _ _ _ _ _ _ _ _ _ _ _; simp -implicitDefEqProofs only [eng, reduceIte, reduceCtorEq, Nat.reduceAdd, Nat.reduceMul, Nat.reduceSub, Nat.reduceEqDiff, Nat.reduceLeDiff, Nat.reduceLT, Nat.reduceDiv, Nat.reduceMod, Int.reduceLE, Int.reduceLT, Int.reduceEq, Int.reduceNeg, Int.reduceAdd, Int.reduceSub, Int.reduceToNat, Nat.reducePow, *])
    | (show goBD _ _ _ _ _ _ _ _ _; simp -implicitDefEqProofs only [eng, reduceIte, reduceCtorEq, Nat.reduceAdd, Nat.reduceMul, Nat.reduceSub, Nat.reduceEqDiff, Nat.reduceLeDiff, Nat.reduceLT, Nat.reduceDiv, Nat.reduceMod, Int.reduceLE, Int.reduceLT, Int.reduceEq, Int.reduceNeg, Int.reduceAdd, Int.reduceSub, Int.reduceToNat, Nat.reducePow, *]))
  refine VW.forN l.length (J34 l) 0 (Nat.zero_le _) ⟨by simp -implicitDefEqProofs only [eng, reduceIte, reduceCtorEq, Nat.reduceAdd, Nat.reduceMul, Nat.reduceSub, Nat.reduceEqDiff, Nat.reduceLeDiff, Nat.reduceLT, Nat.reduceDiv, Nat.reduceMod, Int.reduceLE, Int.reduceLT, Int.reduceEq, Int.reduceNeg, Int.reduceAdd, Int.reduceSub, Int.reduceToNat, Nat.reducePow], by simp -implicitDefEqProofs only [eng, reduceIte, reduceCtorEq, Nat.reduceAdd, Nat.reduceMul, Nat.reduceSub, Nat.reduceEqDiff, Nat.reduceLeDiff, Nat.reduceLT, Nat.reduceDiv, Nat.reduceMod, Int.reduceLE, Int.reduceLT, Int.reduceEq, Int.reduceNeg, Int.reduceAdd, Int.reduceSub, Int.reduceToNat, Nat.reducePow] <;> rfl, by simp [Ap]⟩ ?_
  rintro i e m nx hi ⟨h0, h3, hA⟩
  by_cases hin : i < l.length
  · have hin' : (i : Int) < l.length := by omega
    obtain ⟨s, hs⟩ := get_of hin
    have hs' : (sps l)[i]? = some [.int .i64 s.1, .int .i64 s.2] := by rw [sps_get, hs]; rfl
    have h00 : (0 : Int) ≤ i := by omega
    have htn : (i : Int).toNat = i := Int.toNat_natCast i
    have hw := i64_nat (n := i) (by omega)
    repeat' (first
    | refine VW.seq ?_
    | refine VW.block ?_
    | (refine VW.skip ?_; simp -implicitDefEqProofs only [eng, reduceIte, reduceCtorEq, Nat.reduceAdd, Nat.reduceMul, Nat.reduceSub, Nat.reduceEqDiff, Nat.reduceLeDiff, Nat.reduceLT, Nat.reduceDiv, Nat.reduceMod, Int.reduceLE, Int.reduceLT, Int.reduceEq, Int.reduceNeg, Int.reduceAdd, Int.reduceSub, Int.reduceToNat, Nat.reducePow])
    | (refine VW.exit ?_; simp -implicitDefEqProofs only [eng, reduceIte, reduceCtorEq, Nat.reduceAdd, Nat.reduceMul, Nat.reduceSub, Nat.reduceEqDiff, Nat.reduceLeDiff, Nat.reduceLT, Nat.reduceDiv, Nat.reduceMod, Int.reduceLE, Int.reduceLT, Int.reduceEq, Int.reduceNeg, Int.reduceAdd, Int.reduceSub, Int.reduceToNat, Nat.reducePow])
    | (refine VW.reg ?_; simp -implicitDefEqProofs only [eng, reduceIte, reduceCtorEq, Nat.reduceAdd, Nat.reduceMul, Nat.reduceSub, Nat.reduceEqDiff, Nat.reduceLeDiff, Nat.reduceLT, Nat.reduceDiv, Nat.reduceMod, Int.reduceLE, Int.reduceLT, Int.reduceEq, Int.reduceNeg, Int.reduceAdd, Int.reduceSub, Int.reduceToNat, Nat.reducePow, *])
    | (refine VW.regD ?_; simp -implicitDefEqProofs only [eng, reduceIte, reduceCtorEq, Nat.reduceAdd, Nat.reduceMul, Nat.reduceSub, Nat.reduceEqDiff, Nat.reduceLeDiff, Nat.reduceLT, Nat.reduceDiv, Nat.reduceMod, Int.reduceLE, Int.reduceLT, Int.reduceEq, Int.reduceNeg, Int.reduceAdd, Int.reduceSub, Int.reduceToNat, Nat.reducePow, *])
    | (refine VW.condT ?_ ?_; focus (simp -implicitDefEqProofs only [eng, reduceIte, reduceCtorEq, Nat.reduceAdd, Nat.reduceMul, Nat.reduceSub, Nat.reduceEqDiff, Nat.reduceLeDiff, Nat.reduceLT, Nat.reduceDiv, Nat.reduceMod, Int.reduceLE, Int.reduceLT, Int.reduceEq, Int.reduceNeg, Int.reduceAdd, Int.reduceSub, Int.reduceToNat, Nat.reducePow, *]; done))
    | (refine VW.condF ?_ ?_; focus (simp -implicitDefEqProofs only [eng, reduceIte, reduceCtorEq, Nat.reduceAdd, Nat.reduceMul, Nat.reduceSub, Nat.reduceEqDiff, Nat.reduceLeDiff, Nat.reduceLT, Nat.reduceDiv, Nat.reduceMod, Int.reduceLE, Int.reduceLT, Int.reduceEq, Int.reduceNeg, Int.reduceAdd, Int.reduceSub, Int.reduceToNat, Nat.reducePow, *]; done))
    | (apply VW.cond; focus (simp -implicitDefEqProofs only [eng, reduceIte, reduceCtorEq, Nat.reduceAdd, Nat.reduceMul, Nat.reduceSub, Nat.reduceEqDiff, Nat.reduceLeDiff, Nat.reduceLT, Nat.reduceDiv, Nat.reduceMod, Int.reduceLE, Int.reduceLT, Int.reduceEq, Int.reduceNeg, Int.reduceAdd, Int.reduceSub, Int.reduceToNat, Nat.reducePow, *]; rfl))
    | refine imp_nt ?_
    | refine imp_nf ?_
    | refine imp_dt (fun _ => ?_)
    | refine imp_df (fun _ => ?_)
    | (refine fun (_ : _ = true) => ?_)
    | (refine fun (_ : _ = false) => ?_)
    | (refine VW.ret ?_; simp -implicitDefEqProofs only [eng, reduceIte, reduceCtorEq, Nat.reduceAdd, Nat.reduceMul, Nat.reduceSub, Nat.reduceEqDiff, Nat.reduceLeDiff, Nat.reduceLT, Nat.reduceDiv, Nat.reduceMod, Int.reduceLE, Int.reduceLT, Int.reduceEq, Int.reduceNeg, Int.reduceAdd, Int.reduceSub, Int.reduceToNat, Nat.reducePow])
    | refine vg_t ?_ ?_
    | refine vg_f ?_ ?_
    | (show goA _ _ _ _ _ _ _ _ _ _; simp -implicitDefEqProofs only [eng, reduceIte, reduceCtorEq, Nat.reduceAdd, Nat.reduceMul, Nat.reduceSub, Nat.reduceEqDiff, Nat.reduceLeDiff, Nat.reduceLT, Nat.reduceDiv, Nat.reduceMod, Int.reduceLE, Int.reduceLT, Int.reduceEq, Int.reduceNeg, Int.reduceAdd, Int.reduceSub, Int.reduceToNat, Nat.reducePow, *])
    | (show goB _ _ _ _ _ _ _ _ _; simp -implicitDefEqProofs only [eng, reduceIte, reduceCtorEq, Nat.reduceAdd, Nat.reduceMul, Nat.reduceSub, Nat.reduceEqDiff, Nat.reduceLeDiff, Nat.reduceLT, Nat.reduceDiv, Nat.reduceMod, Int.reduceLE, Int.reduceLT, Int.reduceEq, Int.reduceNeg, Int.reduceAdd, Int.reduceSub, Int.reduceToNat, Nat.reducePow, *])
    | (show goAD _ _ _ _ _ _ _ _ _ _ _ _; simp -implicitDefEqProofs only [eng, reduceIte, reduceCtorEq, Nat.reduceAdd, Nat.reduceMul, Nat.reduceSub, Nat.reduceEqDiff, Nat.reduceLeDiff, Nat.reduceLT, Nat.reduceDiv, Nat.reduceMod, Int.reduceLE, Int.reduceLT, Int.reduceEq, Int.reduceNeg, Int.reduceAdd, Int.reduceSub, Int.reduceToNat, Nat.reducePow, *])
    | (show goBD _ _ _ _ _ _ _ _ _; simp -implicitDefEqProofs only [eng, reduceIte, reduceCtorEq, Nat.reduceAdd, Nat.reduceMul, Nat.reduceSub, Nat.reduceEqDiff, Nat.reduceLeDiff, Nat.reduceLT, Nat.reduceDiv, Nat.reduceMod, Int.reduceLE, Int.reduceLT, Int.reduceEq, Int.reduceNeg, Int.reduceAdd, Int.reduceSub, Int.reduceToNat, Nat.reducePow, *]))
    refine VW.forN i (J34b l i s) 0 (Nat.zero_le _) ⟨by simp -implicitDefEqProofs only [eng, reduceIte, reduceCtorEq, Nat.reduceAdd, Nat.reduceMul, Nat.reduceSub, Nat.reduceEqDiff, Nat.reduceLeDiff, Nat.reduceLT, Nat.reduceDiv, Nat.reduceMod, Int.reduceLE, Int.reduceLT, Int.reduceEq, Int.reduceNeg, Int.reduceAdd, Int.reduceSub, Int.reduceToNat, Nat.reducePow, *], by simp -implicitDefEqProofs only [eng, reduceIte, reduceCtorEq, Nat.reduceAdd, Nat.reduceMul, Nat.reduceSub, Nat.reduceEqDiff, Nat.reduceLeDiff, Nat.reduceLT, Nat.reduceDiv, Nat.reduceMod, Int.reduceLE, Int.reduceLT, Int.reduceEq, Int.reduceNeg, Int.reduceAdd, Int.reduceSub, Int.reduceToNat, Nat.reducePow, *], by simp -implicitDefEqProofs only [eng, reduceIte, reduceCtorEq, Nat.reduceAdd, Nat.reduceMul, Nat.reduceSub, Nat.reduceEqDiff, Nat.reduceLeDiff, Nat.reduceLT, Nat.reduceDiv, Nat.reduceMod, Int.reduceLE, Int.reduceLT, Int.reduceEq, Int.reduceNeg, Int.reduceAdd, Int.reduceSub, Int.reduceToNat, Nat.reducePow] <;> rfl, fun q t hq => by omega⟩ ?_
    clear h0 h3
    rintro k e m nx hk ⟨h0, h3, h4, hall⟩
    have k00 : (0 : Int) ≤ k := by omega
    have ktn : (k : Int).toNat = k := Int.toNat_natCast k
    have kw := i64_nat (n := k) (by omega)
    by_cases hki : k < i
    · have hki' : (k : Int) < i := by omega
      obtain ⟨t, ht⟩ := get_of (l := l) (i := k) (by omega)
      have ht' : (sps l)[k]? = some [.int .i64 t.1, .int .i64 t.2] := by rw [sps_get, ht]; rfl
      cases ho : overR s.1 s.2 t.1 t.2
      · have hall' : ∀ (q : Nat) u, q < k + 1 → l[q]? = some u → overR s.1 s.2 u.1 u.2 = false := fun q u hq hu => by
          by_cases hqk : q = k
          · rw [hqk, ht] at hu; injection hu with hu; subst hu; exact ho
          · exact hall q u (by omega) hu
        clear hall hA
        repeat' (first
    | refine VW.seq ?_
    | refine VW.block ?_
    | (refine VW.skip ?_; simp -implicitDefEqProofs only [eng, reduceIte, reduceCtorEq, Nat.reduceAdd, Nat.reduceMul, Nat.reduceSub, Nat.reduceEqDiff, Nat.reduceLeDiff, Nat.reduceLT, Nat.reduceDiv, Nat.reduceMod, Int.reduceLE, Int.reduceLT, Int.reduceEq, Int.reduceNeg, Int.reduceAdd, Int.reduceSub, Int.reduceToNat, Nat.reducePow])
    | (refine VW.exit ?_; simp -implicitDefEqProofs only [eng, reduceIte, reduceCtorEq, Nat.reduceAdd, Nat.reduceMul, Nat.reduceSub, Nat.reduceEqDiff, Nat.reduceLeDiff, Nat.reduceLT, Nat.reduceDiv, Nat.reduceMod, Int.reduceLE, Int.reduceLT, Int.reduceEq, Int.reduceNeg, Int.reduceAdd, Int.reduceSub, Int.reduceToNat, Nat.reducePow])
    | (refine VW.reg ?_; simp -implicitDefEqProofs only [eng, reduceIte, reduceCtorEq, Nat.reduceAdd, Nat.reduceMul, Nat.reduceSub, Nat.reduceEqDiff, Nat.reduceLeDiff, Nat.reduceLT, Nat.reduceDiv, Nat.reduceMod, Int.reduceLE, Int.reduceLT, Int.reduceEq, Int.reduceNeg, Int.reduceAdd, Int.reduceSub, Int.reduceToNat, Nat.reducePow, *])
    | (refine VW.regD ?_; simp -implicitDefEqProofs only [eng, reduceIte, reduceCtorEq, Nat.reduceAdd, Nat.reduceMul, Nat.reduceSub, Nat.reduceEqDiff, Nat.reduceLeDiff, Nat.reduceLT, Nat.reduceDiv, Nat.reduceMod, Int.reduceLE, Int.reduceLT, Int.reduceEq, Int.reduceNeg, Int.reduceAdd, Int.reduceSub, Int.reduceToNat, Nat.reducePow, *])
    | (refine VW.condT ?_ ?_; focus (simp -implicitDefEqProofs only [eng, reduceIte, reduceCtorEq, Nat.reduceAdd, Nat.reduceMul, Nat.reduceSub, Nat.reduceEqDiff, Nat.reduceLeDiff, Nat.reduceLT, Nat.reduceDiv, Nat.reduceMod, Int.reduceLE, Int.reduceLT, Int.reduceEq, Int.reduceNeg, Int.reduceAdd, Int.reduceSub, Int.reduceToNat, Nat.reducePow, *]; done))
    | (refine VW.condF ?_ ?_; focus (simp -implicitDefEqProofs only [eng, reduceIte, reduceCtorEq, Nat.reduceAdd, Nat.reduceMul, Nat.reduceSub, Nat.reduceEqDiff, Nat.reduceLeDiff, Nat.reduceLT, Nat.reduceDiv, Nat.reduceMod, Int.reduceLE, Int.reduceLT, Int.reduceEq, Int.reduceNeg, Int.reduceAdd, Int.reduceSub, Int.reduceToNat, Nat.reducePow, *]; done))
    | (apply VW.cond; focus (simp -implicitDefEqProofs only [eng, reduceIte, reduceCtorEq, Nat.reduceAdd, Nat.reduceMul, Nat.reduceSub, Nat.reduceEqDiff, Nat.reduceLeDiff, Nat.reduceLT, Nat.reduceDiv, Nat.reduceMod, Int.reduceLE, Int.reduceLT, Int.reduceEq, Int.reduceNeg, Int.reduceAdd, Int.reduceSub, Int.reduceToNat, Nat.reducePow, *]; rfl))
    | refine imp_nt ?_
    | refine imp_nf ?_
    | refine imp_dt (fun _ => ?_)
    | refine imp_df (fun _ => ?_)
    | (refine fun (_ : _ = true) => ?_)
    | (refine fun (_ : _ = false) => ?_)
    | (refine VW.ret ?_; simp -implicitDefEqProofs only [eng, reduceIte, reduceCtorEq, Nat.reduceAdd, Nat.reduceMul, Nat.reduceSub, Nat.reduceEqDiff, Nat.reduceLeDiff, Nat.reduceLT, Nat.reduceDiv, Nat.reduceMod, Int.reduceLE, Int.reduceLT, Int.reduceEq, Int.reduceNeg, Int.reduceAdd, Int.reduceSub, Int.reduceToNat, Nat.reducePow])
    | refine vg_t ?_ ?_
    | refine vg_f ?_ ?_
    | (show goA _ _ _ _ _ _ _ _ _ _; simp -implicitDefEqProofs only [eng, reduceIte, reduceCtorEq, Nat.reduceAdd, Nat.reduceMul, Nat.reduceSub, Nat.reduceEqDiff, Nat.reduceLeDiff, Nat.reduceLT, Nat.reduceDiv, Nat.reduceMod, Int.reduceLE, Int.reduceLT, Int.reduceEq, Int.reduceNeg, Int.reduceAdd, Int.reduceSub, Int.reduceToNat, Nat.reducePow, *])
    | (show goB _ _ _ _ _ _ _ _ _; simp -implicitDefEqProofs only [eng, reduceIte, reduceCtorEq, Nat.reduceAdd, Nat.reduceMul, Nat.reduceSub, Nat.reduceEqDiff, Nat.reduceLeDiff, Nat.reduceLT, Nat.reduceDiv, Nat.reduceMod, Int.reduceLE, Int.reduceLT, Int.reduceEq, Int.reduceNeg, Int.reduceAdd, Int.reduceSub, Int.reduceToNat, Nat.reducePow, *])
    | (show goAD _ _ _ _ _ _ _ _ _ _ _ _; simp -implicitDefEqProofs only [eng, reduceIte, reduceCtorEq, Nat.reduceAdd, Nat.reduceMul, Nat.reduceSub, Nat.reduceEqDiff, Nat.reduceLeDiff, Nat.reduceLT, Nat.reduceDiv, Nat.reduceMod, Int.reduceLE, Int.reduceLT, Int.reduceEq, Int.reduceNeg, Int.reduceAdd, Int.reduceSub, Int.reduceToNat, Nat.reducePow, *])
    | (show goBD _ _ _ _ _ _ _ _ _; simp -implicitDefEqProofs only [eng, reduceIte, reduceCtorEq, Nat.reduceAdd, Nat.reduceMul, Nat.reduceSub, Nat.reduceEqDiff, Nat.reduceLeDiff, Nat.reduceLT, Nat.reduceDiv, Nat.reduceMod, Int.reduceLE, Int.reduceLT, Int.reduceEq, Int.reduceNeg, Int.reduceAdd, Int.reduceSub, Int.reduceToNat, Nat.reducePow, *])
    | (refine VC.p2 (h21 _ _ _ _ _) rfl rfl rfl rfl ?_; simp -implicitDefEqProofs only [eng, reduceIte, reduceCtorEq, Nat.reduceAdd, Nat.reduceMul, Nat.reduceSub, Nat.reduceEqDiff, Nat.reduceLeDiff, Nat.reduceLT, Nat.reduceDiv, Nat.reduceMod, Int.reduceLE, Int.reduceLT, Int.reduceEq, Int.reduceNeg, Int.reduceAdd, Int.reduceSub, Int.reduceToNat, Nat.reducePow, *]))
        exact ⟨by simp -implicitDefEqProofs only [eng, reduceIte, reduceCtorEq, Nat.reduceAdd, Nat.reduceMul, Nat.reduceSub, Nat.reduceEqDiff, Nat.reduceLeDiff, Nat.reduceLT, Nat.reduceDiv, Nat.reduceMod, Int.reduceLE, Int.reduceLT, Int.reduceEq, Int.reduceNeg, Int.reduceAdd, Int.reduceSub, Int.reduceToNat, Nat.reducePow, *], by simp -implicitDefEqProofs only [eng, reduceIte, reduceCtorEq, Nat.reduceAdd, Nat.reduceMul, Nat.reduceSub, Nat.reduceEqDiff, Nat.reduceLeDiff, Nat.reduceLT, Nat.reduceDiv, Nat.reduceMod, Int.reduceLE, Int.reduceLT, Int.reduceEq, Int.reduceNeg, Int.reduceAdd, Int.reduceSub, Int.reduceToNat, Nat.reducePow, *], by simp -implicitDefEqProofs only [eng, reduceIte, reduceCtorEq, Nat.reduceAdd, Nat.reduceMul, Nat.reduceSub, Nat.reduceEqDiff, Nat.reduceLeDiff, Nat.reduceLT, Nat.reduceDiv, Nat.reduceMod, Int.reduceLE, Int.reduceLT, Int.reduceEq, Int.reduceNeg, Int.reduceAdd, Int.reduceSub, Int.reduceToNat, Nat.reducePow, *], hall'⟩
      · have hd : decide (Ap l) = false := decide_eq_false fun h => by
          have := List.pairwise_iff_getElem.1 h k i (by omega) hin hki
          rw [(List.getElem?_eq_some_iff.1 ht).2, (List.getElem?_eq_some_iff.1 hs).2, ho] at this
          cases this
        clear hall hA
        repeat' (first
    | refine VW.seq ?_
    | refine VW.block ?_
    | (refine VW.skip ?_; simp -implicitDefEqProofs only [eng, reduceIte, reduceCtorEq, Nat.reduceAdd, Nat.reduceMul, Nat.reduceSub, Nat.reduceEqDiff, Nat.reduceLeDiff, Nat.reduceLT, Nat.reduceDiv, Nat.reduceMod, Int.reduceLE, Int.reduceLT, Int.reduceEq, Int.reduceNeg, Int.reduceAdd, Int.reduceSub, Int.reduceToNat, Nat.reducePow])
    | (refine VW.exit ?_; simp -implicitDefEqProofs only [eng, reduceIte, reduceCtorEq, Nat.reduceAdd, Nat.reduceMul, Nat.reduceSub, Nat.reduceEqDiff, Nat.reduceLeDiff, Nat.reduceLT, Nat.reduceDiv, Nat.reduceMod, Int.reduceLE, Int.reduceLT, Int.reduceEq, Int.reduceNeg, Int.reduceAdd, Int.reduceSub, Int.reduceToNat, Nat.reducePow])
    | (refine VW.reg ?_; simp -implicitDefEqProofs only [eng, reduceIte, reduceCtorEq, Nat.reduceAdd, Nat.reduceMul, Nat.reduceSub, Nat.reduceEqDiff, Nat.reduceLeDiff, Nat.reduceLT, Nat.reduceDiv, Nat.reduceMod, Int.reduceLE, Int.reduceLT, Int.reduceEq, Int.reduceNeg, Int.reduceAdd, Int.reduceSub, Int.reduceToNat, Nat.reducePow, *])
    | (refine VW.regD ?_; simp -implicitDefEqProofs only [eng, reduceIte, reduceCtorEq, Nat.reduceAdd, Nat.reduceMul, Nat.reduceSub, Nat.reduceEqDiff, Nat.reduceLeDiff, Nat.reduceLT, Nat.reduceDiv, Nat.reduceMod, Int.reduceLE, Int.reduceLT, Int.reduceEq, Int.reduceNeg, Int.reduceAdd, Int.reduceSub, Int.reduceToNat, Nat.reducePow, *])
    | (refine VW.condT ?_ ?_; focus (simp -implicitDefEqProofs only [eng, reduceIte, reduceCtorEq, Nat.reduceAdd, Nat.reduceMul, Nat.reduceSub, Nat.reduceEqDiff, Nat.reduceLeDiff, Nat.reduceLT, Nat.reduceDiv, Nat.reduceMod, Int.reduceLE, Int.reduceLT, Int.reduceEq, Int.reduceNeg, Int.reduceAdd, Int.reduceSub, Int.reduceToNat, Nat.reducePow, *]; done))
    | (refine VW.condF ?_ ?_; focus (simp -implicitDefEqProofs only [eng, reduceIte, reduceCtorEq, Nat.reduceAdd, Nat.reduceMul, Nat.reduceSub, Nat.reduceEqDiff, Nat.reduceLeDiff, Nat.reduceLT, Nat.reduceDiv, Nat.reduceMod, Int.reduceLE, Int.reduceLT, Int.reduceEq, Int.reduceNeg, Int.reduceAdd, Int.reduceSub, Int.reduceToNat, Nat.reducePow, *]; done))
    | (apply VW.cond; focus (simp -implicitDefEqProofs only [eng, reduceIte, reduceCtorEq, Nat.reduceAdd, Nat.reduceMul, Nat.reduceSub, Nat.reduceEqDiff, Nat.reduceLeDiff, Nat.reduceLT, Nat.reduceDiv, Nat.reduceMod, Int.reduceLE, Int.reduceLT, Int.reduceEq, Int.reduceNeg, Int.reduceAdd, Int.reduceSub, Int.reduceToNat, Nat.reducePow, *]; rfl))
    | refine imp_nt ?_
    | refine imp_nf ?_
    | refine imp_dt (fun _ => ?_)
    | refine imp_df (fun _ => ?_)
    | (refine fun (_ : _ = true) => ?_)
    | (refine fun (_ : _ = false) => ?_)
    | (refine VW.ret ?_; simp -implicitDefEqProofs only [eng, reduceIte, reduceCtorEq, Nat.reduceAdd, Nat.reduceMul, Nat.reduceSub, Nat.reduceEqDiff, Nat.reduceLeDiff, Nat.reduceLT, Nat.reduceDiv, Nat.reduceMod, Int.reduceLE, Int.reduceLT, Int.reduceEq, Int.reduceNeg, Int.reduceAdd, Int.reduceSub, Int.reduceToNat, Nat.reducePow])
    | refine vg_t ?_ ?_
    | refine vg_f ?_ ?_
    | (show goA _ _ _ _ _ _ _ _ _ _; simp -implicitDefEqProofs only [eng, reduceIte, reduceCtorEq, Nat.reduceAdd, Nat.reduceMul, Nat.reduceSub, Nat.reduceEqDiff, Nat.reduceLeDiff, Nat.reduceLT, Nat.reduceDiv, Nat.reduceMod, Int.reduceLE, Int.reduceLT, Int.reduceEq, Int.reduceNeg, Int.reduceAdd, Int.reduceSub, Int.reduceToNat, Nat.reducePow, *])
    | (show goB _ _ _ _ _ _ _ _ _; simp -implicitDefEqProofs only [eng, reduceIte, reduceCtorEq, Nat.reduceAdd, Nat.reduceMul, Nat.reduceSub, Nat.reduceEqDiff, Nat.reduceLeDiff, Nat.reduceLT, Nat.reduceDiv, Nat.reduceMod, Int.reduceLE, Int.reduceLT, Int.reduceEq, Int.reduceNeg, Int.reduceAdd, Int.reduceSub, Int.reduceToNat, Nat.reducePow, *])
    | (show goAD _ _ _ _ _ _ _ _ _ _ _ _; simp -implicitDefEqProofs only [eng, reduceIte, reduceCtorEq, Nat.reduceAdd, Nat.reduceMul, Nat.reduceSub, Nat.reduceEqDiff, Nat.reduceLeDiff, Nat.reduceLT, Nat.reduceDiv, Nat.reduceMod, Int.reduceLE, Int.reduceLT, Int.reduceEq, Int.reduceNeg, Int.reduceAdd, Int.reduceSub, Int.reduceToNat, Nat.reducePow, *])
    | (show goBD _ _ _ _ _ _ _ _ _; simp -implicitDefEqProofs only [eng, reduceIte, reduceCtorEq, Nat.reduceAdd, Nat.reduceMul, Nat.reduceSub, Nat.reduceEqDiff, Nat.reduceLeDiff, Nat.reduceLT, Nat.reduceDiv, Nat.reduceMod, Int.reduceLE, Int.reduceLT, Int.reduceEq, Int.reduceNeg, Int.reduceAdd, Int.reduceSub, Int.reduceToNat, Nat.reducePow, *])
    | (refine VC.p2 (h21 _ _ _ _ _) rfl rfl rfl rfl ?_; simp -implicitDefEqProofs only [eng, reduceIte, reduceCtorEq, Nat.reduceAdd, Nat.reduceMul, Nat.reduceSub, Nat.reduceEqDiff, Nat.reduceLeDiff, Nat.reduceLT, Nat.reduceDiv, Nat.reduceMod, Int.reduceLE, Int.reduceLT, Int.reduceEq, Int.reduceNeg, Int.reduceAdd, Int.reduceSub, Int.reduceToNat, Nat.reducePow, *]))
        exact .tmp1 (by simp -implicitDefEqProofs only [eng, reduceIte, reduceCtorEq, Nat.reduceAdd, Nat.reduceMul, Nat.reduceSub, Nat.reduceEqDiff, Nat.reduceLeDiff, Nat.reduceLT, Nat.reduceDiv, Nat.reduceMod, Int.reduceLE, Int.reduceLT, Int.reduceEq, Int.reduceNeg, Int.reduceAdd, Int.reduceSub, Int.reduceToNat, Nat.reducePow, *]) rfl
    · have hki' : ¬ (k : Int) < i := by omega
      have hA' : Ap (l.take (i + 1)) := by
        unfold Ap
        rw [List.take_add_one, hs, List.pairwise_append]
        refine ⟨hA, by simp, fun a ha c hc => ?_⟩
        simp at hc; subst hc
        obtain ⟨q, hq⟩ := List.getElem?_of_mem ha
        rw [List.getElem?_take] at hq
        split at hq
        · rename_i hqi; exact hall q a (by omega) hq
        · cases hq
      clear hall hA
      repeat' (first
    | refine VW.seq ?_
    | refine VW.block ?_
    | (refine VW.skip ?_; simp -implicitDefEqProofs only [eng, reduceIte, reduceCtorEq, Nat.reduceAdd, Nat.reduceMul, Nat.reduceSub, Nat.reduceEqDiff, Nat.reduceLeDiff, Nat.reduceLT, Nat.reduceDiv, Nat.reduceMod, Int.reduceLE, Int.reduceLT, Int.reduceEq, Int.reduceNeg, Int.reduceAdd, Int.reduceSub, Int.reduceToNat, Nat.reducePow])
    | (refine VW.exit ?_; simp -implicitDefEqProofs only [eng, reduceIte, reduceCtorEq, Nat.reduceAdd, Nat.reduceMul, Nat.reduceSub, Nat.reduceEqDiff, Nat.reduceLeDiff, Nat.reduceLT, Nat.reduceDiv, Nat.reduceMod, Int.reduceLE, Int.reduceLT, Int.reduceEq, Int.reduceNeg, Int.reduceAdd, Int.reduceSub, Int.reduceToNat, Nat.reducePow])
    | (refine VW.reg ?_; simp -implicitDefEqProofs only [eng, reduceIte, reduceCtorEq, Nat.reduceAdd, Nat.reduceMul, Nat.reduceSub, Nat.reduceEqDiff, Nat.reduceLeDiff, Nat.reduceLT, Nat.reduceDiv, Nat.reduceMod, Int.reduceLE, Int.reduceLT, Int.reduceEq, Int.reduceNeg, Int.reduceAdd, Int.reduceSub, Int.reduceToNat, Nat.reducePow, *])
    | (refine VW.regD ?_; simp -implicitDefEqProofs only [eng, reduceIte, reduceCtorEq, Nat.reduceAdd, Nat.reduceMul, Nat.reduceSub, Nat.reduceEqDiff, Nat.reduceLeDiff, Nat.reduceLT, Nat.reduceDiv, Nat.reduceMod, Int.reduceLE, Int.reduceLT, Int.reduceEq, Int.reduceNeg, Int.reduceAdd, Int.reduceSub, Int.reduceToNat, Nat.reducePow, *])
    | (refine VW.condT ?_ ?_; focus (simp -implicitDefEqProofs only [eng, reduceIte, reduceCtorEq, Nat.reduceAdd, Nat.reduceMul, Nat.reduceSub, Nat.reduceEqDiff, Nat.reduceLeDiff, Nat.reduceLT, Nat.reduceDiv, Nat.reduceMod, Int.reduceLE, Int.reduceLT, Int.reduceEq, Int.reduceNeg, Int.reduceAdd, Int.reduceSub, Int.reduceToNat, Nat.reducePow, *]; done))
    | (refine VW.condF ?_ ?_; focus (simp -implicitDefEqProofs only [eng, reduceIte, reduceCtorEq, Nat.reduceAdd, Nat.reduceMul, Nat.reduceSub, Nat.reduceEqDiff, Nat.reduceLeDiff, Nat.reduceLT, Nat.reduceDiv, Nat.reduceMod, Int.reduceLE, Int.reduceLT, Int.reduceEq, Int.reduceNeg, Int.reduceAdd, Int.reduceSub, Int.reduceToNat, Nat.reducePow, *]; done))
    | (apply VW.cond; focus (simp -implicitDefEqProofs only [eng, reduceIte, reduceCtorEq, Nat.reduceAdd, Nat.reduceMul, Nat.reduceSub, Nat.reduceEqDiff, Nat.reduceLeDiff, Nat.reduceLT, Nat.reduceDiv, Nat.reduceMod, Int.reduceLE, Int.reduceLT, Int.reduceEq, Int.reduceNeg, Int.reduceAdd, Int.reduceSub, Int.reduceToNat, Nat.reducePow, *]; rfl))
    | refine imp_nt ?_
    | refine imp_nf ?_
    | refine imp_dt (fun _ => ?_)
    | refine imp_df (fun _ => ?_)
    | (refine fun (_ : _ = true) => ?_)
    | (refine fun (_ : _ = false) => ?_)
    | (refine VW.ret ?_; simp -implicitDefEqProofs only [eng, reduceIte, reduceCtorEq, Nat.reduceAdd, Nat.reduceMul, Nat.reduceSub, Nat.reduceEqDiff, Nat.reduceLeDiff, Nat.reduceLT, Nat.reduceDiv, Nat.reduceMod, Int.reduceLE, Int.reduceLT, Int.reduceEq, Int.reduceNeg, Int.reduceAdd, Int.reduceSub, Int.reduceToNat, Nat.reducePow])
    | refine vg_t ?_ ?_
    | refine vg_f ?_ ?_
    | (show goA _ _ _ _ _ _ _ _ _ _; simp -implicitDefEqProofs only [eng, reduceIte, reduceCtorEq, Nat.reduceAdd, Nat.reduceMul, Nat.reduceSub, Nat.reduceEqDiff, Nat.reduceLeDiff, Nat.reduceLT, Nat.reduceDiv, Nat.reduceMod, Int.reduceLE, Int.reduceLT, Int.reduceEq, Int.reduceNeg, Int.reduceAdd, Int.reduceSub, Int.reduceToNat, Nat.reducePow, *])
    | (show goB _ _ _ _ _ _ _ _ _; simp -implicitDefEqProofs only [eng, reduceIte, reduceCtorEq, Nat.reduceAdd, Nat.reduceMul, Nat.reduceSub, Nat.reduceEqDiff, Nat.reduceLeDiff, Nat.reduceLT, Nat.reduceDiv, Nat.reduceMod, Int.reduceLE, Int.reduceLT, Int.reduceEq, Int.reduceNeg, Int.reduceAdd, Int.reduceSub, Int.reduceToNat, Nat.reducePow, *])
    | (show goAD _ _ _ _ _ _ _ _ _ _ _ _; simp -implicitDefEqProofs only [eng, reduceIte, reduceCtorEq, Nat.reduceAdd, Nat.reduceMul, Nat.reduceSub, Nat.reduceEqDiff, Nat.reduceLeDiff, Nat.reduceLT, Nat.reduceDiv, Nat.reduceMod, Int.reduceLE, Int.reduceLT, Int.reduceEq, Int.reduceNeg, Int.reduceAdd, Int.reduceSub, Int.reduceToNat, Nat.reducePow, *])
    | (show goBD _ _ _ _ _ _ _ _ _; simp -implicitDefEqProofs only [eng, reduceIte, reduceCtorEq, Nat.reduceAdd, Nat.reduceMul, Nat.reduceSub, Nat.reduceEqDiff, Nat.reduceLeDiff, Nat.reduceLT, Nat.reduceDiv, Nat.reduceMod, Int.reduceLE, Int.reduceLT, Int.reduceEq, Int.reduceNeg, Int.reduceAdd, Int.reduceSub, Int.reduceToNat, Nat.reducePow, *]))
      exact ⟨by simp -implicitDefEqProofs only [eng, reduceIte, reduceCtorEq, Nat.reduceAdd, Nat.reduceMul, Nat.reduceSub, Nat.reduceEqDiff, Nat.reduceLeDiff, Nat.reduceLT, Nat.reduceDiv, Nat.reduceMod, Int.reduceLE, Int.reduceLT, Int.reduceEq, Int.reduceNeg, Int.reduceAdd, Int.reduceSub, Int.reduceToNat, Nat.reducePow, *], by simp -implicitDefEqProofs only [eng, reduceIte, reduceCtorEq, Nat.reduceAdd, Nat.reduceMul, Nat.reduceSub, Nat.reduceEqDiff, Nat.reduceLeDiff, Nat.reduceLT, Nat.reduceDiv, Nat.reduceMod, Int.reduceLE, Int.reduceLT, Int.reduceEq, Int.reduceNeg, Int.reduceAdd, Int.reduceSub, Int.reduceToNat, Nat.reducePow, *], hA'⟩
  · have hin' : ¬ (i : Int) < l.length := by omega
    have hd : decide (Ap l) = true := decide_eq_true (by rwa [List.take_of_length_le (by omega)] at hA)
    clear hA
    repeat' (first
    | refine VW.seq ?_
    | refine VW.block ?_
    | (refine VW.skip ?_; simp -implicitDefEqProofs only [eng, reduceIte, reduceCtorEq, Nat.reduceAdd, Nat.reduceMul, Nat.reduceSub, Nat.reduceEqDiff, Nat.reduceLeDiff, Nat.reduceLT, Nat.reduceDiv, Nat.reduceMod, Int.reduceLE, Int.reduceLT, Int.reduceEq, Int.reduceNeg, Int.reduceAdd, Int.reduceSub, Int.reduceToNat, Nat.reducePow])
    | (refine VW.exit ?_; simp -implicitDefEqProofs only [eng, reduceIte, reduceCtorEq, Nat.reduceAdd, Nat.reduceMul, Nat.reduceSub, Nat.reduceEqDiff, Nat.reduceLeDiff, Nat.reduceLT, Nat.reduceDiv, Nat.reduceMod, Int.reduceLE, Int.reduceLT, Int.reduceEq, Int.reduceNeg, Int.reduceAdd, Int.reduceSub, Int.reduceToNat, Nat.reducePow])
    | (refine VW.reg ?_; simp -implicitDefEqProofs only [eng, reduceIte, reduceCtorEq, Nat.reduceAdd, Nat.reduceMul, Nat.reduceSub, Nat.reduceEqDiff, Nat.reduceLeDiff, Nat.reduceLT, Nat.reduceDiv, Nat.reduceMod, Int.reduceLE, Int.reduceLT, Int.reduceEq, Int.reduceNeg, Int.reduceAdd, Int.reduceSub, Int.reduceToNat, Nat.reducePow, *])
    | (refine VW.regD ?_; simp -implicitDefEqProofs only [eng, reduceIte, reduceCtorEq, Nat.reduceAdd, Nat.reduceMul, Nat.reduceSub, Nat.reduceEqDiff, Nat.reduceLeDiff, Nat.reduceLT, Nat.reduceDiv, Nat.reduceMod, Int.reduceLE, Int.reduceLT, Int.reduceEq, Int.reduceNeg, Int.reduceAdd, Int.reduceSub, Int.reduceToNat, Nat.reducePow, *])
    | (refine VW.condT ?_ ?_; focus (simp -implicitDefEqProofs only [eng, reduceIte, reduceCtorEq, Nat.reduceAdd, Nat.reduceMul, Nat.reduceSub, Nat.reduceEqDiff, Nat.reduceLeDiff, Nat.reduceLT, Nat.reduceDiv, Nat.reduceMod, Int.reduceLE, Int.reduceLT, Int.reduceEq, Int.reduceNeg, Int.reduceAdd, Int.reduceSub, Int.reduceToNat, Nat.reducePow, *]; done))
    | (refine VW.condF ?_ ?_; focus (simp -implicitDefEqProofs only [eng, reduceIte, reduceCtorEq, Nat.reduceAdd, Nat.reduceMul, Nat.reduceSub, Nat.reduceEqDiff, Nat.reduceLeDiff, Nat.reduceLT, Nat.reduceDiv, Nat.reduceMod, Int.reduceLE, Int.reduceLT, Int.reduceEq, Int.reduceNeg, Int.reduceAdd, Int.reduceSub, Int.reduceToNat, Nat.reducePow, *]; done))
    | (apply VW.cond; focus (simp -implicitDefEqProofs only [eng, reduceIte, reduceCtorEq, Nat.reduceAdd, Nat.reduceMul, Nat.reduceSub, Nat.reduceEqDiff, Nat.reduceLeDiff, Nat.reduceLT, Nat.reduceDiv, Nat.reduceMod, Int.reduceLE, Int.reduceLT, Int.reduceEq, Int.reduceNeg, Int.reduceAdd, Int.reduceSub, Int.reduceToNat, Nat.reducePow, *]; rfl))
    | refine imp_nt ?_
    | refine imp_nf ?_
    | refine imp_dt (fun _ => ?_)
    | refine imp_df (fun _ => ?_)
    | (refine fun (_ : _ = true) => ?_)
    | (refine fun (_ : _ = false) => ?_)
    | (refine VW.ret ?_; simp -implicitDefEqProofs only [eng, reduceIte, reduceCtorEq, Nat.reduceAdd, Nat.reduceMul, Nat.reduceSub, Nat.reduceEqDiff, Nat.reduceLeDiff, Nat.reduceLT, Nat.reduceDiv, Nat.reduceMod, Int.reduceLE, Int.reduceLT, Int.reduceEq, Int.reduceNeg, Int.reduceAdd, Int.reduceSub, Int.reduceToNat, Nat.reducePow])
    | refine vg_t ?_ ?_
    | refine vg_f ?_ ?_
    | (show goA _ _ _ _ _ _ _ _ _ _; simp -implicitDefEqProofs only [eng, reduceIte, reduceCtorEq, Nat.reduceAdd, Nat.reduceMul, Nat.reduceSub, Nat.reduceEqDiff, Nat.reduceLeDiff, Nat.reduceLT, Nat.reduceDiv, Nat.reduceMod, Int.reduceLE, Int.reduceLT, Int.reduceEq, Int.reduceNeg, Int.reduceAdd, Int.reduceSub, Int.reduceToNat, Nat.reducePow, *])
    | (show goB _ _ _ _ _ _ _ _ _; simp -implicitDefEqProofs only [eng, reduceIte, reduceCtorEq, Nat.reduceAdd, Nat.reduceMul, Nat.reduceSub, Nat.reduceEqDiff, Nat.reduceLeDiff, Nat.reduceLT, Nat.reduceDiv, Nat.reduceMod, Int.reduceLE, Int.reduceLT, Int.reduceEq, Int.reduceNeg, Int.reduceAdd, Int.reduceSub, Int.reduceToNat, Nat.reducePow, *])
    | (show goAD _ _ _ _ _ _ _ _ _ _ _ _; simp -implicitDefEqProofs only [eng, reduceIte, reduceCtorEq, Nat.reduceAdd, Nat.reduceMul, Nat.reduceSub, Nat.reduceEqDiff, Nat.reduceLeDiff, Nat.reduceLT, Nat.reduceDiv, Nat.reduceMod, Int.reduceLE, Int.reduceLT, Int.reduceEq, Int.reduceNeg, Int.reduceAdd, Int.reduceSub, Int.reduceToNat, Nat.reducePow, *])
    | (show goBD _ _ _ _ _ _ _ _ _; simp -implicitDefEqProofs only [eng, reduceIte, reduceCtorEq, Nat.reduceAdd, Nat.reduceMul, Nat.reduceSub, Nat.reduceEqDiff, Nat.reduceLeDiff, Nat.reduceLT, Nat.reduceDiv, Nat.reduceMod, Int.reduceLE, Int.reduceLT, Int.reduceEq, Int.reduceNeg, Int.reduceAdd, Int.reduceSub, Int.reduceToNat, Nat.reducePow, *]))
    exact .tmp1 (by simp -implicitDefEqProofs only [eng, reduceIte, reduceCtorEq, Nat.reduceAdd, Nat.reduceMul, Nat.reduceSub, Nat.reduceEqDiff, Nat.reduceLeDiff, Nat.reduceLT, Nat.reduceDiv, Nat.reduceMod, Int.reduceLE, Int.reduceLT, Int.reduceEq, Int.reduceNeg, Int.reduceAdd, Int.reduceSub, Int.reduceToNat, Nat.reducePow, *]) rfl
end
end Go.Vx
