/- The laws about spans, walked. -/
import Derived.Test.YtfeobpjoifffiaaGF
import Derived.Test.YtfeobpjoifffiaaL
set_option linter.unusedSimpArgs false
set_option linter.unusedVariables false
namespace Go.Vx
open Go Go.Proofs

theorem overR_eq (x y u v : Int) : overR x y u v = overB x y u v := by
  unfold overR overB
  cases h1 : rightB x y <;> cases h2 : rightB u v <;> simp
  simp [rightB] at h1 h2
  by_cases h3 : x < v <;> by_cases h4 : u < y <;> simp [h3, h4] <;> omega
theorem bothR_eq (x y u v : Int) : bothR x y u v = bothF x y u v := by
  have := overR_eq x y u v
  unfold overR at this
  unfold bothR bothF
  rw [this]

section
variable {P : Program}

theorem w4 (h12 : ∀ b, V P 12 [] mt b (.bool true) mt) (h14 : ∀ x y u v b, V P 14 [asp x y, asp u v] mt b (bothF x y u v) mt) (h15 : ∀ x y u v b, V P 15 [asp x y, asp u v] mt b (bothR x y u v) mt)
    (h16 : ∀ x y b, V P 16 [asp x y] mt b (.bool (rightB x y)) mt) (h17 : ∀ x y b, V P 17 [asp x y] mt b (.bool (rightB x y)) mt)
    (h18 : ∀ x y p b, V P 18 [asp x y, .int .i64 p] mt b (.bool (hasB x y p)) mt) (h19 : ∀ x y p b, V P 19 [asp x y, .int .i64 p] mt b (.bool (hasB x y p)) mt)
    (h20 : ∀ x y u v b, V P 20 [asp x y, asp u v] mt b (.bool (overB x y u v)) mt) (h21 : ∀ x y u v b, V P 21 [asp x y, asp u v] mt b (.bool (overR x y u v)) mt)
    (h22 : ∀ x y u v b, V P 22 [asp x y, asp u v] mt b (.bool (meetB x y u v)) mt) (h23 : ∀ x y u v b, V P 23 [asp x y, asp u v] mt b (.bool (meetB x y u v)) mt)
    (x y u v p : Int) (b : Nat) : VW P c4 (PRet (Ends [.tmp 6] b (.bool true) mt)) (fun t => [asp x y, asp u v, .int .i64 p][t]?) mt b := by
  unfold c4
  have h14' := h14 x y u v
  have h15' := h15 x y u v
  have h21' := h21 x y u v
  rw [bothR_eq] at h15'
  rw [overR_eq] at h21'
  clear h14 h15 h21
  unfold bothF at h14' h15'
  cases ho : overB x y u v
  all_goals
    simp -implicitDefEqProofs only [ho, eng, reduceIte, reduceCtorEq, Nat.reduceAdd, Nat.reduceMul, Nat.reduceSub, Nat.reduceEqDiff, Nat.reduceLeDiff, Nat.reduceLT, Nat.reduceDiv, Nat.reduceMod, Int.reduceLE, Int.reduceLT, Int.reduceEq, Int.reduceNeg, Int.reduceAdd, Int.reduceSub, Int.reduceToNat, Nat.reducePow, Int.ofNat_zero, Int.natCast_one, Int.cast_ofNat_Int] at h14' h15'
    repeat' (first
    | exact True.intro
    | refine VW.seq ?_
    | refine VW.block ?_
    | ((first | refine VW.skip ?_ | refine VW.exit ?_ | refine VW.reg ?_ | refine VW.regD ?_ | refine VW.ret ?_ | show goA _ _ _ _ _ _ _ _ _ _ | show goB _ _ _ _ _ _ _ _ _ | show goAD _ _ _ _ _ _ _ _ _ _ _ _ _ _ | show goBD _ _ _ _ _ _ _ _ _ _ _ | refine VC.p0 (h12 _) ?_ | refine VC.p2 (h14' _) rfl rfl rfl rfl ?_ | refine VC.p2 (h15' _) rfl rfl rfl rfl ?_ | refine VC.p1 (h16 _ _ _) rfl rfl ?_ | refine VC.p1 (h17 _ _ _) rfl rfl ?_ | refine VC.p2 (h18 _ _ _ _) rfl rfl rfl rfl ?_ | refine VC.p2 (h19 _ _ _ _) rfl rfl rfl rfl ?_ | refine VC.p2 (h20 _ _ _ _ _) rfl rfl rfl rfl ?_ | refine VC.p2 (h21' _) rfl rfl rfl rfl ?_ | refine VC.p2 (h22 _ _ _ _ _) rfl rfl rfl rfl ?_ | refine VC.p2 (h23 _ _ _ _ _) rfl rfl rfl rfl ?_); refine sx ?_)
    | refine VW.condT cx ?_
    | refine VW.condF cx ?_
    | refine VW.cond ex ?_ ?_
    | refine imp_nt ?_
    | refine imp_nf ?_
    | refine imp_dt (fun _ => ?_)
    | refine imp_df (fun _ => ?_)
    | (refine fun (_ : _ = true) => ?_)
    | (refine fun (_ : _ = false) => ?_)
    | refine vg_t ?_ ?_
    | refine vg_f ?_ ?_)
    exact .tmp1 (cx) rfl

end
def cntF (l : List Sp) (p : Int) : Nat := (l.filter fun s => hasB s.1 s.2 p).length
theorem minusF_len (x y u v : Int) : (minusF x y u v).length ≤ 2 := by
  unfold minusF
  repeat' split
  all_goals simp
theorem parts (x y u v p : Int) : (if overB x y u v && hasB (max x u) (min y v) p then 1 else 0) + cntF (minusF x y u v) p = if hasB x y p then 1 else 0 := by
  unfold minusF cntF
  cases hr : rightB x y
  · have h1 : overB x y u v = false := by simp [overB, hr]
    simp [h1, hasB, hr]
  · cases ho : overB x y u v
    · simp [List.filter_cons]
      split <;> simp_all
    · simp [rightB] at hr
      simp [overB, rightB] at ho
      by_cases c1 : max x u = x ∧ min y v = y
      · simp [c1, hasB, rightB]
      · by_cases c2 : x < max x u <;> by_cases c3 : min y v < y <;> simp [c1, c2, c3, List.filter_cons, hasB, rightB]
        all_goals (repeat' split)
        all_goals simp
        all_goals omega

theorem cntF_le (l : List Sp) (p : Int) : cntF l p ≤ l.length := List.length_filter_le _ _
theorem cntF_add {l : List Sp} {p : Int} {i : Nat} {s : Sp} (hs : l[i]? = some s) : cntF (l.take (i + 1)) p = cntF (l.take i) p + if hasB s.1 s.2 p then 1 else 0 := by
  unfold cntF
  rw [List.take_add_one, hs]
  simp only [Option.toList_some, List.filter_append, List.length_append, List.filter_cons, List.filter_nil]
  split <;> rfl

def J5 (c0 : Nat) (l : List Sp) (x y p : Int) (i : Nat) (e : Env) (m : Mem) (nx : Nat) : Prop :=
  e 10 = some (.sl (sps l)) ∧ e 11 = some (.int .i64 i) ∧ e 7 = some (.int .i64 ((c0 + cntF (l.take i) p : Nat) : Int)) ∧ e 2 = some (.int .i64 p) ∧ ∃ j, e 3 = some (.ptr j 2 0 0) ∧ m j = some (.box [.int .i64 x, .int .i64 y] 26)

section
variable {P : Program}

theorem w5 (h12 : ∀ b, V P 12 [] mt b (.bool true) mt) (h14 : ∀ x y u v b, V P 14 [asp x y, asp u v] mt b (bothF x y u v) mt) (h18 : ∀ x y p b, V P 18 [asp x y, .int .i64 p] mt b (.bool (hasB x y p)) mt)
    (h24 : ∀ x y u v b, V P 24 [asp x y, asp u v] mt b (.sl (sps (minusF x y u v))) mt) (x y u v p : Int) (b : Nat) : VW P c5 (PRet (Ends [.tmp 6] b (.bool true) mt)) (fun t => [asp x y, asp u v, .int .i64 p][t]?) mt b := by
  unfold c5
  have hml := minusF_len x y u v
  have hpt := parts x y u v p
  have h14' := h14 x y u v
  have h24' := h24 x y u v
  clear h14 h24
  unfold bothF at h14'
  generalize minusF x y u v = l at *
  have hl := sps_len (l := l)
  have w1 : IntKind.i64.wrap (0 + 1) = 1 := rfl
  obtain ⟨c0, hc0⟩ : ∃ c0, c0 = if overB x y u v && hasB (max x u) (min y v) p then 1 else 0 := ⟨_, rfl⟩
  rw [← hc0] at hpt
  have hcase : (overB x y u v = false ∧ c0 = 0) ∨ (overB x y u v = true ∧ hasB (max x u) (min y v) p = false ∧ c0 = 0) ∨ (overB x y u v = true ∧ hasB (max x u) (min y v) p = true ∧ c0 = 1) := by
    cases h1 : overB x y u v <;> cases h2 : hasB (max x u) (min y v) p <;> simp [hc0, h1, h2]
  clear hc0
  have hcn : c0 + cntF l p ≤ 1 := by rw [hpt]; split <;> simp
  rcases hcase with ⟨ho, hc0⟩ | ⟨ho, hh, hc0⟩ | ⟨ho, hh, hc0⟩
  all_goals
    simp -implicitDefEqProofs only [ho, eng, reduceIte, reduceCtorEq, Nat.reduceAdd, Nat.reduceMul, Nat.reduceSub, Nat.reduceEqDiff, Nat.reduceLeDiff, Nat.reduceLT, Nat.reduceDiv, Nat.reduceMod, Int.reduceLE, Int.reduceLT, Int.reduceEq, Int.reduceNeg, Int.reduceAdd, Int.reduceSub, Int.reduceToNat, Nat.reducePow, Int.ofNat_zero, Int.natCast_one, Int.cast_ofNat_Int] at h14'
    repeat' (first
    | exact True.intro
    | refine VW.seq ?_
    | refine VW.block ?_
    | ((first | refine VW.skip ?_ | refine VW.exit ?_ | refine VW.reg ?_ | refine VW.regD ?_ | refine VW.ret ?_ | show goA _ _ _ _ _ _ _ _ _ _ | show goB _ _ _ _ _ _ _ _ _ | show goAD _ _ _ _ _ _ _ _ _ _ _ _ _ _ | show goBD _ _ _ _ _ _ _ _ _ _ _ | refine VC.p0 (h12 _) ?_ | refine VC.p2 (h14' _) rfl rfl rfl rfl ?_ | refine VC.p2 (h18 _ _ _ _) rfl rfl rfl rfl ?_ | refine VC.p2 (h24' _) rfl rfl rfl rfl ?_); refine sx ?_)
    | refine VW.condT cx ?_
    | refine VW.condF cx ?_
    | refine VW.cond ex ?_ ?_
    | refine imp_nt ?_
    | refine imp_nf ?_
    | refine imp_dt (fun _ => ?_)
    | refine imp_df (fun _ => ?_)
    | (refine fun (_ : _ = true) => ?_)
    | (refine fun (_ : _ = false) => ?_)
    | refine vg_t ?_ ?_
    | refine vg_f ?_ ?_)
    refine VW.forN l.length (J5 c0 l x y p) 0 (Nat.zero_le _) ⟨cy, ey, by simp -implicitDefEqProofs only [eng, reduceIte, reduceCtorEq, Nat.reduceAdd, Nat.reduceMul, Nat.reduceSub, Nat.reduceEqDiff, Nat.reduceLeDiff, Nat.reduceLT, Nat.reduceDiv, Nat.reduceMod, Int.reduceLE, Int.reduceLT, Int.reduceEq, Int.reduceNeg, Int.reduceAdd, Int.reduceSub, Int.reduceToNat, Nat.reducePow, Int.ofNat_zero, Int.natCast_one, Int.cast_ofNat_Int]; rw [hc0]; rfl, cy, ⟨_, ey, ey⟩⟩ ?_
    clear h14' h24' hl hc0
    rintro i e m nx hi ⟨h10, h11, h7, h2, ⟨j, h3, hm⟩⟩
    refine VW.below hm fun hlt => ?_
    obtain ⟨n1, n2, n3, n4, n5⟩ := below_ne hlt
    have hl := sps_len (l := l)
    by_cases hin : i < l.length
    · have hin' : (i : Int) < l.length := by omega
      obtain ⟨s, hs⟩ := get_of hin
      have hs' : (sps l)[i]? = some [.int .i64 s.1, .int .i64 s.2] := by rw [sps_get, hs]; rfl
      have h00 : (0 : Int) ≤ i := by omega
      have htn : (i : Int).toNat = i := Int.toNat_natCast i
      have hw := i64_nat (n := i) (by omega)
      have hadd := cntF_add (p := p) hs
      have hcl := cntF_le (l.take i) p
      rw [List.length_take] at hcl
      have hw2 := i64_nat (n := c0 + cntF (l.take i) p) (by omega)
      cases hsp : hasB s.1 s.2 p
      · rw [hsp] at hadd
        repeat' (first
    | exact True.intro
    | refine VW.seq ?_
    | refine VW.block ?_
    | ((first | refine VW.skip ?_ | refine VW.exit ?_ | refine VW.reg ?_ | refine VW.regD ?_ | refine VW.ret ?_ | show goA _ _ _ _ _ _ _ _ _ _ | show goB _ _ _ _ _ _ _ _ _ | show goAD _ _ _ _ _ _ _ _ _ _ _ _ _ _ | show goBD _ _ _ _ _ _ _ _ _ _ _ | refine VC.p2 (h18 _ _ _ _) rfl rfl rfl rfl ?_); refine sx ?_)
    | refine VW.condT cx ?_
    | refine VW.condF cx ?_
    | refine VW.cond ex ?_ ?_
    | refine imp_nt ?_
    | refine imp_nf ?_
    | refine imp_dt (fun _ => ?_)
    | refine imp_df (fun _ => ?_)
    | (refine fun (_ : _ = true) => ?_)
    | (refine fun (_ : _ = false) => ?_)
    | refine vg_t ?_ ?_
    | refine vg_f ?_ ?_)
        exact ⟨cx, cx, ex, cx, ⟨_, ex, cx⟩⟩
      · rw [hsp] at hadd
        repeat' (first
    | exact True.intro
    | refine VW.seq ?_
    | refine VW.block ?_
    | ((first | refine VW.skip ?_ | refine VW.exit ?_ | refine VW.reg ?_ | refine VW.regD ?_ | refine VW.ret ?_ | show goA _ _ _ _ _ _ _ _ _ _ | show goB _ _ _ _ _ _ _ _ _ | show goAD _ _ _ _ _ _ _ _ _ _ _ _ _ _ | show goBD _ _ _ _ _ _ _ _ _ _ _ | refine VC.p2 (h18 _ _ _ _) rfl rfl rfl rfl ?_); refine sx ?_)
    | refine VW.condT cx ?_
    | refine VW.condF cx ?_
    | refine VW.cond ex ?_ ?_
    | refine imp_nt ?_
    | refine imp_nf ?_
    | refine imp_dt (fun _ => ?_)
    | refine imp_df (fun _ => ?_)
    | (refine fun (_ : _ = true) => ?_)
    | (refine fun (_ : _ = false) => ?_)
    | refine vg_t ?_ ?_
    | refine vg_f ?_ ?_)
        exact ⟨cx, cx, ex, cx, ⟨_, ex, cx⟩⟩
    · have hin' : ¬ (i : Int) < l.length := by omega
      have hdr : l.take i = l := List.take_of_length_le (by omega)
      have hml' : (l.length : Int) ≤ 2 := by omega
      rw [hdr, hpt] at h7
      have z0 : ((0 : Nat) : Int) = 0 := rfl
      have z1 : ((1 : Nat) : Int) = 1 := rfl
      clear hdr hpt hcn hi hin hml
      cases hb : hasB x y p
      · simp -implicitDefEqProofs only [hb, eng, reduceIte, reduceCtorEq, Nat.reduceAdd, Nat.reduceMul, Nat.reduceSub, Nat.reduceEqDiff, Nat.reduceLeDiff, Nat.reduceLT, Nat.reduceDiv, Nat.reduceMod, Int.reduceLE, Int.reduceLT, Int.reduceEq, Int.reduceNeg, Int.reduceAdd, Int.reduceSub, Int.reduceToNat, Nat.reducePow, Int.ofNat_zero, Int.natCast_one, Int.cast_ofNat_Int, z0] at h7
        repeat' (first
    | exact True.intro
    | refine VW.seq ?_
    | refine VW.block ?_
    | ((first | refine VW.skip ?_ | refine VW.exit ?_ | refine VW.reg ?_ | refine VW.regD ?_ | refine VW.ret ?_ | show goA _ _ _ _ _ _ _ _ _ _ | show goB _ _ _ _ _ _ _ _ _ | show goAD _ _ _ _ _ _ _ _ _ _ _ _ _ _ | show goBD _ _ _ _ _ _ _ _ _ _ _ | refine VC.p0 (h12 _) ?_ | refine VC.p2 (h18 _ _ _ _) rfl rfl rfl rfl ?_); refine sx ?_)
    | refine VW.condT cx ?_
    | refine VW.condF cx ?_
    | refine VW.cond ex ?_ ?_
    | refine imp_nt ?_
    | refine imp_nf ?_
    | refine imp_dt (fun _ => ?_)
    | refine imp_df (fun _ => ?_)
    | (refine fun (_ : _ = true) => ?_)
    | (refine fun (_ : _ = false) => ?_)
    | refine vg_t ?_ ?_
    | refine vg_f ?_ ?_)
        exact .tmp1 (cx) rfl
      · simp -implicitDefEqProofs only [hb, eng, reduceIte, reduceCtorEq, Nat.reduceAdd, Nat.reduceMul, Nat.reduceSub, Nat.reduceEqDiff, Nat.reduceLeDiff, Nat.reduceLT, Nat.reduceDiv, Nat.reduceMod, Int.reduceLE, Int.reduceLT, Int.reduceEq, Int.reduceNeg, Int.reduceAdd, Int.reduceSub, Int.reduceToNat, Nat.reducePow, Int.ofNat_zero, Int.natCast_one, Int.cast_ofNat_Int, z1] at h7
        repeat' (first
    | exact True.intro
    | refine VW.seq ?_
    | refine VW.block ?_
    | ((first | refine VW.skip ?_ | refine VW.exit ?_ | refine VW.reg ?_ | refine VW.regD ?_ | refine VW.ret ?_ | show goA _ _ _ _ _ _ _ _ _ _ | show goB _ _ _ _ _ _ _ _ _ | show goAD _ _ _ _ _ _ _ _ _ _ _ _ _ _ | show goBD _ _ _ _ _ _ _ _ _ _ _ | refine VC.p0 (h12 _) ?_ | refine VC.p2 (h18 _ _ _ _) rfl rfl rfl rfl ?_); refine sx ?_)
    | refine VW.condT cx ?_
    | refine VW.condF cx ?_
    | refine VW.cond ex ?_ ?_
    | refine imp_nt ?_
    | refine imp_nf ?_
    | refine imp_dt (fun _ => ?_)
    | refine imp_df (fun _ => ?_)
    | (refine fun (_ : _ = true) => ?_)
    | (refine fun (_ : _ = false) => ?_)
    | refine vg_t ?_ ?_
    | refine vg_f ?_ ?_)
        exact .tmp1 (cx) rfl

end
end Go.Vx
/- The contracts of the functions about spans, over the program. -/
set_option linter.unusedSimpArgs false
set_option linter.unusedVariables false
namespace Go.Vx
open Go Go.Proofs

theorem cmpI_neg {x y : Int} : cmpI x y < 0 ↔ x < y := by unfold cmpI; split <;> (try split) <;> omega
theorem cmpI_zero {x y : Int} : cmpI x y = 0 ↔ x = y := by unfold cmpI; split <;> (try split) <;> omega
theorem ltSp {s t : Sp} : ltOf cmpS s t = decide (s.1 < t.1 ∨ s.1 = t.1 ∧ s.2 < t.2) := by
  show decide ((if cmpI s.1 t.1 = 0 then (if cmpI s.2 t.2 = 0 then 0 else cmpI s.2 t.2) else cmpI s.1 t.1) < 0) = _
  have a := cmpI_neg (x := s.1) (y := t.1)
  have b := cmpI_neg (x := s.2) (y := t.2)
  have c := cmpI_zero (x := s.1) (y := t.1)
  have d := cmpI_zero (x := s.2) (y := t.2)
  apply decide_eq_decide.2
  split
  · split <;> omega
  · omega
theorem swoS : Go.Sort.SWO (ltOf cmpS) := {
  irrefl x := by rw [ltSp]; simp
  trans x y z h1 h2 := by rw [ltSp] at *; simp at *; omega
  ntrans x y z h1 h2 := by rw [ltSp] at *; simp at *; omega }
theorem totS (s t : Sp) (h1 : ltOf cmpS s t = false) (h2 : ltOf cmpS t s = false) : s = t := by
  rw [ltSp] at *
  simp at h1 h2
  exact Prod.ext (by omega) (by omega)
theorem plainS : Plain (α := Sp) isp (fun s => [.int .i64 s.1, .int .i64 s.2]) 2 := {
  lenP _ := rfl
  len _ := rfl
  one x c hc := by simp [isp] at hc; rcases hc with rfl | rfl <;> rfl
  oneV x c hc := by simp at hc; rcases hc with rfl | rfl <;> rfl
  rep w ok β x j c v hc hv := by
    match j with
    | 0 => simp [isp] at hc hv; subst hc; subst hv; exact .int _ _
    | 1 => simp [isp] at hc hv; subst hc; subst hv; exact .int _ _
    | j + 2 => simp [isp] at hc
  unq w ok β x j c v hc hr := by
    match j with
    | 0 => simp [isp] at hc; subst hc; cases hr; rfl
    | 1 => simp [isp] at hc; subst hc; cases hr; rfl
    | j + 2 => simp [isp] at hc }

theorem v16 (x y : Int) (b : Nat) : V Try.prog 16 [asp x y] mt b (.bool (rightB x y)) mt := V.code mixed k16 (by simp) (w16 x y b)
theorem v17 (x y : Int) (b : Nat) : V Try.prog 17 [asp x y] mt b (.bool (rightB x y)) mt := V.code mixed k17 (by simp) (w17 x y b)
theorem v20 (x y u v : Int) (b : Nat) : V Try.prog 20 [asp x y, asp u v] mt b (.bool (overB x y u v)) mt := V.code mixed k20 (by simp) (w20 v16 x y u v b)
theorem v14 (x y u v : Int) (b : Nat) : V Try.prog 14 [asp x y, asp u v] mt b (bothF x y u v) mt := V.code mixed k14 (by simp) (w14 v20 x y u v b)
theorem v15 (x y u v : Int) (b : Nat) : V Try.prog 15 [asp x y, asp u v] mt b (bothR x y u v) mt := V.code mixed k15 (by simp) (w15 v17 x y u v b)
theorem v18 (x y p : Int) (b : Nat) : V Try.prog 18 [asp x y, .int .i64 p] mt b (.bool (hasB x y p)) mt := V.code mixed k18 (by simp) (w18 v16 x y p b)
theorem v19 (x y p : Int) (b : Nat) : V Try.prog 19 [asp x y, .int .i64 p] mt b (.bool (hasB x y p)) mt := V.code mixed k19 (by simp) (w19 v17 x y p b)
theorem v21 (x y u v : Int) (b : Nat) : V Try.prog 21 [asp x y, asp u v] mt b (.bool (overR x y u v)) mt := V.code mixed k21 (by simp) (w21 v15 x y u v b)
theorem v22 (x y u v : Int) (b : Nat) : V Try.prog 22 [asp x y, asp u v] mt b (.bool (meetB x y u v)) mt := V.code mixed k22 (by simp) (w22 v16 x y u v b)
theorem v23 (x y u v : Int) (b : Nat) : V Try.prog 23 [asp x y, asp u v] mt b (.bool (meetB x y u v)) mt := V.code mixed k23 (by simp) (w23 v17 x y u v b)
theorem v24 (x y u v : Int) (b : Nat) : V Try.prog 24 [asp x y, asp u v] mt b (.sl (sps (minusF x y u v))) mt := V.code mixed k24 (by simp) (w24 v16 v14 x y u v b)
theorem v49 (x : Int) (b : Nat) : V Try.prog 49 [.int .i64 x] mt b (.bool false) mt := V.code mixed k49 (by simp) (w49 x b)
theorem v45 (x y : Int) (b : Nat) : V Try.prog 45 [.int .i64 x, .int .i64 y] mt b (.int .i64 (cmpI x y)) mt := V.code mixed k45 (by simp) (w45 v49 x y b)
theorem v44 (zs : List Int) (b : Nat) : V Try.prog 44 [.sl (ints zs)] mt b (.int .i64 (orF zs)) mt := V.code mixed k44 (by simp) (w44 zs b)
theorem v43 (s t : Sp) (b : Nat) : V Try.prog 43 [.agg (isp s), .agg (isp t)] mt b (.int .i64 (cmpS s t)) mt := V.code mixed k43 (by simp) (w43 v45 v44 s t b)
theorem v42 (xs : List Sp) (h : xs.length < 4611686018427387904) (id b : Nat) (hid : id < b) : V Try.prog 42 [.osl id xs.length, .fn 43 []] (upd mt id (some (.row 2 (sps xs) 26 false))) b (.tup []) (upd mt id (some (.row 2 (sps (xs.mergeSort leS)) 26 false))) :=
  V.sortFunc Try.sortSp (by omega) (fun w => run_isAgg (P := Try.prog) (t := 26) (by kernel_rfl)) (fun w => run_sizeOf (P := Try.prog) (t := 26) (by kernel_rfl)) plainS swoS totS v43 xs h hid
theorem v37 (l : List Sp) (h : l.length < 4294967296) (b : Nat) : V Try.prog 37 [.sl (sps l)] mt b (.sl (sps (sortF l))) mt := V.code mixed k37 (by simp) (w37 v16 v42 l h b)
theorem v11 (l : List Sp) (h : l.length < 4294967296) (b : Nat) : V Try.prog 11 [.sl (sps l)] mt b (.sl (sps (joinF l))) mt := V.code mixed k11 (by simp) (w11 v37 l h b)

theorem foldJ_len : ∀ (l : List Sp) (acc : List Sp), (l.foldl stepJ acc).length ≤ acc.length + l.length
  | [], acc => by simp
  | s :: l, acc => by
    have h1 := foldJ_len l (stepJ acc s)
    have h2 : (stepJ acc s).length ≤ acc.length + 1 := by unfold stepJ; split <;> (try split) <;> simp
    simp only [List.foldl_cons, List.length_cons] at *
    omega
theorem joinF_len (l : List Sp) : (joinF l).length ≤ l.length := by
  unfold joinF
  have h1 := foldJ_len (sortF l) []
  have h2 := sortF_len (l := l)
  simp at h1 ⊢
  omega

theorem v27 (l : List Sp) (h : l.length < 4294967296) (b : Nat) : V Try.prog 27 [.sl (sps l)] mt b (.int .i64 (sumF (joinF l))) mt := V.code mixed k27 (by simp) (w27 v11 l h (joinF_len l) b)
theorem v25 (l : List Sp) (h : l.length < 4294967296) (x y : Int) (b : Nat) : V Try.prog 25 [.sl (sps l), asp x y] mt b (.sl (sps (gapsF l x y))) mt := V.code mixed k25 (by simp) (w25 v16 v14 v11 l h (joinF_len l) x y b)
theorem v26 (l : List Sp) (h : l.length < 4294967296) (x y : Int) (b : Nat) : V Try.prog 26 [.sl (sps l), asp x y] mt b (.bool (rightB x y && decide (gapsF l x y = []))) mt := V.code mixed k26 (by simp) (w26 v16 l x y (v25 l h x y) b)
theorem v10 (l : List Sp) (b : Nat) : V Try.prog 10 [.sl (sps l)] mt b (.sl (sps (l.take 30))) mt := V.code mixed k10 (by simp) (w10 l b)

theorem sort_eq {l ys : List Sp} (hp : (l.filter rightS).Perm ys) (hs : ys.Pairwise (fun a b => leS a b = true)) : sortF l = ys := by
  have tr : ∀ a b c : Sp, leS a b = true → leS b c = true → leS a c = true := fun a b c => by unfold leS; rw [ltSp, ltSp, ltSp]; simp; omega
  have to : ∀ a b : Sp, (leS a b || leS b a) = true := fun a b => by unfold leS; rw [ltSp, ltSp]; simp; omega
  have h1 := List.pairwise_mergeSort tr to (l.filter rightS)
  have h2 := (List.mergeSort_perm (l.filter rightS) leS).trans hp
  exact h2.eq_of_pairwise (fun a b _ _ h1 h2 => by
    unfold leS at h1 h2; rw [ltSp] at h1 h2; simp at h1 h2
    exact Prod.ext (by omega) (by omega)) h1 hs

theorem live_join : joinF [(3, 5), (0, 3), (7, 8)] = [(0, 5), (7, 8)] := by
  have : sortF [(3, 5), (0, 3), (7, 8)] = [(0, 3), (3, 5), (7, 8)] := sort_eq (by decide) (by unfold leS; simp [ltSp])
  rw [joinF, this]; rfl
theorem live_join2 : joinF [(0, 5), (7, 8)] = [(0, 5), (7, 8)] := by
  have : sortF [(0, 5), (7, 8)] = [(0, 5), (7, 8)] := sort_eq (by decide) (by unfold leS; simp [ltSp])
  rw [joinF, this]; rfl
theorem v12 (b : Nat) : V Try.prog 12 [] mt b (.bool true) mt :=
  V.code mixed k12 (by simp) (w12 v16 v22 v24 (fun b => live_join ▸ v11 [(3, 5), (0, 3), (7, 8)] (by decide) b) (fun b => by
    have := v27 [(0, 5), (7, 8)] (by decide) b
    rw [live_join2] at this
    exact this) b)
theorem v4 (x y u v p : Int) (b : Nat) : V Try.prog 4 [asp x y, asp u v, .int .i64 p] mt b (.bool true) mt := V.code mixed k4 (by simp) (w4 v12 v14 v15 v16 v17 v18 v19 v20 v21 v22 v23 x y u v p b)
theorem v5 (x y u v p : Int) (b : Nat) : V Try.prog 5 [asp x y, asp u v, .int .i64 p] mt b (.bool true) mt := V.code mixed k5 (by simp) (w5 v12 v14 v18 v24 x y u v p b)
end Go.Vx
/- SpanJoins, walked. -/
set_option linter.unusedSimpArgs false
set_option linter.unusedVariables false
namespace Go.Vx
open Go Go.Proofs

theorem rightS_iff {s : Sp} : rightS s = true ↔ -1000 ≤ s.1 ∧ s.1 < s.2 ∧ s.2 ≤ 1000 := by simp [rightS, rightB, and_assoc]
/-- As few spans: all right, each behind the one ahead, with a gap. -/
def Canon (l : List Sp) : Prop := (∀ s ∈ l, rightS s = true) ∧ l.Pairwise fun a b => a.2 < b.1
/-- What Join's fold holds, the last one first. -/
def CanonR (l : List Sp) : Prop := (∀ s ∈ l, rightS s = true) ∧ l.Pairwise fun a b => b.2 < a.1

theorem stepJ_canon {acc : List Sp} {s : Sp} (h : CanonR acc) (hs : rightS s = true) (hh : ∀ t ∈ acc.head?, t.1 ≤ s.1) : CanonR (stepJ acc s) ∧ ∀ t ∈ (stepJ acc s).head?, t.1 ≤ s.1 := by
  cases acc with
  | nil => exact ⟨⟨by simpa [stepJ] using hs, by simp [stepJ]⟩, by simp [stepJ]⟩
  | cons t r =>
    obtain ⟨h1, h2⟩ := h
    have ht := hh t (by simp)
    have htr := rightS_iff.1 (h1 t List.mem_cons_self)
    have hsr := rightS_iff.1 hs
    rw [List.pairwise_cons] at h2
    by_cases hc : t.2 < s.1
    · simp only [stepJ, if_pos hc]
      refine ⟨⟨fun u hu => ?_, ?_⟩, by simp⟩
      · rcases List.mem_cons.1 hu with rfl | hu
        · exact hs
        · exact h1 u hu
      · rw [List.pairwise_cons, List.pairwise_cons]
        refine ⟨fun u hu => ?_, h2⟩
        rcases List.mem_cons.1 hu with rfl | hu
        · exact hc
        · have := h2.1 u hu; omega
    · simp only [stepJ, if_neg hc]
      refine ⟨⟨fun u hu => ?_, ?_⟩, by simpa using ht⟩
      · rcases List.mem_cons.1 hu with rfl | hu
        · exact rightS_iff.2 ⟨htr.1, by simp; omega, by simp; omega⟩
        · exact h1 u (List.mem_cons_of_mem _ hu)
      · rw [List.pairwise_cons]
        exact h2

theorem foldJ_canon : ∀ {xs acc : List Sp}, (∀ s ∈ xs, rightS s = true) → xs.Pairwise (fun a b => a.1 ≤ b.1) → CanonR acc → (∀ t ∈ acc.head?, ∀ s ∈ xs, t.1 ≤ s.1) → CanonR (xs.foldl stepJ acc)
  | [], acc, _, _, h, _ => h
  | s :: xs, acc, h1, h2, h, hh => by
    rw [List.pairwise_cons] at h2
    obtain ⟨g1, g2⟩ := stepJ_canon h (h1 s List.mem_cons_self) (fun t ht => hh t ht s List.mem_cons_self)
    rw [List.foldl_cons]
    exact foldJ_canon (xs := xs) (acc := stepJ acc s) (fun u hu => h1 u (List.mem_cons_of_mem _ hu)) h2.2 g1 fun t ht u hu => by have := g2 t ht; have := h2.1 u hu; omega

theorem foldJ_id : ∀ {xs acc : List Sp}, xs.Pairwise (fun a b => a.2 < b.1) → (∀ t ∈ acc.head?, ∀ s ∈ xs, t.2 < s.1) → xs.foldl stepJ acc = xs.reverse ++ acc
  | [], acc, _, _ => rfl
  | s :: xs, acc, h2, hh => by
    rw [List.pairwise_cons] at h2
    have : stepJ acc s = s :: acc := by
      cases acc with
      | nil => rfl
      | cons t r => simp [stepJ, hh t (by simp) s List.mem_cons_self]
    rw [List.foldl_cons, this, foldJ_id h2.2 (by simpa using h2.1)]
    simp

theorem canonR_rev {l : List Sp} : CanonR l → Canon l.reverse := fun ⟨h1, h2⟩ => ⟨fun s hs => h1 s (List.mem_reverse.1 hs), by rw [List.pairwise_reverse]; exact h2⟩
theorem swap_perm {l : List Sp} {a b : Nat} {x y : Sp} (ha : l[a]? = some x) (hb : l[b]? = some y) : ((l.set a y).set b x).Perm l := by
  have h1 : a < l.length := (List.getElem?_eq_some_iff.1 ha).1
  have h2 : b < l.length := (List.getElem?_eq_some_iff.1 hb).1
  have := (Array.swap_perm (xs := l.toArray) (i := a) (j := b) (by simpa using h1) (by simpa using h2))
  rw [Array.perm_iff_toList_perm] at this
  simp only [Array.toList_swap] at this
  have e1 : l[a] = x := (List.getElem?_eq_some_iff.1 ha).2
  have e2 : l[b] = y := (List.getElem?_eq_some_iff.1 hb).2
  simpa [e1, e2] using this


theorem sortF_right {l : List Sp} : ∀ s ∈ sortF l, rightS s = true := fun s hs => by
  unfold sortF at hs
  have := (List.mergeSort_perm _ _).mem_iff.1 hs
  exact (List.mem_filter.1 this).2
theorem sortF_sorted {l : List Sp} : (sortF l).Pairwise (fun a b => a.1 ≤ b.1) := by
  have tr : ∀ a b c : Sp, leS a b = true → leS b c = true → leS a c = true := fun a b c => by unfold leS; rw [ltSp, ltSp, ltSp]; simp; omega
  have to : ∀ a b : Sp, (leS a b || leS b a) = true := fun a b => by unfold leS; rw [ltSp, ltSp]; simp; omega
  refine (List.pairwise_mergeSort tr to (l.filter rightS)).imp fun {a b} h => ?_
  unfold leS at h; rw [ltSp] at h; simp at h; omega
theorem joinF_canon (l : List Sp) : Canon (joinF l) := canonR_rev (foldJ_canon sortF_right sortF_sorted ⟨by simp, by simp⟩ (by simp))
theorem leS_of {a b : Sp} (h : a.1 < b.1) : leS a b = true := by unfold leS; rw [ltSp]; simp; omega
theorem joinF_of_canon {j : List Sp} (h : Canon j) : joinF j = j := by
  have h1 : sortF j = j := by
    refine sort_eq ?_ ?_
    · rw [List.filter_eq_self.2 h.1]
    · refine List.Pairwise.imp_of_mem (fun {a b} ha hb hab => leS_of ?_) h.2
      have := rightS_iff.1 (h.1 a ha)
      omega
  rw [joinF, h1, foldJ_id h.2 (by simp)]
  simp
theorem joinF_perm {l m : List Sp} (h : m.Perm l) : joinF m = joinF l := by
  have : sortF m = sortF l := by
    have tr : ∀ a b c : Sp, leS a b = true → leS b c = true → leS a c = true := fun a b c => by unfold leS; rw [ltSp, ltSp, ltSp]; simp; omega
    have to : ∀ a b : Sp, (leS a b || leS b a) = true := fun a b => by unfold leS; rw [ltSp, ltSp]; simp; omega
    refine sort_eq (((h.filter rightS).trans (List.mergeSort_perm _ leS).symm)) (List.pairwise_mergeSort tr to _)
  rw [joinF, joinF, this]

section
variable {P : Program}

def J13 (xs ys : List Sp) (i : Nat) (e : Env) (m : Mem) (nx : Nat) : Prop :=
  e 0 = some (.sl (sps xs)) ∧ e 1 = some (.sl (sps ys)) ∧ e 5 = some (.int .i64 i) ∧ xs.take i = ys.take i

theorem w13 (xs ys : List Sp) (b : Nat) : VW P c13 (PRet (Ends [.tmp 4] b (.bool (decide (xs = ys))) mt)) (fun t => [PV.sl (sps xs), PV.sl (sps ys)][t]?) mt b := by
  unfold c13
  refine VW.slen (t := 0) rfl fun hlen => ?_
  have hlx := sps_len (l := xs)
  have hly := sps_len (l := ys)
  rw [hlx] at hlen
  by_cases hl : xs.length = ys.length
  case neg =>
    have hl' : ¬ (xs.length : Int) = ys.length := by omega
    have hne : ¬ xs = ys := fun h => hl (h ▸ rfl)
    repeat' (first
    | exact True.intro
    | refine VW.seq ?_
    | refine VW.block ?_
    | ((first | refine VW.skip ?_ | refine VW.exit ?_ | refine VW.reg ?_ | refine VW.regD ?_ | refine VW.ret ?_ | show goA _ _ _ _ _ _ _ _ _ _ | show goB _ _ _ _ _ _ _ _ _ | show goAD _ _ _ _ _ _ _ _ _ _ _ _ _ _ | show goBD _ _ _ _ _ _ _ _ _ _ _); refine sx ?_)
    | refine VW.condT cx ?_
    | refine VW.condF cx ?_
    | refine VW.cond ex ?_ ?_
    | refine imp_nt ?_
    | refine imp_nf ?_
    | refine imp_dt (fun _ => ?_)
    | refine imp_df (fun _ => ?_)
    | (refine fun (_ : _ = true) => ?_)
    | (refine fun (_ : _ = false) => ?_)
    | refine vg_t ?_ ?_
    | refine vg_f ?_ ?_)
    exact .tmp1 (cx) rfl
  repeat' (first
    | exact True.intro
    | refine VW.seq ?_
    | refine VW.block ?_
    | ((first | refine VW.skip ?_ | refine VW.exit ?_ | refine VW.reg ?_ | refine VW.regD ?_ | refine VW.ret ?_ | show goA _ _ _ _ _ _ _ _ _ _ | show goB _ _ _ _ _ _ _ _ _ | show goAD _ _ _ _ _ _ _ _ _ _ _ _ _ _ | show goBD _ _ _ _ _ _ _ _ _ _ _); refine sx ?_)
    | refine VW.condT cx ?_
    | refine VW.condF cx ?_
    | refine VW.cond ex ?_ ?_
    | refine imp_nt ?_
    | refine imp_nf ?_
    | refine imp_dt (fun _ => ?_)
    | refine imp_df (fun _ => ?_)
    | (refine fun (_ : _ = true) => ?_)
    | (refine fun (_ : _ = false) => ?_)
    | refine vg_t ?_ ?_
    | refine vg_f ?_ ?_)
  refine VW.forN xs.length (J13 xs ys) 0 (Nat.zero_le _) ⟨cy, cy, ey, rfl⟩ ?_
  rintro i e m nx hi ⟨h0, h1, h5, htk⟩
  by_cases hin : i < xs.length
  · have hin' : (i : Int) < xs.length := by omega
    obtain ⟨x, hx⟩ := get_of hin
    obtain ⟨y, hy⟩ := get_of (l := ys) (i := i) (by omega)
    have hx' : (sps xs)[i]? = some [.int .i64 x.1, .int .i64 x.2] := by rw [sps_get, hx]; rfl
    have hy' : (sps ys)[i]? = some [.int .i64 y.1, .int .i64 y.2] := by rw [sps_get, hy]; rfl
    have h00 : (0 : Int) ≤ i := by omega
    have htn : (i : Int).toNat = i := Int.toNat_natCast i
    have hw := i64_nat (n := i) (by unfold maxLen at hlen; omega)
    by_cases hxy : x = y
    · subst hxy
      clear hl
      repeat' (first
    | exact True.intro
    | refine VW.seq ?_
    | refine VW.block ?_
    | ((first | refine VW.skip ?_ | refine VW.exit ?_ | refine VW.reg ?_ | refine VW.regD ?_ | refine VW.ret ?_ | show goA _ _ _ _ _ _ _ _ _ _ | show goB _ _ _ _ _ _ _ _ _ | show goAD _ _ _ _ _ _ _ _ _ _ _ _ _ _ | show goBD _ _ _ _ _ _ _ _ _ _ _); refine sx ?_)
    | refine VW.condT cx ?_
    | refine VW.condF cx ?_
    | refine VW.cond ex ?_ ?_
    | refine imp_nt ?_
    | refine imp_nf ?_
    | refine imp_dt (fun _ => ?_)
    | refine imp_df (fun _ => ?_)
    | (refine fun (_ : _ = true) => ?_)
    | (refine fun (_ : _ = false) => ?_)
    | refine vg_t ?_ ?_
    | refine vg_f ?_ ?_)
      exact ⟨cx, cx, cx, by rw [List.take_add_one, List.take_add_one, htk, hx, hy]⟩
    · have hne : ¬ xs = ys := fun h => hxy (by rw [h, hy] at hx; injection hx with hx; exact hx.symm)
      have hd : (decide (x.1 = y.1) && decide (x.2 = y.2)) = false := by
        rw [← Bool.decide_and, decide_eq_false_iff_not]
        exact fun h => hxy (Prod.ext h.1 h.2)
      clear hl
      repeat' (first
    | exact True.intro
    | refine VW.seq ?_
    | refine VW.block ?_
    | ((first | refine VW.skip ?_ | refine VW.exit ?_ | refine VW.reg ?_ | refine VW.regD ?_ | refine VW.ret ?_ | show goA _ _ _ _ _ _ _ _ _ _ | show goB _ _ _ _ _ _ _ _ _ | show goAD _ _ _ _ _ _ _ _ _ _ _ _ _ _ | show goBD _ _ _ _ _ _ _ _ _ _ _); refine sx ?_)
    | refine VW.condT cx ?_
    | refine VW.condF cx ?_
    | refine VW.cond ex ?_ ?_
    | refine imp_nt ?_
    | refine imp_nf ?_
    | refine imp_dt (fun _ => ?_)
    | refine imp_df (fun _ => ?_)
    | (refine fun (_ : _ = true) => ?_)
    | (refine fun (_ : _ = false) => ?_)
    | refine vg_t ?_ ?_
    | refine vg_f ?_ ?_)
      exact .tmp1 (cx) rfl
  · have hin' : ¬ (i : Int) < xs.length := by omega
    have he : xs = ys := by rwa [List.take_of_length_le (by omega), List.take_of_length_le (by omega)] at htk
    clear htk hl
    subst he
    repeat' (first
    | exact True.intro
    | refine VW.seq ?_
    | refine VW.block ?_
    | ((first | refine VW.skip ?_ | refine VW.exit ?_ | refine VW.reg ?_ | refine VW.regD ?_ | refine VW.ret ?_ | show goA _ _ _ _ _ _ _ _ _ _ | show goB _ _ _ _ _ _ _ _ _ | show goAD _ _ _ _ _ _ _ _ _ _ _ _ _ _ | show goBD _ _ _ _ _ _ _ _ _ _ _); refine sx ?_)
    | refine VW.condT cx ?_
    | refine VW.condF cx ?_
    | refine VW.cond ex ?_ ?_
    | refine imp_nt ?_
    | refine imp_nf ?_
    | refine imp_dt (fun _ => ?_)
    | refine imp_df (fun _ => ?_)
    | (refine fun (_ : _ = true) => ?_)
    | (refine fun (_ : _ = false) => ?_)
    | refine vg_t ?_ ?_
    | refine vg_f ?_ ?_)
    exact .tmp1 (cx) rfl
theorem v13 (xs ys : List Sp) (b : Nat) : V Try.prog 13 [.sl (sps xs), .sl (sps ys)] mt b (.bool (decide (xs = ys))) mt := V.code mixed k13 (by simp) (w13 xs ys b)

def J3 (l j : List Sp) (x0 x1 : Int) (i : Nat) (e : Env) (m : Mem) (nx : Nat) : Prop :=
  1 ≤ i ∧ e 0 = some (.sl (sps l)) ∧ e 5 = some (.sl (sps j)) ∧ e 6 = some (.int .i64 i) ∧ ∃ k, e 3 = some (.ptr k 2 0 0) ∧ m k = some (.box [.int .u8 x0, .int .u8 x1] 23)

theorem w3 (h10 : ∀ l b, V P 10 [.sl (sps l)] mt b (.sl (sps (l.take 30))) mt) (h11 : ∀ l : List Sp, l.length < 4294967296 → ∀ b, V P 11 [.sl (sps l)] mt b (.sl (sps (joinF l))) mt) (h12 : ∀ b, V P 12 [] mt b (.bool true) mt)
    (h13 : ∀ xs ys b, V P 13 [.sl (sps xs), .sl (sps ys)] mt b (.bool (decide (xs = ys))) mt) (l0 : List Sp) (x0 x1 : Int) (hx0 : 0 ≤ x0 ∧ x0 ≤ 255) (hx1 : 0 ≤ x1 ∧ x1 ≤ 255) (b : Nat) :
    VW P c3 (PRet (Ends [.tmp 4] b (.bool true) mt)) (fun t => [PV.sl (sps l0), PV.agg [.int .u8 x0, .int .u8 x1]][t]?) mt b := by
  unfold c3
  have h10' := h10 l0
  have hl30 : (l0.take 30).length ≤ 30 := by simp; omega
  generalize l0.take 30 = l at *
  have h11' := h11 l (by omega)
  have hjc := joinF_canon l
  have hjl := joinF_len l
  have hjj := joinF_of_canon hjc
  have hswap : ∀ (a b : Nat) x y, l[a]? = some x → l[b]? = some y → joinF ((l.set a y).set b x) = joinF l := fun a b x y h1 h2 => joinF_perm (swap_perm h1 h2)
  generalize hj : joinF l = j at *
  have h11j := h11 j (by omega)
  rw [hjj] at h11j
  have h13j := h13 j j
  simp only [decide_true] at h13j
  repeat' (first
    | exact True.intro
    | refine VW.seq ?_
    | refine VW.block ?_
    | ((first | refine VW.skip ?_ | refine VW.exit ?_ | refine VW.reg ?_ | refine VW.regD ?_ | refine VW.ret ?_ | show goA _ _ _ _ _ _ _ _ _ _ | show goB _ _ _ _ _ _ _ _ _ | show goAD _ _ _ _ _ _ _ _ _ _ _ _ _ _ | show goBD _ _ _ _ _ _ _ _ _ _ _ | refine VC.p1 (h10' _) rfl rfl ?_ | refine VC.p1 (h11' _) rfl rfl ?_); refine sx ?_)
    | refine VW.condT cx ?_
    | refine VW.condF cx ?_
    | refine VW.cond ex ?_ ?_
    | refine imp_nt ?_
    | refine imp_nf ?_
    | refine imp_dt (fun _ => ?_)
    | refine imp_df (fun _ => ?_)
    | (refine fun (_ : _ = true) => ?_)
    | (refine fun (_ : _ = false) => ?_)
    | refine vg_t ?_ ?_
    | refine vg_f ?_ ?_)
  refine VW.forN (max 1 j.length) (J3 l j x0 x1) 1 (by omega) ⟨Nat.le_refl _, cy, cy, ey, ⟨_, ey, ey⟩⟩ ?_
  clear h10'
  rintro i e m nx hi ⟨h1i, h0, h5, h6, ⟨k, h3, hm⟩⟩
  refine VW.below hm fun hlt => ?_
  obtain ⟨n1, n2, n3, n4, n5⟩ := below_ne hlt
  have hlj := sps_len (l := j)
  by_cases hin : i < j.length
  · have hin' : (i : Int) < j.length := by omega
    have hmx : i < max 1 j.length := by omega
    obtain ⟨s, hs⟩ := get_of (l := j) (i := i - 1) (by omega)
    obtain ⟨t, ht⟩ := get_of hin
    have hst : s.2 < t.1 := by
      have := List.pairwise_iff_getElem.1 hjc.2 (i - 1) i (by omega) hin (by omega)
      rwa [(List.getElem?_eq_some_iff.1 hs).2, (List.getElem?_eq_some_iff.1 ht).2] at this
    have hge : ¬ (t.1 ≤ s.2) := by omega
    have hs' : (sps j)[i - 1]? = some [.int .i64 s.1, .int .i64 s.2] := by rw [sps_get, hs]; rfl
    have ht' : (sps j)[i]? = some [.int .i64 t.1, .int .i64 t.2] := by rw [sps_get, ht]; rfl
    have h00 : (0 : Int) ≤ i := by omega
    have htn : (i : Int).toNat = i := Int.toNat_natCast i
    have h00' : (0 : Int) ≤ ((i - 1 : Nat) : Int) := by omega
    have htn' : ((i - 1 : Nat) : Int).toNat = i - 1 := Int.toNat_natCast _
    have hw := i64_nat (n := i) (by omega)
    have hw' : IntKind.i64.wrap ((i : Int) - 1) = ((i - 1 : Nat) : Int) := by rw [IntWalk.i64_in _ (by omega)]; omega
    clear hst hjc hs ht hswap
    repeat' (first
    | exact True.intro
    | refine VW.seq ?_
    | refine VW.block ?_
    | ((first | refine VW.skip ?_ | refine VW.exit ?_ | refine VW.reg ?_ | refine VW.regD ?_ | refine VW.ret ?_ | show goA _ _ _ _ _ _ _ _ _ _ | show goB _ _ _ _ _ _ _ _ _ | show goAD _ _ _ _ _ _ _ _ _ _ _ _ _ _ | show goBD _ _ _ _ _ _ _ _ _ _ _); refine sx ?_)
    | refine VW.condT cx ?_
    | refine VW.condF cx ?_
    | refine VW.cond ex ?_ ?_
    | refine imp_nt ?_
    | refine imp_nf ?_
    | refine imp_dt (fun _ => ?_)
    | refine imp_df (fun _ => ?_)
    | (refine fun (_ : _ = true) => ?_)
    | (refine fun (_ : _ = false) => ?_)
    | refine vg_t ?_ ?_
    | refine vg_f ?_ ?_)
    exact ⟨by omega, cx, cx, cx, ⟨_, ex, cx⟩⟩
  · have hin' : ¬ (i : Int) < j.length := by omega
    have hll := sps_len (l := l)
    clear hi h1i hjc
    by_cases hl0 : l.length = 0
    · have hj0 : j.length = 0 := by omega
      have hl0' : (l.length : Int) = 0 := by omega
      have hj0' : (j.length : Int) = 0 := by omega
      have hi0 : ¬ (i : Int) < 0 := by omega
      clear hl30 hjl hl0 hj0 hswap
      repeat' (first
    | exact True.intro
    | refine VW.seq ?_
    | refine VW.block ?_
    | ((first | refine VW.skip ?_ | refine VW.exit ?_ | refine VW.reg ?_ | refine VW.regD ?_ | refine VW.ret ?_ | show goA _ _ _ _ _ _ _ _ _ _ | show goB _ _ _ _ _ _ _ _ _ | show goAD _ _ _ _ _ _ _ _ _ _ _ _ _ _ | show goBD _ _ _ _ _ _ _ _ _ _ _ | refine VC.p0 (h12 _) ?_); refine sx ?_)
    | refine VW.condT cx ?_
    | refine VW.condF cx ?_
    | refine VW.cond ex ?_ ?_
    | refine imp_nt ?_
    | refine imp_nf ?_
    | refine imp_dt (fun _ => ?_)
    | refine imp_df (fun _ => ?_)
    | (refine fun (_ : _ = true) => ?_)
    | (refine fun (_ : _ = false) => ?_)
    | refine vg_t ?_ ?_
    | refine vg_f ?_ ?_)
      exact .tmp1 (cx) rfl
    · have hl0' : ¬ (l.length : Int) = 0 := by omega
      obtain ⟨a, ha, hal⟩ : ∃ a : Nat, x0.tmod (l.length : Int) = (a : Int) ∧ a < l.length := by
        refine ⟨x0.toNat % l.length, ?_, Nat.mod_lt _ (by omega)⟩
        rw [Int.tmod_eq_emod_of_nonneg hx0.1, Int.natCast_emod, Int.toNat_of_nonneg hx0.1]
      obtain ⟨c, hc, hcl⟩ : ∃ a : Nat, x1.tmod (l.length : Int) = (a : Int) ∧ a < l.length := by
        refine ⟨x1.toNat % l.length, ?_, Nat.mod_lt _ (by omega)⟩
        rw [Int.tmod_eq_emod_of_nonneg hx1.1, Int.natCast_emod, Int.toNat_of_nonneg hx1.1]
      obtain ⟨x, hx⟩ := get_of hal
      obtain ⟨y, hy⟩ := get_of hcl
      have hsw := hswap a c x y hx hy
      have hmlen : ((l.set a y).set c x).length = l.length := by simp
      have h11m := h11 ((l.set a y).set c x) (by omega)
      rw [hsw] at h11m
      have hx' : (sps l)[a]? = some [.int .i64 x.1, .int .i64 x.2] := by rw [sps_get, hx]; rfl
      have hy' : (sps l)[c]? = some [.int .i64 y.1, .int .i64 y.2] := by rw [sps_get, hy]; rfl
      have hset : ((sps l).set a [.int .i64 y.1, .int .i64 y.2])[c]? = some [.int .i64 y.1, .int .i64 y.2] := by
        rw [List.getElem?_set]
        by_cases hac : a = c
        · subst hac; simp [hll, hal]
        · simp [hac, hy']
      have hsl : ((sps l).set a [.int .i64 y.1, .int .i64 y.2]).length = l.length := by simp [hll]
      have hyl : allLen 2 (sps l) := fun q hq => by simp only [sps, List.mem_map] at hq; obtain ⟨z, _, rfl⟩ := hq; rfl
      have hfl : l.length * 16 ≤ 140737488355328 := by omega
      have c0 : IntKind.i64.wrap x0 = x0 := IntWalk.i64_in _ (by omega)
      have c1 : IntKind.i64.wrap x1 = x1 := IntWalk.i64_in _ (by omega)
      have a00 : (0 : Int) ≤ a := by omega
      have c00 : (0 : Int) ≤ c := by omega
      have atn : (a : Int).toNat = a := Int.toNat_natCast a
      have ctn : (c : Int).toNat = c := Int.toNat_natCast c
      have hmm : sps ((l.set a y).set c x) = ((sps l).set a [.int .i64 y.1, .int .i64 y.2]).set c [.int .i64 x.1, .int .i64 x.2] := by simp [sps, isp, List.map_set]
      clear hswap hx hy hl0 hl30 hjl hx0 hx1 hsw h11
      repeat' (first
    | exact True.intro
    | refine VW.seq ?_
    | refine VW.block ?_
    | ((first | refine VW.skip ?_ | refine VW.exit ?_ | refine VW.reg ?_ | refine VW.regD ?_ | refine VW.ret ?_ | show goA _ _ _ _ _ _ _ _ _ _ | show goB _ _ _ _ _ _ _ _ _ | show goAD _ _ _ _ _ _ _ _ _ _ _ _ _ _ | show goBD _ _ _ _ _ _ _ _ _ _ _ | refine VC.p0 (h12 _) ?_ | refine VC.p1 (h11j _) rfl rfl ?_ | refine VC.p2 (h13j _) rfl rfl rfl rfl ?_); refine sx ?_)
    | refine VW.condT cx ?_
    | refine VW.condF cx ?_
    | refine VW.cond ex ?_ ?_
    | refine imp_nt ?_
    | refine imp_nf ?_
    | refine imp_dt (fun _ => ?_)
    | refine imp_df (fun _ => ?_)
    | (refine fun (_ : _ = true) => ?_)
    | (refine fun (_ : _ = false) => ?_)
    | refine vg_t ?_ ?_
    | refine vg_f ?_ ?_)
      repeat' (first
    | exact True.intro
    | refine VW.seq ?_
    | refine VW.block ?_
    | ((first | refine VW.skip ?_ | refine VW.exit ?_ | refine VW.reg ?_ | refine VW.regD ?_ | refine VW.ret ?_ | show goA _ _ _ _ _ _ _ _ _ _ | show goB _ _ _ _ _ _ _ _ _ | show goAD _ _ _ _ _ _ _ _ _ _ _ _ _ _ | show goBD _ _ _ _ _ _ _ _ _ _ _ | refine VC.p0 (h12 _) ?_ | refine VC.p1 (h11j _) rfl rfl ?_ | refine VC.p2 (h13j _) rfl rfl rfl rfl ?_); refine sx ?_)
    | refine VW.condT cx ?_
    | refine VW.condF cx ?_
    | refine VW.cond ex ?_ ?_
    | refine imp_nt ?_
    | refine imp_nf ?_
    | refine imp_dt (fun _ => ?_)
    | refine imp_df (fun _ => ?_)
    | (refine fun (_ : _ = true) => ?_)
    | (refine fun (_ : _ = false) => ?_)
    | refine vg_t ?_ ?_
    | refine vg_f ?_ ?_)
      refine VC.o1 rfl (ex) (ex) (h11m _) (by simp [hsl]) hmm ?_
      refine sx ?_
      repeat' (first
    | exact True.intro
    | refine VW.seq ?_
    | refine VW.block ?_
    | ((first | refine VW.skip ?_ | refine VW.exit ?_ | refine VW.reg ?_ | refine VW.regD ?_ | refine VW.ret ?_ | show goA _ _ _ _ _ _ _ _ _ _ | show goB _ _ _ _ _ _ _ _ _ | show goAD _ _ _ _ _ _ _ _ _ _ _ _ _ _ | show goBD _ _ _ _ _ _ _ _ _ _ _ | refine VC.p0 (h12 _) ?_ | refine VC.p1 (h11j _) rfl rfl ?_ | refine VC.p2 (h13j _) rfl rfl rfl rfl ?_); refine sx ?_)
    | refine VW.condT cx ?_
    | refine VW.condF cx ?_
    | refine VW.cond ex ?_ ?_
    | refine imp_nt ?_
    | refine imp_nf ?_
    | refine imp_dt (fun _ => ?_)
    | refine imp_df (fun _ => ?_)
    | (refine fun (_ : _ = true) => ?_)
    | (refine fun (_ : _ = false) => ?_)
    | refine vg_t ?_ ?_
    | refine vg_f ?_ ?_)
      exact .tmp1 (cx) rfl

end
theorem v3 (l : List Sp) (x0 x1 : Int) (hx0 : 0 ≤ x0 ∧ x0 ≤ 255) (hx1 : 0 ≤ x1 ∧ x1 ≤ 255) (b : Nat) : V Try.prog 3 [.sl (sps l), .agg [.int .u8 x0, .int .u8 x1]] mt b (.bool true) mt := V.code mixed k3 (by simp) (w3 v10 v11 v12 v13 l x0 x1 hx0 hx1 b)
end Go.Vx
