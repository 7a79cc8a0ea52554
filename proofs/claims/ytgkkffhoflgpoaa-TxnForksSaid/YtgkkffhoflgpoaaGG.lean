/- Walks of the manager's functions (txn), the third part: those with a loop. -/
import Derived.Test.YtgkkffhoflgpoaaGF
import Derived.Test.YtgkkffhoflgpoaaGD
set_option linter.unusedSimpArgs false
set_option linter.unusedVariables false
set_option maxRecDepth 4000
set_option maxHeartbeats 2000000
namespace Go.Vx
open Go Go.Proofs

/-- How many entries are not seen yet. -/
def unseen (n : Nat) (seen : List Nat) : Nat := ((List.range n).filter fun i => !seen.contains i).length
theorem unseen_lt {n i : Nat} {seen : List Nat} (hi : i < n) (hs : i ∉ seen) : unseen n (seen ++ [i]) < unseen n seen := by
  unfold unseen
  have key : ∀ l : List Nat, l.Nodup → i ∈ l → (l.filter fun j => !(seen ++ [i]).contains j).length < (l.filter fun j => !seen.contains j).length := by
    intro l
    induction l with
    | nil => intro _ h; cases h
    | cons x l ih =>
      intro hn h
      rw [List.nodup_cons] at hn
      have le : ∀ l : List Nat, (l.filter fun j => !(seen ++ [i]).contains j).length ≤ (l.filter fun j => !seen.contains j).length := fun l => by
        induction l with
        | nil => simp
        | cons y l ih2 =>
          simp only [List.filter_cons]
          by_cases h2 : y = i
          · subst h2; simp [hs] at ih2 ⊢; omega
          · by_cases h1 : y ∈ seen <;> simp [h1, h2] at ih2 ⊢ <;> omega
      have hle := le l
      simp only [List.filter_cons]
      by_cases hx : x = i
      · subst hx; simp [hs] at hle ⊢; omega
      · have := ih hn.2 (by simpa [Ne.symm hx] using h)
        by_cases h1 : x ∈ seen <;> simp [h1, hx] at this ⊢ <;> omega
  exact key _ List.nodup_range (by simpa using hi)

/-- Is a key written later? -/
def clash (wf : Str → Option Int) (s : Int) (k : Str) : Bool :=
  match wf k with
  | some a => decide (s < a)
  | none => false
def testF (ks : List Str) (wf : Str → Option Int) (s h : Int) : Int := if ks.any (clash wf s) then 13 else if h = 1073741824 then 4 else 0

theorem ne_of_obj {m : Mem} {i j : Nat} {o p : Obj} (h1 : m i = some o) (h2 : m j = some p) (h : o ≠ p) : (i = j) = False := by
  simp only [eq_iff_iff, iff_false]
  intro he; subst he; rw [h1] at h2; injection h2 with h2; exact h h2

section
variable {P : Program}

theorem w_testR (h1 : Opened P) (M b : Nat) (hM : M < b) (z : Int) (hi : z < 0 ∨ 4 ≤ z) : VW P c25 (PRet (Ends [.tmp 4] b (iv 2) mt)) (fun t => [PV.ptr M 15 0 0, iv z][t]?) mt b := by
  unfold c25
  obtain ⟨n1, n2, n3, n4, n5⟩ := below_ne hM
  repeat' (first
    | exact True.intro
    | refine VW.seq ?_
    | refine VW.block ?_
    | ((first | refine VW.skip ?_ | refine VW.exit ?_ | refine VW.reg ?_ | refine VW.regD ?_ | refine VW.ret ?_ | show goA _ _ _ _ _ _ _ _ _ _ | show goB _ _ _ _ _ _ _ _ _ | show goAD _ _ _ _ _ _ _ _ _ _ _ _ _ _ | show goBD _ _ _ _ _ _ _ _ _ _ _); refine sx ?_)
    | refine VW.condT cx ?_
    | refine VW.condF cx ?_
    | refine VW.cond ex ?_ ?_
    | refine imp_nt ?_
    | refine imp_nf ?_
    | refine imp_dt (fun _ => ?_)
    | refine imp_df (fun _ => ?_)
    | (refine fun (_ : _ = true) => ?_)
    | (refine fun (_ : _ = false) => ?_)
    | refine vg_t ?_ ?_
    | refine vg_f ?_ ?_)
  refine VC.openedR h1 (by omega) hi ?_
  refine sx ?_
  repeat' (first
    | exact True.intro
    | refine VW.seq ?_
    | refine VW.block ?_
    | ((first | refine VW.skip ?_ | refine VW.exit ?_ | refine VW.reg ?_ | refine VW.regD ?_ | refine VW.ret ?_ | show goA _ _ _ _ _ _ _ _ _ _ | show goB _ _ _ _ _ _ _ _ _ | show goAD _ _ _ _ _ _ _ _ _ _ _ _ _ _ | show goBD _ _ _ _ _ _ _ _ _ _ _); refine sx ?_)
    | refine VW.condT cx ?_
    | refine VW.condF cx ?_
    | refine VW.cond ex ?_ ?_
    | refine imp_nt ?_
    | refine imp_nf ?_
    | refine imp_dt (fun _ => ?_)
    | refine imp_df (fun _ => ?_)
    | (refine fun (_ : _ = true) => ?_)
    | (refine fun (_ : _ = false) => ?_)
    | refine vg_t ?_ ?_
    | refine vg_f ?_ ?_)
  exact .v exR exR
theorem w_test0 (h1 : Opened P) (M b : Nat) (hM : M < b) (g : Mg) (hg : g.ok b) (z : Int) (i : Nat) (hi : Ix z i) (ho : (g.get i).o = false) (m : Mem) (hm : m M = some g.box) : VW P c25 (PRet (Ends [.tmp 4] b (iv 7) (ofL [(M, g.box)]))) (fun t => [PV.ptr M 15 0 0, iv z][t]?) m b := by
  unfold c25
  obtain ⟨n1, n2, n3, n4, n5⟩ := below_ne hM
  have hk := one_keep hM hm hg
  repeat' (first
    | exact True.intro
    | refine VW.seq ?_
    | refine VW.block ?_
    | ((first | refine VW.skip ?_ | refine VW.exit ?_ | refine VW.reg ?_ | refine VW.regD ?_ | refine VW.ret ?_ | show goA _ _ _ _ _ _ _ _ _ _ | show goB _ _ _ _ _ _ _ _ _ | show goAD _ _ _ _ _ _ _ _ _ _ _ _ _ _ | show goBD _ _ _ _ _ _ _ _ _ _ _); refine sx ?_)
    | refine VW.condT cx ?_
    | refine VW.condF cx ?_
    | refine VW.cond ex ?_ ?_
    | refine imp_nt ?_
    | refine imp_nf ?_
    | refine imp_dt (fun _ => ?_)
    | refine imp_df (fun _ => ?_)
    | (refine fun (_ : _ = true) => ?_)
    | (refine fun (_ : _ = false) => ?_)
    | refine vg_t ?_ ?_
    | refine vg_f ?_ ?_)
  refine VC.opened h1 (by omega) hi (hg.mono (by omega)) hm ?_
  refine sx ?_
  repeat' (first
    | exact True.intro
    | refine VW.seq ?_
    | refine VW.block ?_
    | ((first | refine VW.skip ?_ | refine VW.exit ?_ | refine VW.reg ?_ | refine VW.regD ?_ | refine VW.ret ?_ | show goA _ _ _ _ _ _ _ _ _ _ | show goB _ _ _ _ _ _ _ _ _ | show goAD _ _ _ _ _ _ _ _ _ _ _ _ _ _ | show goBD _ _ _ _ _ _ _ _ _ _ _); refine sx ?_)
    | refine VW.condT cx ?_
    | refine VW.condF cx ?_
    | refine VW.cond ex ?_ ?_
    | refine imp_nt ?_
    | refine imp_nf ?_
    | refine imp_dt (fun _ => ?_)
    | refine imp_df (fun _ => ?_)
    | (refine fun (_ : _ = true) => ?_)
    | (refine fun (_ : _ = false) => ?_)
    | refine vg_t ?_ ?_
    | refine vg_f ?_ ?_)
  exact .keep exR cxL hk

def JT (g : Mg) (s : Int) (p M W K : Nat) (es2 : List (PV × PV)) (ks : List Str) (wf : Str → Option Int) (k : Nat) (e : Env) (m : Mem) (nx : Nat) : Prop :=
  ∃ it seen last, e 23 = some (.ptr it 0 0 0) ∧ e 5 = some (.ptr M 15 0 p) ∧ e 0 = some (.ptr M 15 0 0) ∧ m it = some (.iter (some K) ks.length seen last) ∧ last ≤ ks.length ∧ k = unseen ks.length seen ∧
    (∀ j ∈ seen, ∀ x, ks[j]? = some x → clash wf s x = false) ∧ m M = some g.box ∧ m W = some (.map es2) ∧ m K = some (.map (kmap ks))

theorem w_test1 (h1 : Opened P) (M W K b : Nat) (hM : M < b) (hW : W < b) (hK : K < b) (g : Mg) (hg : g.ok b) (z : Int) (i : Nat) (hi : Ix z i) (ho : (g.get i).o = true) (hgk : (g.get i).k = .map K) (hgw : g.w = .map W) (hWK : W ≠ K)
    (ks : List Str) (es2 : List (PV × PV)) (he2 : flatM es2) (wf : Str → Option Int) (hwf : Wr es2 wf) (m : Mem) (hm : m M = some g.box) (hmk : m K = some (.map (kmap ks))) (hmw : m W = some (.map es2)) :
    VW P c25 (PRet (Ends [.tmp 4] b (iv (testF ks wf (g.get i).s g.h)) (ofL [(M, g.box), (W, .map es2), (K, .map (kmap ks))]))) (fun t => [PV.ptr M 15 0 0, iv z][t]?) m b := by
  unfold c25
  obtain ⟨n1, n2, n3, n4, n5⟩ := below_ne hM
  obtain ⟨k1, k2, k3, k4, k5⟩ := below_ne hK
  obtain ⟨l1, l2, l3, l4, l5⟩ := below_ne hW
  have hlen : (kmap ks).length = ks.length := by simp [kmap]
  have hk3 : ∀ m' : Mem, m' M = some g.box → m' W = some (.map es2) → m' K = some (.map (kmap ks)) → ∀ x ∈ [(M, g.box), (W, .map es2), (K, .map (kmap ks))], m' x.1 = some x.2 ∧ x.1 < b ∧ x.2.lt (b + 8) = true ∧ x.2.fix b = true := fun m' g1 g2 g3 =>
    three_keep hM hW hK g1 g2 g3 (Mg.blt hg) (flatM_lt he2).1 kmap_lt.1 rfl (flatM_lt he2).2 kmap_lt.2
  repeat' (first
    | exact True.intro
    | refine VW.seq ?_
    | refine VW.block ?_
    | ((first | refine VW.skip ?_ | refine VW.exit ?_ | refine VW.reg ?_ | refine VW.regD ?_ | refine VW.ret ?_ | show goA _ _ _ _ _ _ _ _ _ _ | show goB _ _ _ _ _ _ _ _ _ | show goAD _ _ _ _ _ _ _ _ _ _ _ _ _ _ | show goBD _ _ _ _ _ _ _ _ _ _ _); refine sx ?_)
    | refine VW.condT cx ?_
    | refine VW.condF cx ?_
    | refine VW.cond ex ?_ ?_
    | refine imp_nt ?_
    | refine imp_nf ?_
    | refine imp_dt (fun _ => ?_)
    | refine imp_df (fun _ => ?_)
    | (refine fun (_ : _ = true) => ?_)
    | (refine fun (_ : _ = false) => ?_)
    | refine vg_t ?_ ?_
    | refine vg_f ?_ ?_)
  refine VC.opened h1 (by omega) hi (hg.mono (by omega)) hm ?_
  refine sx ?_
  rcases hi.four with ⟨rfl, rfl⟩ | ⟨rfl, rfl⟩ | ⟨rfl, rfl⟩ | ⟨rfl, rfl⟩
  · simp only [Mg.get] at ho hgk ⊢
    repeat' (first
    | exact True.intro
    | refine VW.seq ?_
    | refine VW.block ?_
    | ((first | refine VW.skip ?_ | refine VW.exit ?_ | refine VW.reg ?_ | refine VW.regD ?_ | refine VW.ret ?_ | show goA _ _ _ _ _ _ _ _ _ _ | show goB _ _ _ _ _ _ _ _ _ | show goAD _ _ _ _ _ _ _ _ _ _ _ _ _ _ | show goBD _ _ _ _ _ _ _ _ _ _ _); refine sx ?_)
    | refine VW.condT cx ?_
    | refine VW.condF cx ?_
    | refine VW.cond ex ?_ ?_
    | refine imp_nt ?_
    | refine imp_nf ?_
    | refine imp_dt (fun _ => ?_)
    | refine imp_df (fun _ => ?_)
    | (refine fun (_ : _ = true) => ?_)
    | (refine fun (_ : _ = false) => ?_)
    | refine vg_t ?_ ?_
    | refine vg_f ?_ ?_)
    refine VW.loop (JT g g.a0.s 2 M W K es2 ks wf) _ ⟨_, [], _, by simp -implicitDefEqProofs only [eng, reduceIte, reduceCtorEq, Nat.reduceAdd, Nat.reduceMul, Nat.reduceSub, Nat.reduceEqDiff, Nat.reduceLeDiff, Nat.reduceLT, Nat.reduceDiv, Nat.reduceMod, Int.reduceLE, Int.reduceLT, Int.reduceEq, Int.reduceNeg, Int.reduceAdd, Int.reduceSub, Int.reduceToNat, Nat.reducePow, Int.ofNat_zero, Int.natCast_one, Int.cast_ofNat_Int]; rfl, cy, cy, cx, Nat.le_refl _, rfl, by simp, cx, cx, cx⟩ ?_
    clear hm hmk hmw m
    rintro k e m nx ⟨it, seen, last, e23, e5, e0, hit, hlast, rfl, hseen, hm, hmw, hmk⟩
    have q1 := ne_of_obj hm hit (by simp)
    have q2 := ne_of_obj hmw hit (by simp)
    have q3 := ne_of_obj hmk hit (by simp)
    have q4 := ne_of_obj hit hmk (by simp)
    repeat' (first
    | exact True.intro
    | refine VW.seq ?_
    | refine VW.block ?_
    | ((first | refine VW.skip ?_ | refine VW.exit ?_ | refine VW.reg ?_ | refine VW.regD ?_ | refine VW.ret ?_ | show goA _ _ _ _ _ _ _ _ _ _ | show goB _ _ _ _ _ _ _ _ _ | show goAD _ _ _ _ _ _ _ _ _ _ _ _ _ _ | show goBD _ _ _ _ _ _ _ _ _ _ _); refine sx ?_)
    | refine VW.condT cx ?_
    | refine VW.condF cx ?_
    | refine VW.cond ex ?_ ?_
    | refine imp_nt ?_
    | refine imp_nf ?_
    | refine imp_dt (fun _ => ?_)
    | refine imp_df (fun _ => ?_)
    | (refine fun (_ : _ = true) => ?_)
    | (refine fun (_ : _ = false) => ?_)
    | refine vg_t ?_ ?_
    | refine vg_f ?_ ?_)
    refine ⟨fun j r hj hr => ?_, fun hall => ?_⟩
    · obtain ⟨x, hx, rfl⟩ : ∃ x, ks[j]? = some x ∧ r = (.str x, .bool true) := by
        simp only [kmap, List.getElem?_map, Option.map_eq_some_iff] at hr
        obtain ⟨x, h1, h2⟩ := hr
        exact ⟨x, h1, h2.symm⟩
      have hjl : j < ks.length := (List.getElem?_eq_some_iff.1 hx).1
      have hgl : (seen ++ [j]).getLast? = some j := by simp
      have hlt := unseen_lt hjl hj
      obtain ⟨ro, hro, hrv⟩ := hwf x
      have next : clash wf g.a0.s x = false → ∀ y ∈ seen ++ [j], ∀ x', ks[y]? = some x' → clash wf g.a0.s x' = false := fun hc y hy x' hx' => by
        rcases List.mem_append.1 hy with h | h
        · exact hseen y h x' hx'
        · simp at h; subst h; rw [hx] at hx'; injection hx' with hx'; exact hx' ▸ hc
      cases hwx : wf x with
      | none =>
        obtain rfl : ro = none := by rw [hwx] at hrv; simpa using hrv
        have hc : clash wf g.a0.s x = false := by simp [clash, hwx]
        clear hrv hwx
        have hnx := next hc
        repeat' (first
    | exact True.intro
    | refine VW.seq ?_
    | refine VW.block ?_
    | ((first | refine VW.skip ?_ | refine VW.exit ?_ | refine VW.reg ?_ | refine VW.regD ?_ | refine VW.ret ?_ | show goA _ _ _ _ _ _ _ _ _ _ | show goB _ _ _ _ _ _ _ _ _ | show goAD _ _ _ _ _ _ _ _ _ _ _ _ _ _ | show goBD _ _ _ _ _ _ _ _ _ _ _); refine sx ?_)
    | refine VW.condT cx ?_
    | refine VW.condF cx ?_
    | refine VW.cond ex ?_ ?_
    | refine imp_nt ?_
    | refine imp_nf ?_
    | refine imp_dt (fun _ => ?_)
    | refine imp_df (fun _ => ?_)
    | (refine fun (_ : _ = true) => ?_)
    | (refine fun (_ : _ = false) => ?_)
    | refine vg_t ?_ ?_
    | refine vg_f ?_ ?_)
        exact ⟨_, hlt, it, seen ++ [j], ks.length, cx, cx, cx, cx, Nat.le_refl _, rfl, hnx, cx, cx, cx⟩
      | some a =>
        obtain ⟨qi, rfl⟩ : ∃ qi, ro = some (qi, iv a) := by
          rw [hwx] at hrv
          cases ro with
          | none => simp at hrv
          | some y => simp at hrv; exact ⟨y.1, by rw [← hrv]⟩
        have hss : ∀ q : Nat × PV, (some q).isSome = true := fun _ => rfl
        by_cases has : g.a0.s < a
        · have hT : testF ks wf g.a0.s g.h = 13 := by
            have : ks.any (clash wf g.a0.s) = true := List.any_eq_true.2 ⟨x, List.mem_of_getElem? hx, by simp [clash, hwx, has]⟩
            simp [testF, this]
          clear hrv hwx
          repeat' (first
    | exact True.intro
    | refine VW.seq ?_
    | refine VW.block ?_
    | ((first | refine VW.skip ?_ | refine VW.exit ?_ | refine VW.reg ?_ | refine VW.regD ?_ | refine VW.ret ?_ | show goA _ _ _ _ _ _ _ _ _ _ | show goB _ _ _ _ _ _ _ _ _ | show goAD _ _ _ _ _ _ _ _ _ _ _ _ _ _ | show goBD _ _ _ _ _ _ _ _ _ _ _); refine sx ?_)
    | refine VW.condT cx ?_
    | refine VW.condF cx ?_
    | refine VW.cond ex ?_ ?_
    | refine imp_nt ?_
    | refine imp_nf ?_
    | refine imp_dt (fun _ => ?_)
    | refine imp_df (fun _ => ?_)
    | (refine fun (_ : _ = true) => ?_)
    | (refine fun (_ : _ = false) => ?_)
    | refine vg_t ?_ ?_
    | refine vg_f ?_ ?_)
          exact .keep exR cxL (hk3 _ (cx) (cx) (cx))
        · have hc : clash wf g.a0.s x = false := by simp [clash, hwx]; omega
          have hnx := next hc
          clear hrv hwx
          repeat' (first
    | exact True.intro
    | refine VW.seq ?_
    | refine VW.block ?_
    | ((first | refine VW.skip ?_ | refine VW.exit ?_ | refine VW.reg ?_ | refine VW.regD ?_ | refine VW.ret ?_ | show goA _ _ _ _ _ _ _ _ _ _ | show goB _ _ _ _ _ _ _ _ _ | show goAD _ _ _ _ _ _ _ _ _ _ _ _ _ _ | show goBD _ _ _ _ _ _ _ _ _ _ _); refine sx ?_)
    | refine VW.condT cx ?_
    | refine VW.condF cx ?_
    | refine VW.cond ex ?_ ?_
    | refine imp_nt ?_
    | refine imp_nf ?_
    | refine imp_dt (fun _ => ?_)
    | refine imp_df (fun _ => ?_)
    | (refine fun (_ : _ = true) => ?_)
    | (refine fun (_ : _ = false) => ?_)
    | refine vg_t ?_ ?_
    | refine vg_f ?_ ?_)
          exact ⟨_, hlt, it, seen ++ [j], ks.length, cx, cx, cx, cx, Nat.le_refl _, rfl, hnx, cx, cx, cx⟩
    · have hno : ks.any (clash wf g.a0.s) = false := by
        rw [List.any_eq_false]
        intro x hx
        obtain ⟨j, hj⟩ := List.mem_iff_getElem?.1 hx
        have hjl := (List.getElem?_eq_some_iff.1 hj).1
        have := hseen j (hall j hjl hjl) x hj
        simp [this]
      by_cases hh : g.h = 1073741824
      · have hT : testF ks wf g.a0.s 1073741824 = 4 := by simp [testF, hno]
        repeat' (first
    | exact True.intro
    | refine VW.seq ?_
    | refine VW.block ?_
    | ((first | refine VW.skip ?_ | refine VW.exit ?_ | refine VW.reg ?_ | refine VW.regD ?_ | refine VW.ret ?_ | show goA _ _ _ _ _ _ _ _ _ _ | show goB _ _ _ _ _ _ _ _ _ | show goAD _ _ _ _ _ _ _ _ _ _ _ _ _ _ | show goBD _ _ _ _ _ _ _ _ _ _ _); refine sx ?_)
    | refine VW.condT cx ?_
    | refine VW.condF cx ?_
    | refine VW.cond ex ?_ ?_
    | refine imp_nt ?_
    | refine imp_nf ?_
    | refine imp_dt (fun _ => ?_)
    | refine imp_df (fun _ => ?_)
    | (refine fun (_ : _ = true) => ?_)
    | (refine fun (_ : _ = false) => ?_)
    | refine vg_t ?_ ?_
    | refine vg_f ?_ ?_)
        exact .keep exR cxL (hk3 _ hm hmw hmk)
      · have hT : testF ks wf g.a0.s g.h = 0 := by simp [testF, hno, hh]
        repeat' (first
    | exact True.intro
    | refine VW.seq ?_
    | refine VW.block ?_
    | ((first | refine VW.skip ?_ | refine VW.exit ?_ | refine VW.reg ?_ | refine VW.regD ?_ | refine VW.ret ?_ | show goA _ _ _ _ _ _ _ _ _ _ | show goB _ _ _ _ _ _ _ _ _ | show goAD _ _ _ _ _ _ _ _ _ _ _ _ _ _ | show goBD _ _ _ _ _ _ _ _ _ _ _); refine sx ?_)
    | refine VW.condT cx ?_
    | refine VW.condF cx ?_
    | refine VW.cond ex ?_ ?_
    | refine imp_nt ?_
    | refine imp_nf ?_
    | refine imp_dt (fun _ => ?_)
    | refine imp_df (fun _ => ?_)
    | (refine fun (_ : _ = true) => ?_)
    | (refine fun (_ : _ = false) => ?_)
    | refine vg_t ?_ ?_
    | refine vg_f ?_ ?_)
        exact .keep exR cxL (hk3 _ hm hmw hmk)
  · simp only [Mg.get] at ho hgk ⊢
    repeat' (first
    | exact True.intro
    | refine VW.seq ?_
    | refine VW.block ?_
    | ((first | refine VW.skip ?_ | refine VW.exit ?_ | refine VW.reg ?_ | refine VW.regD ?_ | refine VW.ret ?_ | show goA _ _ _ _ _ _ _ _ _ _ | show goB _ _ _ _ _ _ _ _ _ | show goAD _ _ _ _ _ _ _ _ _ _ _ _ _ _ | show goBD _ _ _ _ _ _ _ _ _ _ _); refine sx ?_)
    | refine VW.condT cx ?_
    | refine VW.condF cx ?_
    | refine VW.cond ex ?_ ?_
    | refine imp_nt ?_
    | refine imp_nf ?_
    | refine imp_dt (fun _ => ?_)
    | refine imp_df (fun _ => ?_)
    | (refine fun (_ : _ = true) => ?_)
    | (refine fun (_ : _ = false) => ?_)
    | refine vg_t ?_ ?_
    | refine vg_f ?_ ?_)
    refine VW.loop (JT g g.a1.s 5 M W K es2 ks wf) _ ⟨_, [], _, by simp -implicitDefEqProofs only [eng, reduceIte, reduceCtorEq, Nat.reduceAdd, Nat.reduceMul, Nat.reduceSub, Nat.reduceEqDiff, Nat.reduceLeDiff, Nat.reduceLT, Nat.reduceDiv, Nat.reduceMod, Int.reduceLE, Int.reduceLT, Int.reduceEq, Int.reduceNeg, Int.reduceAdd, Int.reduceSub, Int.reduceToNat, Nat.reducePow, Int.ofNat_zero, Int.natCast_one, Int.cast_ofNat_Int]; rfl, cy, cy, cx, Nat.le_refl _, rfl, by simp, cx, cx, cx⟩ ?_
    clear hm hmk hmw m
    rintro k e m nx ⟨it, seen, last, e23, e5, e0, hit, hlast, rfl, hseen, hm, hmw, hmk⟩
    have q1 := ne_of_obj hm hit (by simp)
    have q2 := ne_of_obj hmw hit (by simp)
    have q3 := ne_of_obj hmk hit (by simp)
    have q4 := ne_of_obj hit hmk (by simp)
    repeat' (first
    | exact True.intro
    | refine VW.seq ?_
    | refine VW.block ?_
    | ((first | refine VW.skip ?_ | refine VW.exit ?_ | refine VW.reg ?_ | refine VW.regD ?_ | refine VW.ret ?_ | show goA _ _ _ _ _ _ _ _ _ _ | show goB _ _ _ _ _ _ _ _ _ | show goAD _ _ _ _ _ _ _ _ _ _ _ _ _ _ | show goBD _ _ _ _ _ _ _ _ _ _ _); refine sx ?_)
    | refine VW.condT cx ?_
    | refine VW.condF cx ?_
    | refine VW.cond ex ?_ ?_
    | refine imp_nt ?_
    | refine imp_nf ?_
    | refine imp_dt (fun _ => ?_)
    | refine imp_df (fun _ => ?_)
    | (refine fun (_ : _ = true) => ?_)
    | (refine fun (_ : _ = false) => ?_)
    | refine vg_t ?_ ?_
    | refine vg_f ?_ ?_)
    refine ⟨fun j r hj hr => ?_, fun hall => ?_⟩
    · obtain ⟨x, hx, rfl⟩ : ∃ x, ks[j]? = some x ∧ r = (.str x, .bool true) := by
        simp only [kmap, List.getElem?_map, Option.map_eq_some_iff] at hr
        obtain ⟨x, h1, h2⟩ := hr
        exact ⟨x, h1, h2.symm⟩
      have hjl : j < ks.length := (List.getElem?_eq_some_iff.1 hx).1
      have hgl : (seen ++ [j]).getLast? = some j := by simp
      have hlt := unseen_lt hjl hj
      obtain ⟨ro, hro, hrv⟩ := hwf x
      have next : clash wf g.a1.s x = false → ∀ y ∈ seen ++ [j], ∀ x', ks[y]? = some x' → clash wf g.a1.s x' = false := fun hc y hy x' hx' => by
        rcases List.mem_append.1 hy with h | h
        · exact hseen y h x' hx'
        · simp at h; subst h; rw [hx] at hx'; injection hx' with hx'; exact hx' ▸ hc
      cases hwx : wf x with
      | none =>
        obtain rfl : ro = none := by rw [hwx] at hrv; simpa using hrv
        have hc : clash wf g.a1.s x = false := by simp [clash, hwx]
        clear hrv hwx
        have hnx := next hc
        repeat' (first
    | exact True.intro
    | refine VW.seq ?_
    | refine VW.block ?_
    | ((first | refine VW.skip ?_ | refine VW.exit ?_ | refine VW.reg ?_ | refine VW.regD ?_ | refine VW.ret ?_ | show goA _ _ _ _ _ _ _ _ _ _ | show goB _ _ _ _ _ _ _ _ _ | show goAD _ _ _ _ _ _ _ _ _ _ _ _ _ _ | show goBD _ _ _ _ _ _ _ _ _ _ _); refine sx ?_)
    | refine VW.condT cx ?_
    | refine VW.condF cx ?_
    | refine VW.cond ex ?_ ?_
    | refine imp_nt ?_
    | refine imp_nf ?_
    | refine imp_dt (fun _ => ?_)
    | refine imp_df (fun _ => ?_)
    | (refine fun (_ : _ = true) => ?_)
    | (refine fun (_ : _ = false) => ?_)
    | refine vg_t ?_ ?_
    | refine vg_f ?_ ?_)
        exact ⟨_, hlt, it, seen ++ [j], ks.length, cx, cx, cx, cx, Nat.le_refl _, rfl, hnx, cx, cx, cx⟩
      | some a =>
        obtain ⟨qi, rfl⟩ : ∃ qi, ro = some (qi, iv a) := by
          rw [hwx] at hrv
          cases ro with
          | none => simp at hrv
          | some y => simp at hrv; exact ⟨y.1, by rw [← hrv]⟩
        have hss : ∀ q : Nat × PV, (some q).isSome = true := fun _ => rfl
        by_cases has : g.a1.s < a
        · have hT : testF ks wf g.a1.s g.h = 13 := by
            have : ks.any (clash wf g.a1.s) = true := List.any_eq_true.2 ⟨x, List.mem_of_getElem? hx, by simp [clash, hwx, has]⟩
            simp [testF, this]
          clear hrv hwx
          repeat' (first
    | exact True.intro
    | refine VW.seq ?_
    | refine VW.block ?_
    | ((first | refine VW.skip ?_ | refine VW.exit ?_ | refine VW.reg ?_ | refine VW.regD ?_ | refine VW.ret ?_ | show goA _ _ _ _ _ _ _ _ _ _ | show goB _ _ _ _ _ _ _ _ _ | show goAD _ _ _ _ _ _ _ _ _ _ _ _ _ _ | show goBD _ _ _ _ _ _ _ _ _ _ _); refine sx ?_)
    | refine VW.condT cx ?_
    | refine VW.condF cx ?_
    | refine VW.cond ex ?_ ?_
    | refine imp_nt ?_
    | refine imp_nf ?_
    | refine imp_dt (fun _ => ?_)
    | refine imp_df (fun _ => ?_)
    | (refine fun (_ : _ = true) => ?_)
    | (refine fun (_ : _ = false) => ?_)
    | refine vg_t ?_ ?_
    | refine vg_f ?_ ?_)
          exact .keep exR cxL (hk3 _ (cx) (cx) (cx))
        · have hc : clash wf g.a1.s x = false := by simp [clash, hwx]; omega
          have hnx := next hc
          clear hrv hwx
          repeat' (first
    | exact True.intro
    | refine VW.seq ?_
    | refine VW.block ?_
    | ((first | refine VW.skip ?_ | refine VW.exit ?_ | refine VW.reg ?_ | refine VW.regD ?_ | refine VW.ret ?_ | show goA _ _ _ _ _ _ _ _ _ _ | show goB _ _ _ _ _ _ _ _ _ | show goAD _ _ _ _ _ _ _ _ _ _ _ _ _ _ | show goBD _ _ _ _ _ _ _ _ _ _ _); refine sx ?_)
    | refine VW.condT cx ?_
    | refine VW.condF cx ?_
    | refine VW.cond ex ?_ ?_
    | refine imp_nt ?_
    | refine imp_nf ?_
    | refine imp_dt (fun _ => ?_)
    | refine imp_df (fun _ => ?_)
    | (refine fun (_ : _ = true) => ?_)
    | (refine fun (_ : _ = false) => ?_)
    | refine vg_t ?_ ?_
    | refine vg_f ?_ ?_)
          exact ⟨_, hlt, it, seen ++ [j], ks.length, cx, cx, cx, cx, Nat.le_refl _, rfl, hnx, cx, cx, cx⟩
    · have hno : ks.any (clash wf g.a1.s) = false := by
        rw [List.any_eq_false]
        intro x hx
        obtain ⟨j, hj⟩ := List.mem_iff_getElem?.1 hx
        have hjl := (List.getElem?_eq_some_iff.1 hj).1
        have := hseen j (hall j hjl hjl) x hj
        simp [this]
      by_cases hh : g.h = 1073741824
      · have hT : testF ks wf g.a1.s 1073741824 = 4 := by simp [testF, hno]
        repeat' (first
    | exact True.intro
    | refine VW.seq ?_
    | refine VW.block ?_
    | ((first | refine VW.skip ?_ | refine VW.exit ?_ | refine VW.reg ?_ | refine VW.regD ?_ | refine VW.ret ?_ | show goA _ _ _ _ _ _ _ _ _ _ | show goB _ _ _ _ _ _ _ _ _ | show goAD _ _ _ _ _ _ _ _ _ _ _ _ _ _ | show goBD _ _ _ _ _ _ _ _ _ _ _); refine sx ?_)
    | refine VW.condT cx ?_
    | refine VW.condF cx ?_
    | refine VW.cond ex ?_ ?_
    | refine imp_nt ?_
    | refine imp_nf ?_
    | refine imp_dt (fun _ => ?_)
    | refine imp_df (fun _ => ?_)
    | (refine fun (_ : _ = true) => ?_)
    | (refine fun (_ : _ = false) => ?_)
    | refine vg_t ?_ ?_
    | refine vg_f ?_ ?_)
        exact .keep exR cxL (hk3 _ hm hmw hmk)
      · have hT : testF ks wf g.a1.s g.h = 0 := by simp [testF, hno, hh]
        repeat' (first
    | exact True.intro
    | refine VW.seq ?_
    | refine VW.block ?_
    | ((first | refine VW.skip ?_ | refine VW.exit ?_ | refine VW.reg ?_ | refine VW.regD ?_ | refine VW.ret ?_ | show goA _ _ _ _ _ _ _ _ _ _ | show goB _ _ _ _ _ _ _ _ _ | show goAD _ _ _ _ _ _ _ _ _ _ _ _ _ _ | show goBD _ _ _ _ _ _ _ _ _ _ _); refine sx ?_)
    | refine VW.condT cx ?_
    | refine VW.condF cx ?_
    | refine VW.cond ex ?_ ?_
    | refine imp_nt ?_
    | refine imp_nf ?_
    | refine imp_dt (fun _ => ?_)
    | refine imp_df (fun _ => ?_)
    | (refine fun (_ : _ = true) => ?_)
    | (refine fun (_ : _ = false) => ?_)
    | refine vg_t ?_ ?_
    | refine vg_f ?_ ?_)
        exact .keep exR cxL (hk3 _ hm hmw hmk)
  · simp only [Mg.get] at ho hgk ⊢
    repeat' (first
    | exact True.intro
    | refine VW.seq ?_
    | refine VW.block ?_
    | ((first | refine VW.skip ?_ | refine VW.exit ?_ | refine VW.reg ?_ | refine VW.regD ?_ | refine VW.ret ?_ | show goA _ _ _ _ _ _ _ _ _ _ | show goB _ _ _ _ _ _ _ _ _ | show goAD _ _ _ _ _ _ _ _ _ _ _ _ _ _ | show goBD _ _ _ _ _ _ _ _ _ _ _); refine sx ?_)
    | refine VW.condT cx ?_
    | refine VW.condF cx ?_
    | refine VW.cond ex ?_ ?_
    | refine imp_nt ?_
    | refine imp_nf ?_
    | refine imp_dt (fun _ => ?_)
    | refine imp_df (fun _ => ?_)
    | (refine fun (_ : _ = true) => ?_)
    | (refine fun (_ : _ = false) => ?_)
    | refine vg_t ?_ ?_
    | refine vg_f ?_ ?_)
    refine VW.loop (JT g g.a2.s 8 M W K es2 ks wf) _ ⟨_, [], _, by simp -implicitDefEqProofs only [eng, reduceIte, reduceCtorEq, Nat.reduceAdd, Nat.reduceMul, Nat.reduceSub, Nat.reduceEqDiff, Nat.reduceLeDiff, Nat.reduceLT, Nat.reduceDiv, Nat.reduceMod, Int.reduceLE, Int.reduceLT, Int.reduceEq, Int.reduceNeg, Int.reduceAdd, Int.reduceSub, Int.reduceToNat, Nat.reducePow, Int.ofNat_zero, Int.natCast_one, Int.cast_ofNat_Int]; rfl, cy, cy, cx, Nat.le_refl _, rfl, by simp, cx, cx, cx⟩ ?_
    clear hm hmk hmw m
    rintro k e m nx ⟨it, seen, last, e23, e5, e0, hit, hlast, rfl, hseen, hm, hmw, hmk⟩
    have q1 := ne_of_obj hm hit (by simp)
    have q2 := ne_of_obj hmw hit (by simp)
    have q3 := ne_of_obj hmk hit (by simp)
    have q4 := ne_of_obj hit hmk (by simp)
    repeat' (first
    | exact True.intro
    | refine VW.seq ?_
    | refine VW.block ?_
    | ((first | refine VW.skip ?_ | refine VW.exit ?_ | refine VW.reg ?_ | refine VW.regD ?_ | refine VW.ret ?_ | show goA _ _ _ _ _ _ _ _ _ _ | show goB _ _ _ _ _ _ _ _ _ | show goAD _ _ _ _ _ _ _ _ _ _ _ _ _ _ | show goBD _ _ _ _ _ _ _ _ _ _ _); refine sx ?_)
    | refine VW.condT cx ?_
    | refine VW.condF cx ?_
    | refine VW.cond ex ?_ ?_
    | refine imp_nt ?_
    | refine imp_nf ?_
    | refine imp_dt (fun _ => ?_)
    | refine imp_df (fun _ => ?_)
    | (refine fun (_ : _ = true) => ?_)
    | (refine fun (_ : _ = false) => ?_)
    | refine vg_t ?_ ?_
    | refine vg_f ?_ ?_)
    refine ⟨fun j r hj hr => ?_, fun hall => ?_⟩
    · obtain ⟨x, hx, rfl⟩ : ∃ x, ks[j]? = some x ∧ r = (.str x, .bool true) := by
        simp only [kmap, List.getElem?_map, Option.map_eq_some_iff] at hr
        obtain ⟨x, h1, h2⟩ := hr
        exact ⟨x, h1, h2.symm⟩
      have hjl : j < ks.length := (List.getElem?_eq_some_iff.1 hx).1
      have hgl : (seen ++ [j]).getLast? = some j := by simp
      have hlt := unseen_lt hjl hj
      obtain ⟨ro, hro, hrv⟩ := hwf x
      have next : clash wf g.a2.s x = false → ∀ y ∈ seen ++ [j], ∀ x', ks[y]? = some x' → clash wf g.a2.s x' = false := fun hc y hy x' hx' => by
        rcases List.mem_append.1 hy with h | h
        · exact hseen y h x' hx'
        · simp at h; subst h; rw [hx] at hx'; injection hx' with hx'; exact hx' ▸ hc
      cases hwx : wf x with
      | none =>
        obtain rfl : ro = none := by rw [hwx] at hrv; simpa using hrv
        have hc : clash wf g.a2.s x = false := by simp [clash, hwx]
        clear hrv hwx
        have hnx := next hc
        repeat' (first
    | exact True.intro
    | refine VW.seq ?_
    | refine VW.block ?_
    | ((first | refine VW.skip ?_ | refine VW.exit ?_ | refine VW.reg ?_ | refine VW.regD ?_ | refine VW.ret ?_ | show goA _ _ _ _ _ _ _ _ _ _ | show goB _ _ _ _ _ _ _ _ _ | show goAD _ _ _ _ _ _ _ _ _ _ _ _ _ _ | show goBD _ _ _ _ _ _ _ _ _ _ _); refine sx ?_)
    | refine VW.condT cx ?_
    | refine VW.condF cx ?_
    | refine VW.cond ex ?_ ?_
    | refine imp_nt ?_
    | refine imp_nf ?_
    | refine imp_dt (fun _ => ?_)
    | refine imp_df (fun _ => ?_)
    | (refine fun (_ : _ = true) => ?_)
    | (refine fun (_ : _ = false) => ?_)
    | refine vg_t ?_ ?_
    | refine vg_f ?_ ?_)
        exact ⟨_, hlt, it, seen ++ [j], ks.length, cx, cx, cx, cx, Nat.le_refl _, rfl, hnx, cx, cx, cx⟩
      | some a =>
        obtain ⟨qi, rfl⟩ : ∃ qi, ro = some (qi, iv a) := by
          rw [hwx] at hrv
          cases ro with
          | none => simp at hrv
          | some y => simp at hrv; exact ⟨y.1, by rw [← hrv]⟩
        have hss : ∀ q : Nat × PV, (some q).isSome = true := fun _ => rfl
        by_cases has : g.a2.s < a
        · have hT : testF ks wf g.a2.s g.h = 13 := by
            have : ks.any (clash wf g.a2.s) = true := List.any_eq_true.2 ⟨x, List.mem_of_getElem? hx, by simp [clash, hwx, has]⟩
            simp [testF, this]
          clear hrv hwx
          repeat' (first
    | exact True.intro
    | refine VW.seq ?_
    | refine VW.block ?_
    | ((first | refine VW.skip ?_ | refine VW.exit ?_ | refine VW.reg ?_ | refine VW.regD ?_ | refine VW.ret ?_ | show goA _ _ _ _ _ _ _ _ _ _ | show goB _ _ _ _ _ _ _ _ _ | show goAD _ _ _ _ _ _ _ _ _ _ _ _ _ _ | show goBD _ _ _ _ _ _ _ _ _ _ _); refine sx ?_)
    | refine VW.condT cx ?_
    | refine VW.condF cx ?_
    | refine VW.cond ex ?_ ?_
    | refine imp_nt ?_
    | refine imp_nf ?_
    | refine imp_dt (fun _ => ?_)
    | refine imp_df (fun _ => ?_)
    | (refine fun (_ : _ = true) => ?_)
    | (refine fun (_ : _ = false) => ?_)
    | refine vg_t ?_ ?_
    | refine vg_f ?_ ?_)
          exact .keep exR cxL (hk3 _ (cx) (cx) (cx))
        · have hc : clash wf g.a2.s x = false := by simp [clash, hwx]; omega
          have hnx := next hc
          clear hrv hwx
          repeat' (first
    | exact True.intro
    | refine VW.seq ?_
    | refine VW.block ?_
    | ((first | refine VW.skip ?_ | refine VW.exit ?_ | refine VW.reg ?_ | refine VW.regD ?_ | refine VW.ret ?_ | show goA _ _ _ _ _ _ _ _ _ _ | show goB _ _ _ _ _ _ _ _ _ | show goAD _ _ _ _ _ _ _ _ _ _ _ _ _ _ | show goBD _ _ _ _ _ _ _ _ _ _ _); refine sx ?_)
    | refine VW.condT cx ?_
    | refine VW.condF cx ?_
    | refine VW.cond ex ?_ ?_
    | refine imp_nt ?_
    | refine imp_nf ?_
    | refine imp_dt (fun _ => ?_)
    | refine imp_df (fun _ => ?_)
    | (refine fun (_ : _ = true) => ?_)
    | (refine fun (_ : _ = false) => ?_)
    | refine vg_t ?_ ?_
    | refine vg_f ?_ ?_)
          exact ⟨_, hlt, it, seen ++ [j], ks.length, cx, cx, cx, cx, Nat.le_refl _, rfl, hnx, cx, cx, cx⟩
    · have hno : ks.any (clash wf g.a2.s) = false := by
        rw [List.any_eq_false]
        intro x hx
        obtain ⟨j, hj⟩ := List.mem_iff_getElem?.1 hx
        have hjl := (List.getElem?_eq_some_iff.1 hj).1
        have := hseen j (hall j hjl hjl) x hj
        simp [this]
      by_cases hh : g.h = 1073741824
      · have hT : testF ks wf g.a2.s 1073741824 = 4 := by simp [testF, hno]
        repeat' (first
    | exact True.intro
    | refine VW.seq ?_
    | refine VW.block ?_
    | ((first | refine VW.skip ?_ | refine VW.exit ?_ | refine VW.reg ?_ | refine VW.regD ?_ | refine VW.ret ?_ | show goA _ _ _ _ _ _ _ _ _ _ | show goB _ _ _ _ _ _ _ _ _ | show goAD _ _ _ _ _ _ _ _ _ _ _ _ _ _ | show goBD _ _ _ _ _ _ _ _ _ _ _); refine sx ?_)
    | refine VW.condT cx ?_
    | refine VW.condF cx ?_
    | refine VW.cond ex ?_ ?_
    | refine imp_nt ?_
    | refine imp_nf ?_
    | refine imp_dt (fun _ => ?_)
    | refine imp_df (fun _ => ?_)
    | (refine fun (_ : _ = true) => ?_)
    | (refine fun (_ : _ = false) => ?_)
    | refine vg_t ?_ ?_
    | refine vg_f ?_ ?_)
        exact .keep exR cxL (hk3 _ hm hmw hmk)
      · have hT : testF ks wf g.a2.s g.h = 0 := by simp [testF, hno, hh]
        repeat' (first
    | exact True.intro
    | refine VW.seq ?_
    | refine VW.block ?_
    | ((first | refine VW.skip ?_ | refine VW.exit ?_ | refine VW.reg ?_ | refine VW.regD ?_ | refine VW.ret ?_ | show goA _ _ _ _ _ _ _ _ _ _ | show goB _ _ _ _ _ _ _ _ _ | show goAD _ _ _ _ _ _ _ _ _ _ _ _ _ _ | show goBD _ _ _ _ _ _ _ _ _ _ _); refine sx ?_)
    | refine VW.condT cx ?_
    | refine VW.condF cx ?_
    | refine VW.cond ex ?_ ?_
    | refine imp_nt ?_
    | refine imp_nf ?_
    | refine imp_dt (fun _ => ?_)
    | refine imp_df (fun _ => ?_)
    | (refine fun (_ : _ = true) => ?_)
    | (refine fun (_ : _ = false) => ?_)
    | refine vg_t ?_ ?_
    | refine vg_f ?_ ?_)
        exact .keep exR cxL (hk3 _ hm hmw hmk)
  · simp only [Mg.get] at ho hgk ⊢
    repeat' (first
    | exact True.intro
    | refine VW.seq ?_
    | refine VW.block ?_
    | ((first | refine VW.skip ?_ | refine VW.exit ?_ | refine VW.reg ?_ | refine VW.regD ?_ | refine VW.ret ?_ | show goA _ _ _ _ _ _ _ _ _ _ | show goB _ _ _ _ _ _ _ _ _ | show goAD _ _ _ _ _ _ _ _ _ _ _ _ _ _ | show goBD _ _ _ _ _ _ _ _ _ _ _); refine sx ?_)
    | refine VW.condT cx ?_
    | refine VW.condF cx ?_
    | refine VW.cond ex ?_ ?_
    | refine imp_nt ?_
    | refine imp_nf ?_
    | refine imp_dt (fun _ => ?_)
    | refine imp_df (fun _ => ?_)
    | (refine fun (_ : _ = true) => ?_)
    | (refine fun (_ : _ = false) => ?_)
    | refine vg_t ?_ ?_
    | refine vg_f ?_ ?_)
    refine VW.loop (JT g g.a3.s 11 M W K es2 ks wf) _ ⟨_, [], _, by simp -implicitDefEqProofs only [eng, reduceIte, reduceCtorEq, Nat.reduceAdd, Nat.reduceMul, Nat.reduceSub, Nat.reduceEqDiff, Nat.reduceLeDiff, Nat.reduceLT, Nat.reduceDiv, Nat.reduceMod, Int.reduceLE, Int.reduceLT, Int.reduceEq, Int.reduceNeg, Int.reduceAdd, Int.reduceSub, Int.reduceToNat, Nat.reducePow, Int.ofNat_zero, Int.natCast_one, Int.cast_ofNat_Int]; rfl, cy, cy, cx, Nat.le_refl _, rfl, by simp, cx, cx, cx⟩ ?_
    clear hm hmk hmw m
    rintro k e m nx ⟨it, seen, last, e23, e5, e0, hit, hlast, rfl, hseen, hm, hmw, hmk⟩
    have q1 := ne_of_obj hm hit (by simp)
    have q2 := ne_of_obj hmw hit (by simp)
    have q3 := ne_of_obj hmk hit (by simp)
    have q4 := ne_of_obj hit hmk (by simp)
    repeat' (first
    | exact True.intro
    | refine VW.seq ?_
    | refine VW.block ?_
    | ((first | refine VW.skip ?_ | refine VW.exit ?_ | refine VW.reg ?_ | refine VW.regD ?_ | refine VW.ret ?_ | show goA _ _ _ _ _ _ _ _ _ _ | show goB _ _ _ _ _ _ _ _ _ | show goAD _ _ _ _ _ _ _ _ _ _ _ _ _ _ | show goBD _ _ _ _ _ _ _ _ _ _ _); refine sx ?_)
    | refine VW.condT cx ?_
    | refine VW.condF cx ?_
    | refine VW.cond ex ?_ ?_
    | refine imp_nt ?_
    | refine imp_nf ?_
    | refine imp_dt (fun _ => ?_)
    | refine imp_df (fun _ => ?_)
    | (refine fun (_ : _ = true) => ?_)
    | (refine fun (_ : _ = false) => ?_)
    | refine vg_t ?_ ?_
    | refine vg_f ?_ ?_)
    refine ⟨fun j r hj hr => ?_, fun hall => ?_⟩
    · obtain ⟨x, hx, rfl⟩ : ∃ x, ks[j]? = some x ∧ r = (.str x, .bool true) := by
        simp only [kmap, List.getElem?_map, Option.map_eq_some_iff] at hr
        obtain ⟨x, h1, h2⟩ := hr
        exact ⟨x, h1, h2.symm⟩
      have hjl : j < ks.length := (List.getElem?_eq_some_iff.1 hx).1
      have hgl : (seen ++ [j]).getLast? = some j := by simp
      have hlt := unseen_lt hjl hj
      obtain ⟨ro, hro, hrv⟩ := hwf x
      have next : clash wf g.a3.s x = false → ∀ y ∈ seen ++ [j], ∀ x', ks[y]? = some x' → clash wf g.a3.s x' = false := fun hc y hy x' hx' => by
        rcases List.mem_append.1 hy with h | h
        · exact hseen y h x' hx'
        · simp at h; subst h; rw [hx] at hx'; injection hx' with hx'; exact hx' ▸ hc
      cases hwx : wf x with
      | none =>
        obtain rfl : ro = none := by rw [hwx] at hrv; simpa using hrv
        have hc : clash wf g.a3.s x = false := by simp [clash, hwx]
        clear hrv hwx
        have hnx := next hc
        repeat' (first
    | exact True.intro
    | refine VW.seq ?_
    | refine VW.block ?_
    | ((first | refine VW.skip ?_ | refine VW.exit ?_ | refine VW.reg ?_ | refine VW.regD ?_ | refine VW.ret ?_ | show goA _ _ _ _ _ _ _ _ _ _ | show goB _ _ _ _ _ _ _ _ _ | show goAD _ _ _ _ _ _ _ _ _ _ _ _ _ _ | show goBD _ _ _ _ _ _ _ _ _ _ _); refine sx ?_)
    | refine VW.condT cx ?_
    | refine VW.condF cx ?_
    | refine VW.cond ex ?_ ?_
    | refine imp_nt ?_
    | refine imp_nf ?_
    | refine imp_dt (fun _ => ?_)
    | refine imp_df (fun _ => ?_)
    | (refine fun (_ : _ = true) => ?_)
    | (refine fun (_ : _ = false) => ?_)
    | refine vg_t ?_ ?_
    | refine vg_f ?_ ?_)
        exact ⟨_, hlt, it, seen ++ [j], ks.length, cx, cx, cx, cx, Nat.le_refl _, rfl, hnx, cx, cx, cx⟩
      | some a =>
        obtain ⟨qi, rfl⟩ : ∃ qi, ro = some (qi, iv a) := by
          rw [hwx] at hrv
          cases ro with
          | none => simp at hrv
          | some y => simp at hrv; exact ⟨y.1, by rw [← hrv]⟩
        have hss : ∀ q : Nat × PV, (some q).isSome = true := fun _ => rfl
        by_cases has : g.a3.s < a
        · have hT : testF ks wf g.a3.s g.h = 13 := by
            have : ks.any (clash wf g.a3.s) = true := List.any_eq_true.2 ⟨x, List.mem_of_getElem? hx, by simp [clash, hwx, has]⟩
            simp [testF, this]
          clear hrv hwx
          repeat' (first
    | exact True.intro
    | refine VW.seq ?_
    | refine VW.block ?_
    | ((first | refine VW.skip ?_ | refine VW.exit ?_ | refine VW.reg ?_ | refine VW.regD ?_ | refine VW.ret ?_ | show goA _ _ _ _ _ _ _ _ _ _ | show goB _ _ _ _ _ _ _ _ _ | show goAD _ _ _ _ _ _ _ _ _ _ _ _ _ _ | show goBD _ _ _ _ _ _ _ _ _ _ _); refine sx ?_)
    | refine VW.condT cx ?_
    | refine VW.condF cx ?_
    | refine VW.cond ex ?_ ?_
    | refine imp_nt ?_
    | refine imp_nf ?_
    | refine imp_dt (fun _ => ?_)
    | refine imp_df (fun _ => ?_)
    | (refine fun (_ : _ = true) => ?_)
    | (refine fun (_ : _ = false) => ?_)
    | refine vg_t ?_ ?_
    | refine vg_f ?_ ?_)
          exact .keep exR cxL (hk3 _ (cx) (cx) (cx))
        · have hc : clash wf g.a3.s x = false := by simp [clash, hwx]; omega
          have hnx := next hc
          clear hrv hwx
          repeat' (first
    | exact True.intro
    | refine VW.seq ?_
    | refine VW.block ?_
    | ((first | refine VW.skip ?_ | refine VW.exit ?_ | refine VW.reg ?_ | refine VW.regD ?_ | refine VW.ret ?_ | show goA _ _ _ _ _ _ _ _ _ _ | show goB _ _ _ _ _ _ _ _ _ | show goAD _ _ _ _ _ _ _ _ _ _ _ _ _ _ | show goBD _ _ _ _ _ _ _ _ _ _ _); refine sx ?_)
    | refine VW.condT cx ?_
    | refine VW.condF cx ?_
    | refine VW.cond ex ?_ ?_
    | refine imp_nt ?_
    | refine imp_nf ?_
    | refine imp_dt (fun _ => ?_)
    | refine imp_df (fun _ => ?_)
    | (refine fun (_ : _ = true) => ?_)
    | (refine fun (_ : _ = false) => ?_)
    | refine vg_t ?_ ?_
    | refine vg_f ?_ ?_)
          exact ⟨_, hlt, it, seen ++ [j], ks.length, cx, cx, cx, cx, Nat.le_refl _, rfl, hnx, cx, cx, cx⟩
    · have hno : ks.any (clash wf g.a3.s) = false := by
        rw [List.any_eq_false]
        intro x hx
        obtain ⟨j, hj⟩ := List.mem_iff_getElem?.1 hx
        have hjl := (List.getElem?_eq_some_iff.1 hj).1
        have := hseen j (hall j hjl hjl) x hj
        simp [this]
      by_cases hh : g.h = 1073741824
      · have hT : testF ks wf g.a3.s 1073741824 = 4 := by simp [testF, hno]
        repeat' (first
    | exact True.intro
    | refine VW.seq ?_
    | refine VW.block ?_
    | ((first | refine VW.skip ?_ | refine VW.exit ?_ | refine VW.reg ?_ | refine VW.regD ?_ | refine VW.ret ?_ | show goA _ _ _ _ _ _ _ _ _ _ | show goB _ _ _ _ _ _ _ _ _ | show goAD _ _ _ _ _ _ _ _ _ _ _ _ _ _ | show goBD _ _ _ _ _ _ _ _ _ _ _); refine sx ?_)
    | refine VW.condT cx ?_
    | refine VW.condF cx ?_
    | refine VW.cond ex ?_ ?_
    | refine imp_nt ?_
    | refine imp_nf ?_
    | refine imp_dt (fun _ => ?_)
    | refine imp_df (fun _ => ?_)
    | (refine fun (_ : _ = true) => ?_)
    | (refine fun (_ : _ = false) => ?_)
    | refine vg_t ?_ ?_
    | refine vg_f ?_ ?_)
        exact .keep exR cxL (hk3 _ hm hmw hmk)
      · have hT : testF ks wf g.a3.s g.h = 0 := by simp [testF, hno, hh]
        repeat' (first
    | exact True.intro
    | refine VW.seq ?_
    | refine VW.block ?_
    | ((first | refine VW.skip ?_ | refine VW.exit ?_ | refine VW.reg ?_ | refine VW.regD ?_ | refine VW.ret ?_ | show goA _ _ _ _ _ _ _ _ _ _ | show goB _ _ _ _ _ _ _ _ _ | show goAD _ _ _ _ _ _ _ _ _ _ _ _ _ _ | show goBD _ _ _ _ _ _ _ _ _ _ _); refine sx ?_)
    | refine VW.condT cx ?_
    | refine VW.condF cx ?_
    | refine VW.cond ex ?_ ?_
    | refine imp_nt ?_
    | refine imp_nf ?_
    | refine imp_dt (fun _ => ?_)
    | refine imp_df (fun _ => ?_)
    | (refine fun (_ : _ = true) => ?_)
    | (refine fun (_ : _ = false) => ?_)
    | refine vg_t ?_ ?_
    | refine vg_f ?_ ?_)
        exact .keep exR cxL (hk3 _ hm hmw hmk)
  
end
end Go.Vx
/- Walks of the manager's functions (txn): Commit; Oldest. -/
set_option linter.unusedSimpArgs false
set_option linter.unusedVariables false
set_option maxRecDepth 4000
set_option maxHeartbeats 2000000
namespace Go.Vx
open Go Go.Proofs

abbrev wmap (wl : List (Str × Int)) : List (PV × PV) := mapE PV.str iv wl
theorem wmap_flat {wl : List (Str × Int)} : flatM (wmap wl) := fun e he => by
  obtain ⟨k, _, rfl⟩ := List.mem_map.1 he
  exact .inl ⟨_, rfl⟩
theorem wmap_wr {wl : List (Str × Int)} : Wr (wmap wl) (sval wl) := fun k => by
  refine ⟨_, mget_map MK.str k wl, ?_⟩
  unfold sval
  cases sfind k wl 0 <;> rfl

structure Tested (P : Program) : Prop where
  yes : ∀ M W K b, M < b → W < b → K < b → ∀ g z i, Ix z i → Mg.ok g b → (g.get i).o = true → (g.get i).k = .map K → g.w = .map W → M ≠ W → M ≠ K → W ≠ K → ∀ (ks : List Str) (wl : List (Str × Int)),
    V P 25 [.ptr M 15 0 0, iv z] (ofL [(M, g.box), (W, .map (wmap wl)), (K, .map (kmap ks))]) b (iv (testF ks (sval wl) (g.get i).s g.h)) (ofL [(M, g.box), (W, .map (wmap wl)), (K, .map (kmap ks))])
  shut : ∀ M b, M < b → ∀ g z i, Ix z i → Mg.ok g b → (g.get i).o = false → V P 25 [.ptr M 15 0 0, iv z] (ofL [(M, g.box)]) b (iv 7) (ofL [(M, g.box)])
  no : ∀ M b, M < b → ∀ z, (z < 0 ∨ 4 ≤ z) → V P 25 [.ptr M 15 0 0, iv z] mt b (iv 2) mt

theorem upds_same {m : Mem} {l : List (Nat × Obj)} (h : ∀ x ∈ l, m x.1 = some x.2) : m.upds (swap l l) = m := by
  funext id
  rw [swap_upds]
  split
  · rename_i hid
    cases ho : ofL l id with
    | none => exact absurd hid (ofL_none ho)
    | some o => exact (h _ (ofL_some ho)).symm
  · rfl

section
variable {P : Program}

theorem VC.same {X : Cal} {b : Nat} {ps qs : List PV} {l : List (Nat × Obj)} {r : PV} {nd : Bool} {K : PV → Mem → Prop} {m : Mem} (ha : Args b m ps qs) (h0 : ∀ x ∈ l, m x.1 = some x.2 ∧ x.1 < b ∧ x.2.lt b = true) (hv : VX P X qs (ofL l) b (Just r (ofL l))) (hk : K r m) : VC P b X ps true nd K m m :=
  .ol rfl qs l l r ha h0 (fun x hx => .inl (List.mem_map_of_mem hx)) hv (by rw [upds_same fun x hx => (h0 x hx).1]; exact hk)

theorem VC.test (h1 : Tested P) {M W K b : Nat} (hM : M < b) (hW : W < b) (hK : K < b) {g : Mg} {z : Int} {i : Nat} (hi : Ix z i) (hg : g.ok b) (ho : (g.get i).o = true) (hgk : (g.get i).k = .map K) (hgw : g.w = .map W) (hMW : M ≠ W) (hMK : M ≠ K) (hWK : W ≠ K) {ks : List Str} {wl : List (Str × Int)}
    {m : Mem} (hm : m M = some g.box) (hw : m W = some (.map (wmap wl))) (hk : m K = some (.map (kmap ks))) {nd : Bool} {K' : PV → Mem → Prop} (hK' : K' (iv (testF ks (sval wl) (g.get i).s g.h)) m) : VC P b (.f 25) [.ptr M 15 0 0, iv z] true nd K' m m :=
  .same (qs := [.ptr M 15 0 0, iv z]) ⟨.inl ⟨rfl, by simpa [PV.lt, lt1] using hM⟩, .inl ⟨rfl, rfl⟩, trivial⟩ (by simp only [List.mem_cons, List.not_mem_nil, or_false, forall_eq, forall_eq_or_imp]; exact ⟨⟨hm, hM, by simpa using Mg.blt (k := 0) hg⟩, ⟨hw, hW, (flatM_lt wmap_flat).1⟩, hk, hK, kmap_lt.1⟩) (h1.yes M W K b hM hW hK g z i hi hg ho hgk hgw hMW hMK hWK ks wl) hK'

theorem w_commitR (h1 : Tested P) (M b : Nat) (hM : M < b) (z : Int) (hi : z < 0 ∨ 4 ≤ z) : VW P c13 (PRet (Ends [.tmp 4, .tmp 5] b (.tup [iv 0, iv 2]) mt)) (fun t => [PV.ptr M 15 0 0, iv z][t]?) mt b := by
  unfold c13
  obtain ⟨n1, n2, n3, n4, n5⟩ := below_ne hM
  repeat' (first
    | exact True.intro
    | refine VW.seq ?_
    | refine VW.block ?_
    | ((first | refine VW.skip ?_ | refine VW.exit ?_ | refine VW.reg ?_ | refine VW.regD ?_ | refine VW.ret ?_ | show goA _ _ _ _ _ _ _ _ _ _ | show goB _ _ _ _ _ _ _ _ _ | show goAD _ _ _ _ _ _ _ _ _ _ _ _ _ _ | show goBD _ _ _ _ _ _ _ _ _ _ _); refine sx ?_)
    | refine VW.condT cx ?_
    | refine VW.condF cx ?_
    | refine VW.cond ex ?_ ?_
    | refine imp_nt ?_
    | refine imp_nf ?_
    | refine imp_dt (fun _ => ?_)
    | refine imp_df (fun _ => ?_)
    | (refine fun (_ : _ = true) => ?_)
    | (refine fun (_ : _ = false) => ?_)
    | refine vg_t ?_ ?_
    | refine vg_f ?_ ?_)
  refine VC.pure [.ptr M 15 0 0, iv z] _ ⟨.inl ⟨rfl, by simp -implicitDefEqProofs only [ltS, lt8, List.all_cons, List.all_nil, eng, reduceIte, reduceCtorEq, Nat.reduceAdd, Nat.reduceMul, Nat.reduceSub, Nat.reduceEqDiff, Nat.reduceLeDiff, Nat.reduceLT, Nat.reduceDiv, Nat.reduceMod, Int.reduceLE, Int.reduceLT, Int.reduceEq, Int.reduceNeg, Int.reduceAdd, Int.reduceSub, Int.reduceToNat, Nat.reducePow, Int.ofNat_zero, Int.natCast_one, Int.cast_ofNat_Int, *]⟩, .inl ⟨rfl, rfl⟩, trivial⟩ (h1.no M _ (by omega) z hi) ?_
  refine sx ?_
  repeat' (first
    | exact True.intro
    | refine VW.seq ?_
    | refine VW.block ?_
    | ((first | refine VW.skip ?_ | refine VW.exit ?_ | refine VW.reg ?_ | refine VW.regD ?_ | refine VW.ret ?_ | show goA _ _ _ _ _ _ _ _ _ _ | show goB _ _ _ _ _ _ _ _ _ | show goAD _ _ _ _ _ _ _ _ _ _ _ _ _ _ | show goBD _ _ _ _ _ _ _ _ _ _ _); refine sx ?_)
    | refine VW.condT cx ?_
    | refine VW.condF cx ?_
    | refine VW.cond ex ?_ ?_
    | refine imp_nt ?_
    | refine imp_nf ?_
    | refine imp_dt (fun _ => ?_)
    | refine imp_df (fun _ => ?_)
    | (refine fun (_ : _ = true) => ?_)
    | (refine fun (_ : _ = false) => ?_)
    | refine vg_t ?_ ?_
    | refine vg_f ?_ ?_)
  exact .v exR exR
theorem w_commit0 (h1 : Tested P) (M b : Nat) (hM : M < b) (g : Mg) (hg : g.ok b) (z : Int) (i : Nat) (hi : Ix z i) (ho : (g.get i).o = false) (m : Mem) (hm : m M = some g.box) : VW P c13 (PRet (Ends [.tmp 4, .tmp 5] b (.tup [iv 0, iv 7]) (ofL [(M, g.box)]))) (fun t => [PV.ptr M 15 0 0, iv z][t]?) m b := by
  unfold c13
  obtain ⟨n1, n2, n3, n4, n5⟩ := below_ne hM
  have hk := one_keep hM hm hg
  repeat' (first
    | exact True.intro
    | refine VW.seq ?_
    | refine VW.block ?_
    | ((first | refine VW.skip ?_ | refine VW.exit ?_ | refine VW.reg ?_ | refine VW.regD ?_ | refine VW.ret ?_ | show goA _ _ _ _ _ _ _ _ _ _ | show goB _ _ _ _ _ _ _ _ _ | show goAD _ _ _ _ _ _ _ _ _ _ _ _ _ _ | show goBD _ _ _ _ _ _ _ _ _ _ _); refine sx ?_)
    | refine VW.condT cx ?_
    | refine VW.condF cx ?_
    | refine VW.cond ex ?_ ?_
    | refine imp_nt ?_
    | refine imp_nf ?_
    | refine imp_dt (fun _ => ?_)
    | refine imp_df (fun _ => ?_)
    | (refine fun (_ : _ = true) => ?_)
    | (refine fun (_ : _ = false) => ?_)
    | refine vg_t ?_ ?_
    | refine vg_f ?_ ?_)
  refine VC.same (qs := [.ptr M 15 0 0, iv z]) (l := [(M, g.box)]) ⟨.inl ⟨rfl, by simp -implicitDefEqProofs only [ltS, lt8, List.all_cons, List.all_nil, eng, reduceIte, reduceCtorEq, Nat.reduceAdd, Nat.reduceMul, Nat.reduceSub, Nat.reduceEqDiff, Nat.reduceLeDiff, Nat.reduceLT, Nat.reduceDiv, Nat.reduceMod, Int.reduceLE, Int.reduceLT, Int.reduceEq, Int.reduceNeg, Int.reduceAdd, Int.reduceSub, Int.reduceToNat, Nat.reducePow, Int.ofNat_zero, Int.natCast_one, Int.cast_ofNat_Int, *]⟩, .inl ⟨rfl, rfl⟩, trivial⟩ (one_in (by omega) hm (hg.mono (by omega))) (h1.shut M _ (by omega) g z i hi (hg.mono (by omega)) ho) ?_
  refine sx ?_
  repeat' (first
    | exact True.intro
    | refine VW.seq ?_
    | refine VW.block ?_
    | ((first | refine VW.skip ?_ | refine VW.exit ?_ | refine VW.reg ?_ | refine VW.regD ?_ | refine VW.ret ?_ | show goA _ _ _ _ _ _ _ _ _ _ | show goB _ _ _ _ _ _ _ _ _ | show goAD _ _ _ _ _ _ _ _ _ _ _ _ _ _ | show goBD _ _ _ _ _ _ _ _ _ _ _); refine sx ?_)
    | refine VW.condT cx ?_
    | refine VW.condF cx ?_
    | refine VW.cond ex ?_ ?_
    | refine imp_nt ?_
    | refine imp_nf ?_
    | refine imp_dt (fun _ => ?_)
    | refine imp_df (fun _ => ?_)
    | (refine fun (_ : _ = true) => ?_)
    | (refine fun (_ : _ = false) => ?_)
    | refine vg_t ?_ ?_
    | refine vg_f ?_ ?_)
  exact .keep exR cxL hk
theorem w_commitE (h1 : Tested P) (M W K b : Nat) (hM : M < b) (hW : W < b) (hK : K < b) (g : Mg) (hg : g.ok b) (z : Int) (i : Nat) (hi : Ix z i) (ho : (g.get i).o = true) (hgk : (g.get i).k = .map K) (hgw : g.w = .map W) (hMW : M ≠ W) (hMK : M ≠ K) (hWK : W ≠ K)
    (ks : List Str) (wl : List (Str × Int)) (m : Mem) (hm : m M = some g.box) (hmk : m K = some (.map (kmap ks))) (hmw : m W = some (.map (wmap wl))) (ht : testF ks (sval wl) (g.get i).s g.h ≠ 0) :
    VW P c13 (PRet (Ends [.tmp 4, .tmp 5] b (.tup [iv 0, iv (testF ks (sval wl) (g.get i).s g.h)]) (ofL [(M, g.box), (W, .map (wmap wl)), (K, .map (kmap ks))]))) (fun t => [PV.ptr M 15 0 0, iv z][t]?) m b := by
  unfold c13
  obtain ⟨n1, n2, n3, n4, n5⟩ := below_ne hM
  have hk3 := three_keep hM hW hK hm hmw hmk (Mg.blt hg) (flatM_lt wmap_flat).1 kmap_lt.1 rfl (flatM_lt wmap_flat).2 kmap_lt.2
  repeat' (first
    | exact True.intro
    | refine VW.seq ?_
    | refine VW.block ?_
    | ((first | refine VW.skip ?_ | refine VW.exit ?_ | refine VW.reg ?_ | refine VW.regD ?_ | refine VW.ret ?_ | show goA _ _ _ _ _ _ _ _ _ _ | show goB _ _ _ _ _ _ _ _ _ | show goAD _ _ _ _ _ _ _ _ _ _ _ _ _ _ | show goBD _ _ _ _ _ _ _ _ _ _ _); refine sx ?_)
    | refine VW.condT cx ?_
    | refine VW.condF cx ?_
    | refine VW.cond ex ?_ ?_
    | refine imp_nt ?_
    | refine imp_nf ?_
    | refine imp_dt (fun _ => ?_)
    | refine imp_df (fun _ => ?_)
    | (refine fun (_ : _ = true) => ?_)
    | (refine fun (_ : _ = false) => ?_)
    | refine vg_t ?_ ?_
    | refine vg_f ?_ ?_)
  refine VC.test h1 (by omega) (by omega) (by omega) hi (hg.mono (by omega)) ho hgk hgw hMW hMK hWK hm hmw hmk ?_
  generalize testF ks (sval wl) (g.get i).s g.h = t at *
  refine sx ?_
  repeat' (first
    | exact True.intro
    | refine VW.seq ?_
    | refine VW.block ?_
    | ((first | refine VW.skip ?_ | refine VW.exit ?_ | refine VW.reg ?_ | refine VW.regD ?_ | refine VW.ret ?_ | show goA _ _ _ _ _ _ _ _ _ _ | show goB _ _ _ _ _ _ _ _ _ | show goAD _ _ _ _ _ _ _ _ _ _ _ _ _ _ | show goBD _ _ _ _ _ _ _ _ _ _ _); refine sx ?_)
    | refine VW.condT cx ?_
    | refine VW.condF cx ?_
    | refine VW.cond ex ?_ ?_
    | refine imp_nt ?_
    | refine imp_nf ?_
    | refine imp_dt (fun _ => ?_)
    | refine imp_df (fun _ => ?_)
    | (refine fun (_ : _ = true) => ?_)
    | (refine fun (_ : _ = false) => ?_)
    | refine vg_t ?_ ?_
    | refine vg_f ?_ ?_)
  exact .keep exR cxL hk3

def JC (g' : Mg) (p M W K : Nat) (wl : List (Str × Int)) (ks : List Str) (h' : Int) (k : Nat) (e : Env) (m : Mem) (nx : Nat) : Prop :=
  ∃ it seen last wl', e 37 = some (.ptr it 0 0 0) ∧ e 7 = some (.ptr M 15 0 p) ∧ e 0 = some (.ptr M 15 0 0) ∧ m it = some (.iter (some K) ks.length seen last) ∧ last ≤ ks.length ∧ k = unseen ks.length seen ∧
    m M = some g'.box ∧ m W = some (.map (wmap wl')) ∧ m K = some (.map (kmap ks)) ∧ (∀ x, (∃ j ∈ seen, ks[j]? = some x) → sval wl' x = some h') ∧ ∀ x, (¬ ∃ j ∈ seen, ks[j]? = some x) → sval wl' x = sval wl x

/-- What a commit's end is. -/
def KC (g : Mg) (i M W K : Nat) (wl : List (Str × Int)) (ks : List Str) (h' : Int) (r : PV) (m1 : Mem) : Prop :=
  r = .tup [iv h', iv 0] ∧ ∃ wl', (∀ x, sval wl' x = if x ∈ ks then some h' else sval wl x) ∧ m1 = ofL [(M, (({ g with h := h' } : Mg).put i ⟨false, 0, .nilm⟩).box), (W, .map (wmap wl')), (K, .map (kmap ks))]

theorem w_commit1 (h1 : Tested P) (M W K b : Nat) (hM : M < b) (hW : W < b) (hK : K < b) (g : Mg) (hg : g.ok b) (z : Int) (i : Nat) (hi : Ix z i) (ho : (g.get i).o = true) (hgk : (g.get i).k = .map K) (hgw : g.w = .map W) (hMW : M ≠ W) (hMK : M ≠ K) (hWK : W ≠ K)
    (ks : List Str) (wl : List (Str × Int)) (m : Mem) (hm : m M = some g.box) (hmk : m K = some (.map (kmap ks))) (hmw : m W = some (.map (wmap wl))) (ht : testF ks (sval wl) (g.get i).s g.h = 0) (h' : Int) (hh : max (IntKind.i64.wrap (g.h + 1)) g.c = h') :
    VW P c13 (PRet (EndsK [.tmp 4, .tmp 5] b (KC g i M W K wl ks h'))) (fun t => [PV.ptr M 15 0 0, iv z][t]?) m b := by
  unfold c13
  obtain ⟨n1, n2, n3, n4, n5⟩ := below_ne hM
  obtain ⟨k1, k2, k3, k4, k5⟩ := below_ne hK
  obtain ⟨l1, l2, l3, l4, l5⟩ := below_ne hW
  have hlen : (kmap ks).length = ks.length := by simp [kmap]
  have x1 : (M = W) = False := by simp [hMW]
  have x2 : (W = M) = False := by simp [Ne.symm hMW]
  have x3 : (M = K) = False := by simp [hMK]
  have x4 : (K = M) = False := by simp [Ne.symm hMK]
  have x5 : (W = K) = False := by simp [hWK]
  have x6 : (K = W) = False := by simp [Ne.symm hWK]
  repeat' (first
    | exact True.intro
    | refine VW.seq ?_
    | refine VW.block ?_
    | ((first | refine VW.skip ?_ | refine VW.exit ?_ | refine VW.reg ?_ | refine VW.regD ?_ | refine VW.ret ?_ | show goA _ _ _ _ _ _ _ _ _ _ | show goB _ _ _ _ _ _ _ _ _ | show goAD _ _ _ _ _ _ _ _ _ _ _ _ _ _ | show goBD _ _ _ _ _ _ _ _ _ _ _); refine sx ?_)
    | refine VW.condT cx ?_
    | refine VW.condF cx ?_
    | refine VW.cond ex ?_ ?_
    | refine imp_nt ?_
    | refine imp_nf ?_
    | refine imp_dt (fun _ => ?_)
    | refine imp_df (fun _ => ?_)
    | (refine fun (_ : _ = true) => ?_)
    | (refine fun (_ : _ = false) => ?_)
    | refine vg_t ?_ ?_
    | refine vg_f ?_ ?_)
  refine VC.test h1 (by omega) (by omega) (by omega) hi (hg.mono (by omega)) ho hgk hgw hMW hMK hWK hm hmw hmk ?_
  rw [ht]
  refine sx ?_
  rcases hi.four with ⟨rfl, rfl⟩ | ⟨rfl, rfl⟩ | ⟨rfl, rfl⟩ | ⟨rfl, rfl⟩
  · simp only [Mg.get] at ho hgk ⊢
    repeat' (first
    | exact True.intro
    | refine VW.seq ?_
    | refine VW.block ?_
    | ((first | refine VW.skip ?_ | refine VW.exit ?_ | refine VW.reg ?_ | refine VW.regD ?_ | refine VW.ret ?_ | show goA _ _ _ _ _ _ _ _ _ _ | show goB _ _ _ _ _ _ _ _ _ | show goAD _ _ _ _ _ _ _ _ _ _ _ _ _ _ | show goBD _ _ _ _ _ _ _ _ _ _ _); refine sx ?_)
    | refine VW.condT cx ?_
    | refine VW.condF cx ?_
    | refine VW.cond ex ?_ ?_
    | refine imp_nt ?_
    | refine imp_nf ?_
    | refine imp_dt (fun _ => ?_)
    | refine imp_df (fun _ => ?_)
    | (refine fun (_ : _ = true) => ?_)
    | (refine fun (_ : _ = false) => ?_)
    | refine vg_t ?_ ?_
    | refine vg_f ?_ ?_)
    refine VW.loop (JC { g with h := h' } 2 M W K wl ks h') _ ⟨_, [], _, wl, by simp -implicitDefEqProofs only [eng, reduceIte, reduceCtorEq, Nat.reduceAdd, Nat.reduceMul, Nat.reduceSub, Nat.reduceEqDiff, Nat.reduceLeDiff, Nat.reduceLT, Nat.reduceDiv, Nat.reduceMod, Int.reduceLE, Int.reduceLT, Int.reduceEq, Int.reduceNeg, Int.reduceAdd, Int.reduceSub, Int.reduceToNat, Nat.reducePow, Int.ofNat_zero, Int.natCast_one, Int.cast_ofNat_Int]; rfl, cy, cy, cx, Nat.le_refl _, rfl, by simp -implicitDefEqProofs only [eng, reduceIte, reduceCtorEq, Nat.reduceAdd, Nat.reduceMul, Nat.reduceSub, Nat.reduceEqDiff, Nat.reduceLeDiff, Nat.reduceLT, Nat.reduceDiv, Nat.reduceMod, Int.reduceLE, Int.reduceLT, Int.reduceEq, Int.reduceNeg, Int.reduceAdd, Int.reduceSub, Int.reduceToNat, Nat.reducePow, Int.ofNat_zero, Int.natCast_one, Int.cast_ofNat_Int, Mg.box, *], cx, cx, by simp, by simp⟩ ?_
    clear hm hmk hmw m
    rintro k e m nx ⟨it, seen, last, wl', e37, e7, e0, hit, hlast, rfl, hm, hmw, hmk, hw1, hw2⟩
    have q1 := ne_of_obj hm hit (by simp)
    have q2 := ne_of_obj hmw hit (by simp)
    have q3 := ne_of_obj hmk hit (by simp)
    have q4 := ne_of_obj hit hmk (by simp)
    have q5 := ne_of_obj hit hmw (by simp)
    refine VW.below hm fun hlM => VW.below hmw fun hlW => VW.below hmk fun hlK => ?_
    obtain ⟨n1', n2', n3', n4', n5'⟩ := below_ne hlM
    obtain ⟨l1', l2', l3', l4', l5'⟩ := below_ne hlW
    obtain ⟨k1', k2', k3', k4', k5'⟩ := below_ne hlK
    repeat' (first
    | exact True.intro
    | refine VW.seq ?_
    | refine VW.block ?_
    | ((first | refine VW.skip ?_ | refine VW.exit ?_ | refine VW.reg ?_ | refine VW.regD ?_ | refine VW.ret ?_ | show goA _ _ _ _ _ _ _ _ _ _ | show goB _ _ _ _ _ _ _ _ _ | show goAD _ _ _ _ _ _ _ _ _ _ _ _ _ _ | show goBD _ _ _ _ _ _ _ _ _ _ _); refine sx ?_)
    | refine VW.condT cx ?_
    | refine VW.condF cx ?_
    | refine VW.cond ex ?_ ?_
    | refine imp_nt ?_
    | refine imp_nf ?_
    | refine imp_dt (fun _ => ?_)
    | refine imp_df (fun _ => ?_)
    | (refine fun (_ : _ = true) => ?_)
    | (refine fun (_ : _ = false) => ?_)
    | refine vg_t ?_ ?_
    | refine vg_f ?_ ?_)
    refine ⟨fun j r hj hr => ?_, fun hall => ?_⟩
    · obtain ⟨x, hx, rfl⟩ : ∃ x, ks[j]? = some x ∧ r = (.str x, .bool true) := by
        simp only [kmap, List.getElem?_map, Option.map_eq_some_iff] at hr
        obtain ⟨x, h1, h2⟩ := hr
        exact ⟨x, h1, h2.symm⟩
      have hjl : j < ks.length := (List.getElem?_eq_some_iff.1 hx).1
      have hgl : (seen ++ [j]).getLast? = some j := by simp
      have hlt := unseen_lt hjl hj
      obtain ⟨ro, hro, _, _, hput⟩ := look_map (ev := iv) MK.str x wl'
      have hput' := hput h'
      clear hput
      repeat' (first
    | exact True.intro
    | refine VW.seq ?_
    | refine VW.block ?_
    | ((first | refine VW.skip ?_ | refine VW.exit ?_ | refine VW.reg ?_ | refine VW.regD ?_ | refine VW.ret ?_ | show goA _ _ _ _ _ _ _ _ _ _ | show goB _ _ _ _ _ _ _ _ _ | show goAD _ _ _ _ _ _ _ _ _ _ _ _ _ _ | show goBD _ _ _ _ _ _ _ _ _ _ _); refine sx ?_)
    | refine VW.condT cx ?_
    | refine VW.condF cx ?_
    | refine VW.cond ex ?_ ?_
    | refine imp_nt ?_
    | refine imp_nf ?_
    | refine imp_dt (fun _ => ?_)
    | refine imp_df (fun _ => ?_)
    | (refine fun (_ : _ = true) => ?_)
    | (refine fun (_ : _ = false) => ?_)
    | refine vg_t ?_ ?_
    | refine vg_f ?_ ?_)
      refine ⟨_, hlt, it, seen ++ [j], ks.length, sput wl' x h', cx, cx, cx, cx, Nat.le_refl _, rfl, cx, cx, cx, ?_, ?_⟩
      · rintro y ⟨q, hq, hqy⟩
        rw [sval_put]
        split
        · rfl
        · rename_i hne
          rcases List.mem_append.1 hq with h | h
          · exact hw1 y ⟨q, h, hqy⟩
          · simp at h; subst h; rw [hx] at hqy; injection hqy with hqy; exact absurd hqy.symm hne
      · intro y hy
        rw [sval_put, if_neg fun h => hy ⟨j, by simp, by rw [h]; exact hx⟩]
        exact hw2 y fun ⟨q, hq, hqy⟩ => hy ⟨q, List.mem_append_left _ hq, hqy⟩
    · have hwl : ∀ x, sval wl' x = if x ∈ ks then some h' else sval wl x := fun x => by
        split
        · rename_i hx
          obtain ⟨j, hj⟩ := List.mem_iff_getElem?.1 hx
          have hjl := (List.getElem?_eq_some_iff.1 hj).1
          exact hw1 x ⟨j, hall j hjl hjl, hj⟩
        · rename_i hx
          exact hw2 x fun ⟨j, _, hj⟩ => hx (List.mem_of_getElem? hj)
      have hok : (({ g with h := h' } : Mg).put 0 ⟨false, 0, .nilm⟩).ok b := Mg.put_ok hg rfl
      repeat' (first
    | exact True.intro
    | refine VW.seq ?_
    | refine VW.block ?_
    | ((first | refine VW.skip ?_ | refine VW.exit ?_ | refine VW.reg ?_ | refine VW.regD ?_ | refine VW.ret ?_ | show goA _ _ _ _ _ _ _ _ _ _ | show goB _ _ _ _ _ _ _ _ _ | show goAD _ _ _ _ _ _ _ _ _ _ _ _ _ _ | show goBD _ _ _ _ _ _ _ _ _ _ _); refine sx ?_)
    | refine VW.condT cx ?_
    | refine VW.condF cx ?_
    | refine VW.cond ex ?_ ?_
    | refine imp_nt ?_
    | refine imp_nf ?_
    | refine imp_dt (fun _ => ?_)
    | refine imp_df (fun _ => ?_)
    | (refine fun (_ : _ = true) => ?_)
    | (refine fun (_ : _ = false) => ?_)
    | refine vg_t ?_ ?_
    | refine vg_f ?_ ?_)
      refine ⟨_, _, ⟨rfl, wl', hwl, rfl⟩, ?_⟩
      exact .keep exR cxL (three_keep hM hW hK (by simp -implicitDefEqProofs only [eng, reduceIte, reduceCtorEq, Nat.reduceAdd, Nat.reduceMul, Nat.reduceSub, Nat.reduceEqDiff, Nat.reduceLeDiff, Nat.reduceLT, Nat.reduceDiv, Nat.reduceMod, Int.reduceLE, Int.reduceLT, Int.reduceEq, Int.reduceNeg, Int.reduceAdd, Int.reduceSub, Int.reduceToNat, Nat.reducePow, Int.ofNat_zero, Int.natCast_one, Int.cast_ofNat_Int, Mg.put, Mg.box, *]) (cx) (cx) (Mg.blt hok) (flatM_lt wmap_flat).1 kmap_lt.1 rfl (flatM_lt wmap_flat).2 kmap_lt.2)
  · simp only [Mg.get] at ho hgk ⊢
    repeat' (first
    | exact True.intro
    | refine VW.seq ?_
    | refine VW.block ?_
    | ((first | refine VW.skip ?_ | refine VW.exit ?_ | refine VW.reg ?_ | refine VW.regD ?_ | refine VW.ret ?_ | show goA _ _ _ _ _ _ _ _ _ _ | show goB _ _ _ _ _ _ _ _ _ | show goAD _ _ _ _ _ _ _ _ _ _ _ _ _ _ | show goBD _ _ _ _ _ _ _ _ _ _ _); refine sx ?_)
    | refine VW.condT cx ?_
    | refine VW.condF cx ?_
    | refine VW.cond ex ?_ ?_
    | refine imp_nt ?_
    | refine imp_nf ?_
    | refine imp_dt (fun _ => ?_)
    | refine imp_df (fun _ => ?_)
    | (refine fun (_ : _ = true) => ?_)
    | (refine fun (_ : _ = false) => ?_)
    | refine vg_t ?_ ?_
    | refine vg_f ?_ ?_)
    refine VW.loop (JC { g with h := h' } 5 M W K wl ks h') _ ⟨_, [], _, wl, by simp -implicitDefEqProofs only [eng, reduceIte, reduceCtorEq, Nat.reduceAdd, Nat.reduceMul, Nat.reduceSub, Nat.reduceEqDiff, Nat.reduceLeDiff, Nat.reduceLT, Nat.reduceDiv, Nat.reduceMod, Int.reduceLE, Int.reduceLT, Int.reduceEq, Int.reduceNeg, Int.reduceAdd, Int.reduceSub, Int.reduceToNat, Nat.reducePow, Int.ofNat_zero, Int.natCast_one, Int.cast_ofNat_Int]; rfl, cy, cy, cx, Nat.le_refl _, rfl, by simp -implicitDefEqProofs only [eng, reduceIte, reduceCtorEq, Nat.reduceAdd, Nat.reduceMul, Nat.reduceSub, Nat.reduceEqDiff, Nat.reduceLeDiff, Nat.reduceLT, Nat.reduceDiv, Nat.reduceMod, Int.reduceLE, Int.reduceLT, Int.reduceEq, Int.reduceNeg, Int.reduceAdd, Int.reduceSub, Int.reduceToNat, Nat.reducePow, Int.ofNat_zero, Int.natCast_one, Int.cast_ofNat_Int, Mg.box, *], cx, cx, by simp, by simp⟩ ?_
    clear hm hmk hmw m
    rintro k e m nx ⟨it, seen, last, wl', e37, e7, e0, hit, hlast, rfl, hm, hmw, hmk, hw1, hw2⟩
    have q1 := ne_of_obj hm hit (by simp)
    have q2 := ne_of_obj hmw hit (by simp)
    have q3 := ne_of_obj hmk hit (by simp)
    have q4 := ne_of_obj hit hmk (by simp)
    have q5 := ne_of_obj hit hmw (by simp)
    refine VW.below hm fun hlM => VW.below hmw fun hlW => VW.below hmk fun hlK => ?_
    obtain ⟨n1', n2', n3', n4', n5'⟩ := below_ne hlM
    obtain ⟨l1', l2', l3', l4', l5'⟩ := below_ne hlW
    obtain ⟨k1', k2', k3', k4', k5'⟩ := below_ne hlK
    repeat' (first
    | exact True.intro
    | refine VW.seq ?_
    | refine VW.block ?_
    | ((first | refine VW.skip ?_ | refine VW.exit ?_ | refine VW.reg ?_ | refine VW.regD ?_ | refine VW.ret ?_ | show goA _ _ _ _ _ _ _ _ _ _ | show goB _ _ _ _ _ _ _ _ _ | show goAD _ _ _ _ _ _ _ _ _ _ _ _ _ _ | show goBD _ _ _ _ _ _ _ _ _ _ _); refine sx ?_)
    | refine VW.condT cx ?_
    | refine VW.condF cx ?_
    | refine VW.cond ex ?_ ?_
    | refine imp_nt ?_
    | refine imp_nf ?_
    | refine imp_dt (fun _ => ?_)
    | refine imp_df (fun _ => ?_)
    | (refine fun (_ : _ = true) => ?_)
    | (refine fun (_ : _ = false) => ?_)
    | refine vg_t ?_ ?_
    | refine vg_f ?_ ?_)
    refine ⟨fun j r hj hr => ?_, fun hall => ?_⟩
    · obtain ⟨x, hx, rfl⟩ : ∃ x, ks[j]? = some x ∧ r = (.str x, .bool true) := by
        simp only [kmap, List.getElem?_map, Option.map_eq_some_iff] at hr
        obtain ⟨x, h1, h2⟩ := hr
        exact ⟨x, h1, h2.symm⟩
      have hjl : j < ks.length := (List.getElem?_eq_some_iff.1 hx).1
      have hgl : (seen ++ [j]).getLast? = some j := by simp
      have hlt := unseen_lt hjl hj
      obtain ⟨ro, hro, _, _, hput⟩ := look_map (ev := iv) MK.str x wl'
      have hput' := hput h'
      clear hput
      repeat' (first
    | exact True.intro
    | refine VW.seq ?_
    | refine VW.block ?_
    | ((first | refine VW.skip ?_ | refine VW.exit ?_ | refine VW.reg ?_ | refine VW.regD ?_ | refine VW.ret ?_ | show goA _ _ _ _ _ _ _ _ _ _ | show goB _ _ _ _ _ _ _ _ _ | show goAD _ _ _ _ _ _ _ _ _ _ _ _ _ _ | show goBD _ _ _ _ _ _ _ _ _ _ _); refine sx ?_)
    | refine VW.condT cx ?_
    | refine VW.condF cx ?_
    | refine VW.cond ex ?_ ?_
    | refine imp_nt ?_
    | refine imp_nf ?_
    | refine imp_dt (fun _ => ?_)
    | refine imp_df (fun _ => ?_)
    | (refine fun (_ : _ = true) => ?_)
    | (refine fun (_ : _ = false) => ?_)
    | refine vg_t ?_ ?_
    | refine vg_f ?_ ?_)
      refine ⟨_, hlt, it, seen ++ [j], ks.length, sput wl' x h', cx, cx, cx, cx, Nat.le_refl _, rfl, cx, cx, cx, ?_, ?_⟩
      · rintro y ⟨q, hq, hqy⟩
        rw [sval_put]
        split
        · rfl
        · rename_i hne
          rcases List.mem_append.1 hq with h | h
          · exact hw1 y ⟨q, h, hqy⟩
          · simp at h; subst h; rw [hx] at hqy; injection hqy with hqy; exact absurd hqy.symm hne
      · intro y hy
        rw [sval_put, if_neg fun h => hy ⟨j, by simp, by rw [h]; exact hx⟩]
        exact hw2 y fun ⟨q, hq, hqy⟩ => hy ⟨q, List.mem_append_left _ hq, hqy⟩
    · have hwl : ∀ x, sval wl' x = if x ∈ ks then some h' else sval wl x := fun x => by
        split
        · rename_i hx
          obtain ⟨j, hj⟩ := List.mem_iff_getElem?.1 hx
          have hjl := (List.getElem?_eq_some_iff.1 hj).1
          exact hw1 x ⟨j, hall j hjl hjl, hj⟩
        · rename_i hx
          exact hw2 x fun ⟨j, _, hj⟩ => hx (List.mem_of_getElem? hj)
      have hok : (({ g with h := h' } : Mg).put 1 ⟨false, 0, .nilm⟩).ok b := Mg.put_ok hg rfl
      repeat' (first
    | exact True.intro
    | refine VW.seq ?_
    | refine VW.block ?_
    | ((first | refine VW.skip ?_ | refine VW.exit ?_ | refine VW.reg ?_ | refine VW.regD ?_ | refine VW.ret ?_ | show goA _ _ _ _ _ _ _ _ _ _ | show goB _ _ _ _ _ _ _ _ _ | show goAD _ _ _ _ _ _ _ _ _ _ _ _ _ _ | show goBD _ _ _ _ _ _ _ _ _ _ _); refine sx ?_)
    | refine VW.condT cx ?_
    | refine VW.condF cx ?_
    | refine VW.cond ex ?_ ?_
    | refine imp_nt ?_
    | refine imp_nf ?_
    | refine imp_dt (fun _ => ?_)
    | refine imp_df (fun _ => ?_)
    | (refine fun (_ : _ = true) => ?_)
    | (refine fun (_ : _ = false) => ?_)
    | refine vg_t ?_ ?_
    | refine vg_f ?_ ?_)
      refine ⟨_, _, ⟨rfl, wl', hwl, rfl⟩, ?_⟩
      exact .keep exR cxL (three_keep hM hW hK (by simp -implicitDefEqProofs only [eng, reduceIte, reduceCtorEq, Nat.reduceAdd, Nat.reduceMul, Nat.reduceSub, Nat.reduceEqDiff, Nat.reduceLeDiff, Nat.reduceLT, Nat.reduceDiv, Nat.reduceMod, Int.reduceLE, Int.reduceLT, Int.reduceEq, Int.reduceNeg, Int.reduceAdd, Int.reduceSub, Int.reduceToNat, Nat.reducePow, Int.ofNat_zero, Int.natCast_one, Int.cast_ofNat_Int, Mg.put, Mg.box, *]) (cx) (cx) (Mg.blt hok) (flatM_lt wmap_flat).1 kmap_lt.1 rfl (flatM_lt wmap_flat).2 kmap_lt.2)
  · simp only [Mg.get] at ho hgk ⊢
    repeat' (first
    | exact True.intro
    | refine VW.seq ?_
    | refine VW.block ?_
    | ((first | refine VW.skip ?_ | refine VW.exit ?_ | refine VW.reg ?_ | refine VW.regD ?_ | refine VW.ret ?_ | show goA _ _ _ _ _ _ _ _ _ _ | show goB _ _ _ _ _ _ _ _ _ | show goAD _ _ _ _ _ _ _ _ _ _ _ _ _ _ | show goBD _ _ _ _ _ _ _ _ _ _ _); refine sx ?_)
    | refine VW.condT cx ?_
    | refine VW.condF cx ?_
    | refine VW.cond ex ?_ ?_
    | refine imp_nt ?_
    | refine imp_nf ?_
    | refine imp_dt (fun _ => ?_)
    | refine imp_df (fun _ => ?_)
    | (refine fun (_ : _ = true) => ?_)
    | (refine fun (_ : _ = false) => ?_)
    | refine vg_t ?_ ?_
    | refine vg_f ?_ ?_)
    refine VW.loop (JC { g with h := h' } 8 M W K wl ks h') _ ⟨_, [], _, wl, by simp -implicitDefEqProofs only [eng, reduceIte, reduceCtorEq, Nat.reduceAdd, Nat.reduceMul, Nat.reduceSub, Nat.reduceEqDiff, Nat.reduceLeDiff, Nat.reduceLT, Nat.reduceDiv, Nat.reduceMod, Int.reduceLE, Int.reduceLT, Int.reduceEq, Int.reduceNeg, Int.reduceAdd, Int.reduceSub, Int.reduceToNat, Nat.reducePow, Int.ofNat_zero, Int.natCast_one, Int.cast_ofNat_Int]; rfl, cy, cy, cx, Nat.le_refl _, rfl, by simp -implicitDefEqProofs only [eng, reduceIte, reduceCtorEq, Nat.reduceAdd, Nat.reduceMul, Nat.reduceSub, Nat.reduceEqDiff, Nat.reduceLeDiff, Nat.reduceLT, Nat.reduceDiv, Nat.reduceMod, Int.reduceLE, Int.reduceLT, Int.reduceEq, Int.reduceNeg, Int.reduceAdd, Int.reduceSub, Int.reduceToNat, Nat.reducePow, Int.ofNat_zero, Int.natCast_one, Int.cast_ofNat_Int, Mg.box, *], cx, cx, by simp, by simp⟩ ?_
    clear hm hmk hmw m
    rintro k e m nx ⟨it, seen, last, wl', e37, e7, e0, hit, hlast, rfl, hm, hmw, hmk, hw1, hw2⟩
    have q1 := ne_of_obj hm hit (by simp)
    have q2 := ne_of_obj hmw hit (by simp)
    have q3 := ne_of_obj hmk hit (by simp)
    have q4 := ne_of_obj hit hmk (by simp)
    have q5 := ne_of_obj hit hmw (by simp)
    refine VW.below hm fun hlM => VW.below hmw fun hlW => VW.below hmk fun hlK => ?_
    obtain ⟨n1', n2', n3', n4', n5'⟩ := below_ne hlM
    obtain ⟨l1', l2', l3', l4', l5'⟩ := below_ne hlW
    obtain ⟨k1', k2', k3', k4', k5'⟩ := below_ne hlK
    repeat' (first
    | exact True.intro
    | refine VW.seq ?_
    | refine VW.block ?_
    | ((first | refine VW.skip ?_ | refine VW.exit ?_ | refine VW.reg ?_ | refine VW.regD ?_ | refine VW.ret ?_ | show goA _ _ _ _ _ _ _ _ _ _ | show goB _ _ _ _ _ _ _ _ _ | show goAD _ _ _ _ _ _ _ _ _ _ _ _ _ _ | show goBD _ _ _ _ _ _ _ _ _ _ _); refine sx ?_)
    | refine VW.condT cx ?_
    | refine VW.condF cx ?_
    | refine VW.cond ex ?_ ?_
    | refine imp_nt ?_
    | refine imp_nf ?_
    | refine imp_dt (fun _ => ?_)
    | refine imp_df (fun _ => ?_)
    | (refine fun (_ : _ = true) => ?_)
    | (refine fun (_ : _ = false) => ?_)
    | refine vg_t ?_ ?_
    | refine vg_f ?_ ?_)
    refine ⟨fun j r hj hr => ?_, fun hall => ?_⟩
    · obtain ⟨x, hx, rfl⟩ : ∃ x, ks[j]? = some x ∧ r = (.str x, .bool true) := by
        simp only [kmap, List.getElem?_map, Option.map_eq_some_iff] at hr
        obtain ⟨x, h1, h2⟩ := hr
        exact ⟨x, h1, h2.symm⟩
      have hjl : j < ks.length := (List.getElem?_eq_some_iff.1 hx).1
      have hgl : (seen ++ [j]).getLast? = some j := by simp
      have hlt := unseen_lt hjl hj
      obtain ⟨ro, hro, _, _, hput⟩ := look_map (ev := iv) MK.str x wl'
      have hput' := hput h'
      clear hput
      repeat' (first
    | exact True.intro
    | refine VW.seq ?_
    | refine VW.block ?_
    | ((first | refine VW.skip ?_ | refine VW.exit ?_ | refine VW.reg ?_ | refine VW.regD ?_ | refine VW.ret ?_ | show goA _ _ _ _ _ _ _ _ _ _ | show goB _ _ _ _ _ _ _ _ _ | show goAD _ _ _ _ _ _ _ _ _ _ _ _ _ _ | show goBD _ _ _ _ _ _ _ _ _ _ _); refine sx ?_)
    | refine VW.condT cx ?_
    | refine VW.condF cx ?_
    | refine VW.cond ex ?_ ?_
    | refine imp_nt ?_
    | refine imp_nf ?_
    | refine imp_dt (fun _ => ?_)
    | refine imp_df (fun _ => ?_)
    | (refine fun (_ : _ = true) => ?_)
    | (refine fun (_ : _ = false) => ?_)
    | refine vg_t ?_ ?_
    | refine vg_f ?_ ?_)
      refine ⟨_, hlt, it, seen ++ [j], ks.length, sput wl' x h', cx, cx, cx, cx, Nat.le_refl _, rfl, cx, cx, cx, ?_, ?_⟩
      · rintro y ⟨q, hq, hqy⟩
        rw [sval_put]
        split
        · rfl
        · rename_i hne
          rcases List.mem_append.1 hq with h | h
          · exact hw1 y ⟨q, h, hqy⟩
          · simp at h; subst h; rw [hx] at hqy; injection hqy with hqy; exact absurd hqy.symm hne
      · intro y hy
        rw [sval_put, if_neg fun h => hy ⟨j, by simp, by rw [h]; exact hx⟩]
        exact hw2 y fun ⟨q, hq, hqy⟩ => hy ⟨q, List.mem_append_left _ hq, hqy⟩
    · have hwl : ∀ x, sval wl' x = if x ∈ ks then some h' else sval wl x := fun x => by
        split
        · rename_i hx
          obtain ⟨j, hj⟩ := List.mem_iff_getElem?.1 hx
          have hjl := (List.getElem?_eq_some_iff.1 hj).1
          exact hw1 x ⟨j, hall j hjl hjl, hj⟩
        · rename_i hx
          exact hw2 x fun ⟨j, _, hj⟩ => hx (List.mem_of_getElem? hj)
      have hok : (({ g with h := h' } : Mg).put 2 ⟨false, 0, .nilm⟩).ok b := Mg.put_ok hg rfl
      repeat' (first
    | exact True.intro
    | refine VW.seq ?_
    | refine VW.block ?_
    | ((first | refine VW.skip ?_ | refine VW.exit ?_ | refine VW.reg ?_ | refine VW.regD ?_ | refine VW.ret ?_ | show goA _ _ _ _ _ _ _ _ _ _ | show goB _ _ _ _ _ _ _ _ _ | show goAD _ _ _ _ _ _ _ _ _ _ _ _ _ _ | show goBD _ _ _ _ _ _ _ _ _ _ _); refine sx ?_)
    | refine VW.condT cx ?_
    | refine VW.condF cx ?_
    | refine VW.cond ex ?_ ?_
    | refine imp_nt ?_
    | refine imp_nf ?_
    | refine imp_dt (fun _ => ?_)
    | refine imp_df (fun _ => ?_)
    | (refine fun (_ : _ = true) => ?_)
    | (refine fun (_ : _ = false) => ?_)
    | refine vg_t ?_ ?_
    | refine vg_f ?_ ?_)
      refine ⟨_, _, ⟨rfl, wl', hwl, rfl⟩, ?_⟩
      exact .keep exR cxL (three_keep hM hW hK (by simp -implicitDefEqProofs only [eng, reduceIte, reduceCtorEq, Nat.reduceAdd, Nat.reduceMul, Nat.reduceSub, Nat.reduceEqDiff, Nat.reduceLeDiff, Nat.reduceLT, Nat.reduceDiv, Nat.reduceMod, Int.reduceLE, Int.reduceLT, Int.reduceEq, Int.reduceNeg, Int.reduceAdd, Int.reduceSub, Int.reduceToNat, Nat.reducePow, Int.ofNat_zero, Int.natCast_one, Int.cast_ofNat_Int, Mg.put, Mg.box, *]) (cx) (cx) (Mg.blt hok) (flatM_lt wmap_flat).1 kmap_lt.1 rfl (flatM_lt wmap_flat).2 kmap_lt.2)
  · simp only [Mg.get] at ho hgk ⊢
    repeat' (first
    | exact True.intro
    | refine VW.seq ?_
    | refine VW.block ?_
    | ((first | refine VW.skip ?_ | refine VW.exit ?_ | refine VW.reg ?_ | refine VW.regD ?_ | refine VW.ret ?_ | show goA _ _ _ _ _ _ _ _ _ _ | show goB _ _ _ _ _ _ _ _ _ | show goAD _ _ _ _ _ _ _ _ _ _ _ _ _ _ | show goBD _ _ _ _ _ _ _ _ _ _ _); refine sx ?_)
    | refine VW.condT cx ?_
    | refine VW.condF cx ?_
    | refine VW.cond ex ?_ ?_
    | refine imp_nt ?_
    | refine imp_nf ?_
    | refine imp_dt (fun _ => ?_)
    | refine imp_df (fun _ => ?_)
    | (refine fun (_ : _ = true) => ?_)
    | (refine fun (_ : _ = false) => ?_)
    | refine vg_t ?_ ?_
    | refine vg_f ?_ ?_)
    refine VW.loop (JC { g with h := h' } 11 M W K wl ks h') _ ⟨_, [], _, wl, by simp -implicitDefEqProofs only [eng, reduceIte, reduceCtorEq, Nat.reduceAdd, Nat.reduceMul, Nat.reduceSub, Nat.reduceEqDiff, Nat.reduceLeDiff, Nat.reduceLT, Nat.reduceDiv, Nat.reduceMod, Int.reduceLE, Int.reduceLT, Int.reduceEq, Int.reduceNeg, Int.reduceAdd, Int.reduceSub, Int.reduceToNat, Nat.reducePow, Int.ofNat_zero, Int.natCast_one, Int.cast_ofNat_Int]; rfl, cy, cy, cx, Nat.le_refl _, rfl, by simp -implicitDefEqProofs only [eng, reduceIte, reduceCtorEq, Nat.reduceAdd, Nat.reduceMul, Nat.reduceSub, Nat.reduceEqDiff, Nat.reduceLeDiff, Nat.reduceLT, Nat.reduceDiv, Nat.reduceMod, Int.reduceLE, Int.reduceLT, Int.reduceEq, Int.reduceNeg, Int.reduceAdd, Int.reduceSub, Int.reduceToNat, Nat.reducePow, Int.ofNat_zero, Int.natCast_one, Int.cast_ofNat_Int, Mg.box, *], cx, cx, by simp, by simp⟩ ?_
    clear hm hmk hmw m
    rintro k e m nx ⟨it, seen, last, wl', e37, e7, e0, hit, hlast, rfl, hm, hmw, hmk, hw1, hw2⟩
    have q1 := ne_of_obj hm hit (by simp)
    have q2 := ne_of_obj hmw hit (by simp)
    have q3 := ne_of_obj hmk hit (by simp)
    have q4 := ne_of_obj hit hmk (by simp)
    have q5 := ne_of_obj hit hmw (by simp)
    refine VW.below hm fun hlM => VW.below hmw fun hlW => VW.below hmk fun hlK => ?_
    obtain ⟨n1', n2', n3', n4', n5'⟩ := below_ne hlM
    obtain ⟨l1', l2', l3', l4', l5'⟩ := below_ne hlW
    obtain ⟨k1', k2', k3', k4', k5'⟩ := below_ne hlK
    repeat' (first
    | exact True.intro
    | refine VW.seq ?_
    | refine VW.block ?_
    | ((first | refine VW.skip ?_ | refine VW.exit ?_ | refine VW.reg ?_ | refine VW.regD ?_ | refine VW.ret ?_ | show goA _ _ _ _ _ _ _ _ _ _ | show goB _ _ _ _ _ _ _ _ _ | show goAD _ _ _ _ _ _ _ _ _ _ _ _ _ _ | show goBD _ _ _ _ _ _ _ _ _ _ _); refine sx ?_)
    | refine VW.condT cx ?_
    | refine VW.condF cx ?_
    | refine VW.cond ex ?_ ?_
    | refine imp_nt ?_
    | refine imp_nf ?_
    | refine imp_dt (fun _ => ?_)
    | refine imp_df (fun _ => ?_)
    | (refine fun (_ : _ = true) => ?_)
    | (refine fun (_ : _ = false) => ?_)
    | refine vg_t ?_ ?_
    | refine vg_f ?_ ?_)
    refine ⟨fun j r hj hr => ?_, fun hall => ?_⟩
    · obtain ⟨x, hx, rfl⟩ : ∃ x, ks[j]? = some x ∧ r = (.str x, .bool true) := by
        simp only [kmap, List.getElem?_map, Option.map_eq_some_iff] at hr
        obtain ⟨x, h1, h2⟩ := hr
        exact ⟨x, h1, h2.symm⟩
      have hjl : j < ks.length := (List.getElem?_eq_some_iff.1 hx).1
      have hgl : (seen ++ [j]).getLast? = some j := by simp
      have hlt := unseen_lt hjl hj
      obtain ⟨ro, hro, _, _, hput⟩ := look_map (ev := iv) MK.str x wl'
      have hput' := hput h'
      clear hput
      repeat' (first
    | exact True.intro
    | refine VW.seq ?_
    | refine VW.block ?_
    | ((first | refine VW.skip ?_ | refine VW.exit ?_ | refine VW.reg ?_ | refine VW.regD ?_ | refine VW.ret ?_ | show goA _ _ _ _ _ _ _ _ _ _ | show goB _ _ _ _ _ _ _ _ _ | show goAD _ _ _ _ _ _ _ _ _ _ _ _ _ _ | show goBD _ _ _ _ _ _ _ _ _ _ _); refine sx ?_)
    | refine VW.condT cx ?_
    | refine VW.condF cx ?_
    | refine VW.cond ex ?_ ?_
    | refine imp_nt ?_
    | refine imp_nf ?_
    | refine imp_dt (fun _ => ?_)
    | refine imp_df (fun _ => ?_)
    | (refine fun (_ : _ = true) => ?_)
    | (refine fun (_ : _ = false) => ?_)
    | refine vg_t ?_ ?_
    | refine vg_f ?_ ?_)
      refine ⟨_, hlt, it, seen ++ [j], ks.length, sput wl' x h', cx, cx, cx, cx, Nat.le_refl _, rfl, cx, cx, cx, ?_, ?_⟩
      · rintro y ⟨q, hq, hqy⟩
        rw [sval_put]
        split
        · rfl
        · rename_i hne
          rcases List.mem_append.1 hq with h | h
          · exact hw1 y ⟨q, h, hqy⟩
          · simp at h; subst h; rw [hx] at hqy; injection hqy with hqy; exact absurd hqy.symm hne
      · intro y hy
        rw [sval_put, if_neg fun h => hy ⟨j, by simp, by rw [h]; exact hx⟩]
        exact hw2 y fun ⟨q, hq, hqy⟩ => hy ⟨q, List.mem_append_left _ hq, hqy⟩
    · have hwl : ∀ x, sval wl' x = if x ∈ ks then some h' else sval wl x := fun x => by
        split
        · rename_i hx
          obtain ⟨j, hj⟩ := List.mem_iff_getElem?.1 hx
          have hjl := (List.getElem?_eq_some_iff.1 hj).1
          exact hw1 x ⟨j, hall j hjl hjl, hj⟩
        · rename_i hx
          exact hw2 x fun ⟨j, _, hj⟩ => hx (List.mem_of_getElem? hj)
      have hok : (({ g with h := h' } : Mg).put 3 ⟨false, 0, .nilm⟩).ok b := Mg.put_ok hg rfl
      repeat' (first
    | exact True.intro
    | refine VW.seq ?_
    | refine VW.block ?_
    | ((first | refine VW.skip ?_ | refine VW.exit ?_ | refine VW.reg ?_ | refine VW.regD ?_ | refine VW.ret ?_ | show goA _ _ _ _ _ _ _ _ _ _ | show goB _ _ _ _ _ _ _ _ _ | show goAD _ _ _ _ _ _ _ _ _ _ _ _ _ _ | show goBD _ _ _ _ _ _ _ _ _ _ _); refine sx ?_)
    | refine VW.condT cx ?_
    | refine VW.condF cx ?_
    | refine VW.cond ex ?_ ?_
    | refine imp_nt ?_
    | refine imp_nf ?_
    | refine imp_dt (fun _ => ?_)
    | refine imp_df (fun _ => ?_)
    | (refine fun (_ : _ = true) => ?_)
    | (refine fun (_ : _ = false) => ?_)
    | refine vg_t ?_ ?_
    | refine vg_f ?_ ?_)
      refine ⟨_, _, ⟨rfl, wl', hwl, rfl⟩, ?_⟩
      exact .keep exR cxL (three_keep hM hW hK (by simp -implicitDefEqProofs only [eng, reduceIte, reduceCtorEq, Nat.reduceAdd, Nat.reduceMul, Nat.reduceSub, Nat.reduceEqDiff, Nat.reduceLeDiff, Nat.reduceLT, Nat.reduceDiv, Nat.reduceMod, Int.reduceLE, Int.reduceLT, Int.reduceEq, Int.reduceNeg, Int.reduceAdd, Int.reduceSub, Int.reduceToNat, Nat.reducePow, Int.ofNat_zero, Int.natCast_one, Int.cast_ofNat_Int, Mg.put, Mg.box, *]) (cx) (cx) (Mg.blt hok) (flatM_lt wmap_flat).1 kmap_lt.1 rfl (flatM_lt wmap_flat).2 kmap_lt.2)
  
end
end Go.Vx
/- Walks of the manager's functions (txn): Oldest. -/
set_option linter.unusedSimpArgs false
set_option linter.unusedVariables false
set_option maxRecDepth 4000
set_option maxHeartbeats 2000000
namespace Go.Vx
open Go Go.Proofs

def ints (l : List Int) : List (List PV) := l.map fun z => [iv z]
theorem ints_len {l : List Int} : (ints l).length = l.length := by simp [ints]
theorem ints_get {l : List Int} {i : Nat} : (ints l)[i]? = (l[i]?).map fun z => [iv z] := by simp [ints]
theorem ints_app {l : List Int} {z : Int} : ints l ++ [[iv z]] = ints (l ++ [z]) := by simp [ints]
def minL : List Int → Int
  | [] => 0
  | x :: xs => xs.foldl min x
theorem get_of {α : Type} {l : List α} {i : Nat} (h : i < l.length) : ∃ x, l[i]? = some x := ⟨l[i], by simp [h]⟩
theorem i64_nat {n : Nat} (h : n < 9223372036854775807) : IntKind.i64.wrap ((n : Int) + 1) = ((n + 1 : Nat) : Int) := by rw [IntWalk.i64_in _ (by omega)]; rfl

section
variable {P : Program}

def JM (l : List Int) (i : Nat) (e : Env) (m : Mem) (nx : Nat) : Prop :=
  1 ≤ i ∧ e 0 = some (.sl (ints l)) ∧ e 4 = some (iv i) ∧ e 3 = some (iv (minL (l.take i)))

theorem minL_take {l : List Int} {i : Nat} {z : Int} (h0 : 1 ≤ i) (hz : l[i]? = some z) : minL (l.take (i + 1)) = min (minL (l.take i)) z := by
  rw [List.take_add_one, hz]
  obtain ⟨x, xs, h⟩ : ∃ x xs, l.take i = x :: xs := by
    cases l with
    | nil => simp at hz
    | cons x l => obtain ⟨k, rfl⟩ : ∃ k, i = k + 1 := ⟨i - 1, by omega⟩; exact ⟨x, l.take k, rfl⟩
  rw [h]
  simp [minL]

theorem w_min (l : List Int) (h0 : 0 < l.length) (hl : l.length < 1000) (b : Nat) : VW P c46 (PRet (Ends [.tmp 2] b (iv (minL l)) mt)) (fun t => [PV.sl (ints l)][t]?) mt b := by
  unfold c46
  have hlen := ints_len (l := l)
  obtain ⟨z0, hz0⟩ := get_of h0
  have hz0' : (ints l)[0]? = some [iv z0] := by rw [ints_get, hz0]; rfl
  have hnl : ¬ (l.length : Int) < 1 := by omega
  repeat' (first
    | exact True.intro
    | refine VW.seq ?_
    | refine VW.block ?_
    | ((first | refine VW.skip ?_ | refine VW.exit ?_ | refine VW.reg ?_ | refine VW.regD ?_ | refine VW.ret ?_ | show goA _ _ _ _ _ _ _ _ _ _ | show goB _ _ _ _ _ _ _ _ _ | show goAD _ _ _ _ _ _ _ _ _ _ _ _ _ _ | show goBD _ _ _ _ _ _ _ _ _ _ _); refine sx ?_)
    | refine VW.condT cx ?_
    | refine VW.condF cx ?_
    | refine VW.cond ex ?_ ?_
    | refine imp_nt ?_
    | refine imp_nf ?_
    | refine imp_dt (fun _ => ?_)
    | refine imp_df (fun _ => ?_)
    | (refine fun (_ : _ = true) => ?_)
    | (refine fun (_ : _ = false) => ?_)
    | refine vg_t ?_ ?_
    | refine vg_f ?_ ?_)
  refine VW.forN l.length (JM l) 1 (by omega) ⟨Nat.le_refl _, cy, ey, ?_⟩ ?_
  · simp -implicitDefEqProofs only [eng, reduceIte, reduceCtorEq, Nat.reduceAdd, Nat.reduceMul, Nat.reduceSub, Nat.reduceEqDiff, Nat.reduceLeDiff, Nat.reduceLT, Nat.reduceDiv, Nat.reduceMod, Int.reduceLE, Int.reduceLT, Int.reduceEq, Int.reduceNeg, Int.reduceAdd, Int.reduceSub, Int.reduceToNat, Nat.reducePow, Int.ofNat_zero, Int.natCast_one, Int.cast_ofNat_Int]
    cases l with
    | nil => simp at h0
    | cons x l => simp at hz0; subst hz0; rfl
  clear hz0 hz0' hnl z0
  rintro i e m nx hi ⟨hi1, e0, e4, e3⟩
  by_cases hin : i < l.length
  · have hin' : (i : Int) < l.length := by omega
    obtain ⟨z, hz⟩ := get_of hin
    have hz' : (ints l)[i]? = some [iv z] := by rw [ints_get, hz]; rfl
    have h00 : (0 : Int) ≤ i := by omega
    have htn : (i : Int).toNat = i := Int.toNat_natCast i
    have hw := i64_nat (n := i) (by omega)
    have hm := minL_take hi1 hz
    repeat' (first
    | exact True.intro
    | refine VW.seq ?_
    | refine VW.block ?_
    | ((first | refine VW.skip ?_ | refine VW.exit ?_ | refine VW.reg ?_ | refine VW.regD ?_ | refine VW.ret ?_ | show goA _ _ _ _ _ _ _ _ _ _ | show goB _ _ _ _ _ _ _ _ _ | show goAD _ _ _ _ _ _ _ _ _ _ _ _ _ _ | show goBD _ _ _ _ _ _ _ _ _ _ _); refine sx ?_)
    | refine VW.condT cx ?_
    | refine VW.condF cx ?_
    | refine VW.cond ex ?_ ?_
    | refine imp_nt ?_
    | refine imp_nf ?_
    | refine imp_dt (fun _ => ?_)
    | refine imp_df (fun _ => ?_)
    | (refine fun (_ : _ = true) => ?_)
    | (refine fun (_ : _ = false) => ?_)
    | refine vg_t ?_ ?_
    | refine vg_f ?_ ?_)
    exact ⟨by omega, cx, cx, cx⟩
  · have hin' : ¬ (i : Int) < l.length := by omega
    have hdr : l.take i = l := List.take_of_length_le (by omega)
    rw [hdr] at e3
    repeat' (first
    | exact True.intro
    | refine VW.seq ?_
    | refine VW.block ?_
    | ((first | refine VW.skip ?_ | refine VW.exit ?_ | refine VW.reg ?_ | refine VW.regD ?_ | refine VW.ret ?_ | show goA _ _ _ _ _ _ _ _ _ _ | show goB _ _ _ _ _ _ _ _ _ | show goAD _ _ _ _ _ _ _ _ _ _ _ _ _ _ | show goBD _ _ _ _ _ _ _ _ _ _ _); refine sx ?_)
    | refine VW.condT cx ?_
    | refine VW.condF cx ?_
    | refine VW.cond ex ?_ ?_
    | refine imp_nt ?_
    | refine imp_nf ?_
    | refine imp_dt (fun _ => ?_)
    | refine imp_df (fun _ => ?_)
    | (refine fun (_ : _ = true) => ?_)
    | (refine fun (_ : _ = false) => ?_)
    | refine vg_t ?_ ?_
    | refine vg_f ?_ ?_)
    exact .v exR exR

def Mg.ses (g : Mg) : List Se := [g.a0, g.a1, g.a2, g.a3]
/-- The instants since which the first i are open. -/
def Mg.opens (g : Mg) (i : Nat) : List Int := ((g.ses.take i).filter (·.o)).map (·.s)
def oldF (l : List Int) : PV := if l.length = 0 then .tup [iv 0, .bool false] else .tup [iv (minL l), .bool true]

def JO (g : Mg) (M : Nat) (i : Nat) (e : Env) (m : Mem) (nx : Nat) : Prop :=
  e 13 = some (iv i) ∧ e 12 = some (.agg [.bool g.a0.o, iv g.a0.s, g.a0.k, .bool g.a1.o, iv g.a1.s, g.a1.k, .bool g.a2.o, iv g.a2.s, g.a2.k, .bool g.a3.o, iv g.a3.s, g.a3.k]) ∧ m M = some g.box ∧ ∃ id, e 4 = some (.osl id (g.opens i).length) ∧ m id = some (.row 1 (ints (g.opens i)) 3 false)

theorem opens_lt (g : Mg) (i : Nat) : (g.opens i).length ≤ 4 := by
  unfold Mg.opens
  rw [List.length_map]
  refine Nat.le_trans (List.length_filter_le _ _) ?_
  rw [List.length_take]
  simp [Mg.ses]; omega

theorem w_oldest (h1 : ∀ (l : List Int) b, 0 < l.length → l.length < 1000 → V P 46 [.sl (ints l)] mt b (iv (minL l)) mt) (M b : Nat) (hM : M < b) (g : Mg) (hg : g.ok b) (m : Mem) (hm : m M = some g.box) :
    VW P c24 (PRet (Ends [.tmp 2, .tmp 3] b (oldF (g.opens 4)) (ofL [(M, g.box)]))) (fun t => [PV.ptr M 15 0 0][t]?) m b := by
  unfold c24
  obtain ⟨n1, n2, n3, n4, n5⟩ := below_ne hM
  repeat' (first
    | exact True.intro
    | refine VW.seq ?_
    | refine VW.block ?_
    | ((first | refine VW.skip ?_ | refine VW.exit ?_ | refine VW.reg ?_ | refine VW.regD ?_ | refine VW.ret ?_ | show goA _ _ _ _ _ _ _ _ _ _ | show goB _ _ _ _ _ _ _ _ _ | show goAD _ _ _ _ _ _ _ _ _ _ _ _ _ _ | show goBD _ _ _ _ _ _ _ _ _ _ _); refine sx ?_)
    | refine VW.condT cx ?_
    | refine VW.condF cx ?_
    | refine VW.cond ex ?_ ?_
    | refine imp_nt ?_
    | refine imp_nf ?_
    | refine imp_dt (fun _ => ?_)
    | refine imp_df (fun _ => ?_)
    | (refine fun (_ : _ = true) => ?_)
    | (refine fun (_ : _ = false) => ?_)
    | refine vg_t ?_ ?_
    | refine vg_f ?_ ?_)
  refine VW.forN 4 (JO g M) 0 (by omega) ⟨ey, cy, cx, _, ey, ey⟩ ?_
  clear hm m
  rintro i e m nx hi ⟨e13, e12, hm, id, e4, hid⟩
  refine VW.below hm fun hlM => VW.below hid fun hlI => ?_
  obtain ⟨n1', n2', n3', n4', n5'⟩ := below_ne hlM
  obtain ⟨l1', l2', l3', l4', l5'⟩ := below_ne hlI
  have q1 := ne_of_obj hm hid (by simp)
  have q2 := ne_of_obj hid hm (by simp)
  have hln := opens_lt g i
  have hil := ints_len (l := g.opens i)
  by_cases h4 : i = 4
  · subst h4
    replace e13 : e 13 = some (iv 4) := e13
    have hk : ∀ m' : Mem, m' M = some g.box → ∀ x ∈ [(M, g.box)], m' x.1 = some x.2 ∧ x.1 < b ∧ x.2.lt (b + 8) = true ∧ x.2.fix b = true := fun m' h => one_keep hM h hg
    by_cases h0 : (g.opens 4).length = 0
    · have hold : oldF (g.opens 4) = .tup [iv 0, .bool false] := by simp [oldF, h0]
      repeat' (first
    | exact True.intro
    | refine VW.seq ?_
    | refine VW.block ?_
    | ((first | refine VW.skip ?_ | refine VW.exit ?_ | refine VW.reg ?_ | refine VW.regD ?_ | refine VW.ret ?_ | show goA _ _ _ _ _ _ _ _ _ _ | show goB _ _ _ _ _ _ _ _ _ | show goAD _ _ _ _ _ _ _ _ _ _ _ _ _ _ | show goBD _ _ _ _ _ _ _ _ _ _ _); refine sx ?_)
    | refine VW.condT cx ?_
    | refine VW.condF cx ?_
    | refine VW.cond ex ?_ ?_
    | refine imp_nt ?_
    | refine imp_nf ?_
    | refine imp_dt (fun _ => ?_)
    | refine imp_df (fun _ => ?_)
    | (refine fun (_ : _ = true) => ?_)
    | (refine fun (_ : _ = false) => ?_)
    | refine vg_t ?_ ?_
    | refine vg_f ?_ ?_)
      exact .keep exR cxL (hk _ (cx))
    · have hold : oldF (g.opens 4) = .tup [iv (minL (g.opens 4)), .bool true] := by simp [oldF, h0]
      have h0' : ¬ ((g.opens 4).length : Int) = 0 := by omega
      repeat' (first
    | exact True.intro
    | refine VW.seq ?_
    | refine VW.block ?_
    | ((first | refine VW.skip ?_ | refine VW.exit ?_ | refine VW.reg ?_ | refine VW.regD ?_ | refine VW.ret ?_ | show goA _ _ _ _ _ _ _ _ _ _ | show goB _ _ _ _ _ _ _ _ _ | show goAD _ _ _ _ _ _ _ _ _ _ _ _ _ _ | show goBD _ _ _ _ _ _ _ _ _ _ _); refine sx ?_)
    | refine VW.condT cx ?_
    | refine VW.condF cx ?_
    | refine VW.cond ex ?_ ?_
    | refine imp_nt ?_
    | refine imp_nf ?_
    | refine imp_dt (fun _ => ?_)
    | refine imp_df (fun _ => ?_)
    | (refine fun (_ : _ = true) => ?_)
    | (refine fun (_ : _ = false) => ?_)
    | refine vg_t ?_ ?_
    | refine vg_f ?_ ?_)
      refine VC.o1 rfl (ex) (ex) (h1 (g.opens 4) _ (by omega) (by omega)) hil.symm rfl ?_
      refine sx ?_
      repeat' (first
    | exact True.intro
    | refine VW.seq ?_
    | refine VW.block ?_
    | ((first | refine VW.skip ?_ | refine VW.exit ?_ | refine VW.reg ?_ | refine VW.regD ?_ | refine VW.ret ?_ | show goA _ _ _ _ _ _ _ _ _ _ | show goB _ _ _ _ _ _ _ _ _ | show goAD _ _ _ _ _ _ _ _ _ _ _ _ _ _ | show goBD _ _ _ _ _ _ _ _ _ _ _); refine sx ?_)
    | refine VW.condT cx ?_
    | refine VW.condF cx ?_
    | refine VW.cond ex ?_ ?_
    | refine imp_nt ?_
    | refine imp_nf ?_
    | refine imp_dt (fun _ => ?_)
    | refine imp_df (fun _ => ?_)
    | (refine fun (_ : _ = true) => ?_)
    | (refine fun (_ : _ = false) => ?_)
    | refine vg_t ?_ ?_
    | refine vg_f ?_ ?_)
      exact .keep exR cxL (hk _ (cx))
  · have key : ∃ s : Se, g.ses[i]? = some s ∧ ∀ cs, cs = [PV.bool g.a0.o, iv g.a0.s, g.a0.k, .bool g.a1.o, iv g.a1.s, g.a1.k, .bool g.a2.o, iv g.a2.s, g.a2.k, .bool g.a3.o, iv g.a3.s, g.a3.k] → (cs.drop (i * 3)).take 3 = [.bool s.o, iv s.s, s.k] ∧ i * 3 + 3 ≤ cs.length := by
      have : i = 0 ∨ i = 1 ∨ i = 2 ∨ i = 3 := by omega
      rcases this with rfl | rfl | rfl | rfl <;> exact ⟨_, rfl, fun cs h => by subst h; exact ⟨rfl, by simp⟩⟩
    obtain ⟨s, hs, hcs⟩ := key
    obtain ⟨c1, c2⟩ := hcs _ rfl
    clear hcs
    have hi4 : (i : Int) < 4 := by omega
    have hi9 : i * 3 ≤ 9 := by omega
    have hi4' : i < 4 := by omega
    have h00 : (0 : Int) ≤ i := by omega
    have htn : (i : Int).toNat = i := Int.toNat_natCast i
    have hw := i64_nat (n := i) (by omega)
    have hstep : g.opens (i + 1) = g.opens i ++ if s.o then [s.s] else [] := by
      unfold Mg.opens
      rw [List.take_add_one, hs]
      cases hso : s.o <;> simp [List.filter_cons, hso]
    cases hso : s.o
    · rw [hso] at hstep c1
      simp only [Bool.false_eq_true, if_false, List.append_nil] at hstep
      repeat' (first
    | exact True.intro
    | refine VW.seq ?_
    | refine VW.block ?_
    | ((first | refine VW.skip ?_ | refine VW.exit ?_ | refine VW.reg ?_ | refine VW.regD ?_ | refine VW.ret ?_ | show goA _ _ _ _ _ _ _ _ _ _ | show goB _ _ _ _ _ _ _ _ _ | show goAD _ _ _ _ _ _ _ _ _ _ _ _ _ _ | show goBD _ _ _ _ _ _ _ _ _ _ _); refine sx ?_)
    | refine VW.condT cx ?_
    | refine VW.condF cx ?_
    | refine VW.cond ex ?_ ?_
    | refine imp_nt ?_
    | refine imp_nf ?_
    | refine imp_dt (fun _ => ?_)
    | refine imp_df (fun _ => ?_)
    | (refine fun (_ : _ = true) => ?_)
    | (refine fun (_ : _ = false) => ?_)
    | refine vg_t ?_ ?_
    | refine vg_f ?_ ?_)
      exact ⟨cx, cx, cx, id, cx, cx⟩
    · rw [hso] at hstep c1
      simp only [if_true] at hstep
      have hfl : ((g.opens i).length + 1) * 8 ≤ 140737488355328 := by omega
      repeat' (first
    | exact True.intro
    | refine VW.seq ?_
    | refine VW.block ?_
    | ((first | refine VW.skip ?_ | refine VW.exit ?_ | refine VW.reg ?_ | refine VW.regD ?_ | refine VW.ret ?_ | show goA _ _ _ _ _ _ _ _ _ _ | show goB _ _ _ _ _ _ _ _ _ | show goAD _ _ _ _ _ _ _ _ _ _ _ _ _ _ | show goBD _ _ _ _ _ _ _ _ _ _ _); refine sx ?_)
    | refine VW.condT cx ?_
    | refine VW.condF cx ?_
    | refine VW.cond ex ?_ ?_
    | refine imp_nt ?_
    | refine imp_nf ?_
    | refine imp_dt (fun _ => ?_)
    | refine imp_df (fun _ => ?_)
    | (refine fun (_ : _ = true) => ?_)
    | (refine fun (_ : _ = false) => ?_)
    | refine vg_t ?_ ?_
    | refine vg_f ?_ ?_)
      exact ⟨cx, cx, cx, _, by simp -implicitDefEqProofs only [eng, reduceIte, reduceCtorEq, Nat.reduceAdd, Nat.reduceMul, Nat.reduceSub, Nat.reduceEqDiff, Nat.reduceLeDiff, Nat.reduceLT, Nat.reduceDiv, Nat.reduceMod, Int.reduceLE, Int.reduceLT, Int.reduceEq, Int.reduceNeg, Int.reduceAdd, Int.reduceSub, Int.reduceToNat, Nat.reducePow, Int.ofNat_zero, Int.natCast_one, Int.cast_ofNat_Int, *, List.length_append]; rfl, by simp -implicitDefEqProofs only [eng, reduceIte, reduceCtorEq, Nat.reduceAdd, Nat.reduceMul, Nat.reduceSub, Nat.reduceEqDiff, Nat.reduceLeDiff, Nat.reduceLT, Nat.reduceDiv, Nat.reduceMod, Int.reduceLE, Int.reduceLT, Int.reduceEq, Int.reduceNeg, Int.reduceAdd, Int.reduceSub, Int.reduceToNat, Nat.reducePow, Int.ofNat_zero, Int.natCast_one, Int.cast_ofNat_Int, *, ints_app] <;> rfl⟩

end
end Go.Vx
