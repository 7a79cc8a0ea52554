/- Calls of the manager's functions, with no memory in sight; other objects stay. -/
import Derived.Test.YtgkkffhoflgpoaaGL
set_option linter.unusedSimpArgs false
set_option linter.unusedVariables false
set_option maxRecDepth 4000
set_option maxHeartbeats 2000000
namespace Go.Vx
open Go Go.Proofs
/-- What no manager owns. -/
def keepO : Obj → Bool
  | .box _ T => decide (T ≠ 61)
  | .map _ => false
  | _ => true
/-- What a call of a manager's function leaves alone. -/
def Fr' (b : Nat) (m m' : Mem) : Prop := (∀ id o, id < b → m id = some o → keepO o = true → m' id = some o) ∧ ∀ id, id < b → m id = none → m' id = none
theorem Fr'.refl {b : Nat} {m : Mem} : Fr' b m m := ⟨fun _ _ _ h _ => h, fun _ _ h => h⟩
theorem Fr'.upd {b : Nat} {m m1 : Mem} (h : Fr' b m m1) {id : Nat} {o o' : Obj} (hm : m id = some o) (ho : keepO o = false) : Fr' b m (upd m1 id (some o')) := by
  refine ⟨fun j p hj hp hk => ?_, fun j hj hn => ?_⟩
  · have : j ≠ id := fun he => by subst he; rw [hm] at hp; injection hp with hp; rw [← hp, ho] at hk; cases hk
    rw [upd_other _ _ this]; exact h.1 j p hj hp hk
  · have : j ≠ id := fun he => by subst he; rw [hm] at hn; cases hn
    rw [upd_other _ _ this]; exact h.2 j hj hn
theorem Fr'.fresh {b : Nat} {m m1 : Mem} (h : Fr' b m m1) {id : Nat} {o' : Option Obj} (hb : b ≤ id) : Fr' b m (Go.Vx.upd m1 id o') := by
  refine ⟨fun j p hj hp hk => ?_, fun j hj hn => ?_⟩ <;> rw [upd_other _ _ (by omega)]
  · exact h.1 j p hj hp hk
  · exact h.2 j hj hn
theorem Fr'.mono {b b' : Nat} {m m1 : Mem} (h : Fr' b' m m1) (hb : b ≤ b') : Fr' b m m1 := ⟨fun j p hj => h.1 j p (by omega), fun j hj => h.2 j (by omega)⟩
theorem Fr'.trans {b : Nat} {m m1 m2 : Mem} (h : Fr' b m m1) (h' : Fr' b m1 m2) : Fr' b m m2 := ⟨fun j p hj hp hk => h'.1 j p hj (h.1 j p hj hp hk) hk, fun j hj hn => h'.2 j hj (h.2 j hj hn)⟩
theorem keep_box {g : Mg} : keepO g.box = false := rfl
theorem keep_rbox {g : Mg} : keepO g.rbox = true := rfl

def MRz (s : Nat) (a : Ab) (M : Nat) (m : Mem) (b : Nat) : Prop := ∃ W K wl, MRw a M W K wl m b ∧ s ≤ M ∧ s ≤ W ∧ ∀ i, i < 4 → a.se i ≠ none → s ≤ K i
theorem MRz.mr {s : Nat} {a : Ab} {M : Nat} {m : Mem} {b : Nat} (h : MRz s a M m b) : MR a M m b := by obtain ⟨W, K, wl, h, _⟩ := h; exact ⟨W, K, wl, h⟩
theorem MRz.of {s : Nat} {a : Ab} {M : Nat} {m m' : Mem} {b b' : Nat} (h : MRz s a M m b) (hm : ∀ id, id < b → m' id = m id) (hb : b ≤ b') : MRz s a M m' b' := by
  obtain ⟨W, K, wl, h, hs⟩ := h
  exact ⟨W, K, wl, h.of hm hb, hs⟩
/-- What a manager does not own may turn. -/
theorem MRz.upd {s : Nat} {a : Ab} {M : Nat} {m : Mem} {b id : Nat} {o o' : Obj} (h : MRz s a M m b) (hm : m id = some o) (ho : keepO o = true) : MRz s a M (Go.Vx.upd m id (some o')) b := by
  obtain ⟨W, K, wl, h, hs⟩ := h
  have ne : ∀ j p, m j = some p → keepO p = false → j ≠ id := fun j p hj hp he => by subst he; rw [hm] at hj; injection hj with hj; rw [hj, hp] at ho; cases ho
  refine ⟨W, K, wl, ⟨h.hM, h.hW, h.hMW, ?_, ?_, h.mw, fun i hi x hx => ?_, h.kk⟩, hs⟩
  · rw [upd_other _ _ (ne M _ h.m0 rfl)]; exact h.m0
  · rw [upd_other _ _ (ne W _ h.m1 rfl)]; exact h.m1
  · obtain ⟨h1, h2, h3, h4⟩ := h.k i hi x hx
    exact ⟨h1, h2, h3, by rw [upd_other _ _ (ne _ _ h4 rfl)]; exact h4⟩
section
variable {a : Ab} {M b0 b sl : Nat} {m mR : Mem} {z : Int} {nd : Bool} {K : PV → Mem → Prop}

theorem VC.mnewF {m mR : Mem} {b : Nat} {z : Int} {nd : Bool} {K : PV → Mem → Prop} (hk : ∀ m', MRz b ⟨min (max z 0) 1073741824, min (max z 0) 1073741824, fun _ => none, fun _ => none⟩ b m' (b + 8) → Fr' b m m' → K (.ptr b 15 0 0) m') : VC Try.prog b (.f 9) [iv z] true nd K mR m := by
  refine .ol rfl [iv z] [] _ _ ⟨.inl ⟨rfl, rfl⟩, trivial⟩ (by simp) ?_ (V.code mixed k9 (by simp) (w_new z b)) (hk _ ⟨b + 1, fun _ => 0, [], ?_, Nat.le_refl _, by omega, fun i hi h => absurd rfl h⟩ ?_)
  · simp only [List.mem_cons, List.not_mem_nil, or_false, forall_eq, forall_eq_or_imp]; exact ⟨.inr ⟨by omega, by omega⟩, .inr ⟨by omega, by omega⟩⟩
  · rw [sw0n]
    exact ⟨by omega, by omega, by omega, by rw [upd_other _ _ (by omega), upd_same]; rfl, by rw [upd_same]; rfl, rfl, fun i hi x hx => by simp at hx, fun i j hi hj hij h1 h2 => by simp at h1⟩
  · rw [sw0n]
    exact (Fr'.refl.fresh (by omega)).fresh (by omega)

theorem VC.begF (h : MRz sl a M m b0) (hb : b0 ≤ b) (hR : ∀ id, id < b0 → mR id = m id) (hk : ∀ v e a' m', Beg a z v e a' → MRz sl a' M m' (b + 8) → Fr' b m m' → K (.tup [iv v, iv e]) m') : VC Try.prog b (.f 11) [.ptr M 15 0 0, iv z] true nd K mR m := by
  obtain ⟨W, Kf, wl, h, hs1, hs2, hs3⟩ := h
  have hM : M < b := Nat.lt_of_lt_of_le h.hM hb
  have hg : (gOf a Kf W).ok b := h.ok.mono hb
  have e0 := hR _ h.hM
  by_cases hi : In z
  · have hI := hi.ix
    cases ho : a.se z.toNat with
    | some x =>
      have hgo : ((gOf a Kf W).get z.toNat).o = true := by rw [gOf_get hI.2, seF_some ho]
      refine VC.sameR (l := [(M, (gOf a Kf W).box)]) (args2 hM) ?_ (V.code mixed k11 (by simp) (w_begin0 cOne M b hM _ z _ hI hg hgo _ ofL_at)) (hk 0 7 a m (.inr (.inl ⟨x, hi, ho, rfl, rfl, rfl⟩)) ⟨W, Kf, wl, h.of (fun _ _ => rfl) (by omega), hs1, hs2, hs3⟩ .refl)
      simp only [List.mem_cons, List.not_mem_nil, or_false, forall_eq, forall_eq_or_imp]; exact ⟨by rw [e0]; exact h.m0, h.m0, hM, by simpa using Mg.blt (k := 0) hg⟩
    | none =>
      have hgo : ((gOf a Kf W).get z.toNat).o = false := by rw [gOf_get hI.2, seF_none ho]
      refine .ol rfl _ [(M, (gOf a Kf W).box)] _ _ (args2 hM) ?_ ?_ (V.code mixed k11 (by simp) (w_begin1 cOne M b hM (gOf a Kf W) z _ hI hg hgo _ ofL_at)) (hk _ 0 (a.beg z.toNat) _ (.inr (.inr ⟨hi, ho, rfl, rfl, rfl⟩)) ⟨W, fun j => if j = z.toNat then b else Kf j, wl, ?_, hs1, hs2, ?_⟩ ?_)
      · simp only [List.mem_cons, List.not_mem_nil, or_false, forall_eq, forall_eq_or_imp]; exact ⟨by rw [e0]; exact h.m0, hM, by simpa using Mg.blt (k := 0) hg⟩
      · simp only [List.mem_cons, List.not_mem_nil, or_false, forall_eq, forall_eq_or_imp]; exact ⟨.inl (by simp), .inr ⟨by omega, by omega⟩⟩
      · rw [sw1n]
        have hput := gOf_put (a := a) (a' := a.beg z.toNat) (K := Kf) (K' := fun j => if j = z.toNat then b else Kf j) (W := W) (x := ⟨true, max a.h a.c, .map b⟩) hI.2 (by simp [seF, Ab.beg, Ab.set]) (fun j hj => by simp [seF, Ab.beg, Ab.set, hj])
        have hWb := h.hW
        refine ⟨by omega, by omega, h.hMW, ?_, ?_, h.mw, ?_, ?_⟩
        · rw [upd_other _ _ (by omega), upd_same]; exact congrArg (fun g : Mg => some g.box) hput
        · rw [upd_other _ _ (by omega), upd_other _ _ h.hMW.symm]; exact h.m1
        · intro j hj x hx
          by_cases hjz : j = z.toNat
          · simp only [Ab.beg, Ab.set, hjz, if_true, Option.some.injEq] at hx
            subst hx
            simp only [hjz, if_true]
            exact ⟨by omega, by omega, by omega, by rw [upd_same]; rfl⟩
          · simp only [Ab.beg, Ab.set, hjz, if_false] at hx
            simp only [hjz, if_false]
            obtain ⟨h1, h2, h3, h4⟩ := h.k j hj x hx
            exact ⟨by omega, h2, h3, by rw [upd_other _ _ (by omega), upd_other _ _ h2.symm]; exact h4⟩
        · intro i j hi' hj hij h1 h2
          by_cases hiz : i = z.toNat
          · have hjz : j ≠ z.toNat := by omega
            simp only [Ab.beg, Ab.set, hjz, if_false] at h2
            simp only [hiz, if_true, hjz, if_false]
            obtain ⟨x, hx⟩ := Option.ne_none_iff_exists'.1 h2
            have := (h.k j hj x hx).1
            omega
          · simp only [Ab.beg, Ab.set, hiz, if_false] at h1
            obtain ⟨x, hx⟩ := Option.ne_none_iff_exists'.1 h1
            have h3 := (h.k i hi' x hx).1
            by_cases hjz : j = z.toNat
            · simp only [hiz, if_false, hjz, if_true]; omega
            · simp only [Ab.beg, Ab.set, hjz, if_false] at h2
              simp only [hiz, hjz, if_false]
              exact h.kk i j hi' hj hij h1 h2
      · intro j hj hx
        by_cases hjz : j = z.toNat
        · simp only [hjz, if_true]; have := h.hM; omega
        · simp only [hjz, if_false]; exact hs3 j hj (by simpa [Ab.beg, Ab.set, hjz] using hx)
      · rw [sw1n]
        exact (Fr'.refl.upd h.m0 rfl).fresh (Nat.le_refl _)
  · exact VC.pure _ _ (args2 hM) (V.code mixed k11 (by simp) (w_beginR cOne M b hM z (In.out hi))) (hk 0 2 a m (.inl ⟨hi, rfl, rfl, rfl⟩) ⟨W, Kf, wl, h.of (fun _ _ => rfl) (by omega), hs1, hs2, hs3⟩ .refl)

theorem VC.wriF {k : Str} (h : MRz sl a M m b0) (hb : b0 ≤ b) (hR : ∀ id, id < b0 → mR id = m id) (hk : ∀ e a' m', Wri a z k e a' → MRz sl a' M m' (b + 8) → Fr' b m m' → K (iv e) m') : VC Try.prog b (.f 12) [.ptr M 15 0 0, iv z, .str k] true nd K mR m := by
  obtain ⟨W, Kf, wl, h, hs1, hs2, hs3⟩ := h
  have hM : M < b := Nat.lt_of_lt_of_le h.hM hb
  have hg : (gOf a Kf W).ok b := h.ok.mono hb
  have e0 := hR _ h.hM
  by_cases hi : In z
  · have hI := hi.ix
    cases ho : a.se z.toNat with
    | none =>
      have hgo : ((gOf a Kf W).get z.toNat).o = false := by rw [gOf_get hI.2, seF_none ho]
      refine VC.sameR (l := [(M, (gOf a Kf W).box)]) (args3 hM) ?_ (V.code mixed k12 (by simp) (w_write0 cOpened M b hM _ hg z _ hI hgo k _ ofL_at)) (hk 7 a m (.inr (.inl ⟨hi, ho, rfl, rfl⟩)) ⟨W, Kf, wl, h.of (fun _ _ => rfl) (by omega), hs1, hs2, hs3⟩ .refl)
      simp only [List.mem_cons, List.not_mem_nil, or_false, forall_eq, forall_eq_or_imp]; exact ⟨by rw [e0]; exact h.m0, h.m0, hM, by simpa using Mg.blt (k := 0) hg⟩
    | some x =>
      obtain ⟨s, ks⟩ := x
      have hgg : (gOf a Kf W).get z.toNat = ⟨true, s, .map (Kf z.toNat)⟩ := by rw [gOf_get hI.2, seF_some ho]
      obtain ⟨q1, q2, q3, q4⟩ := h.k _ hI.2 _ ho
      obtain ⟨r, hr, hput⟩ := kmap_look ks k
      obtain ⟨o1, o2⟩ := ofL_2 (o := (gOf a Kf W).box) (p := .map (kmap ks)) q2
      refine .ol rfl _ [(M, (gOf a Kf W).box), (Kf z.toNat, .map (kmap ks))] _ _ (args3 hM) ?_ ?_ (V.code mixed k12 (by simp) (w_write1 cOpened M b hM (gOf a Kf W) hg z _ hI (by rw [hgg]) k (Kf z.toNat) (by omega) (by rw [hgg]) q2 (kmap ks) kmap_flat r hr _ o1 o2)) (hk 0 (a.wri z.toNat s (addK ks k)) _ (.inr (.inr ⟨s, ks, hi, ho, rfl, rfl⟩)) ⟨W, Kf, wl, ?_, hs1, hs2, ?_⟩ ?_)
      · simp only [List.mem_cons, List.not_mem_nil, or_false, forall_eq, forall_eq_or_imp]; exact ⟨⟨by rw [e0]; exact h.m0, hM, by simpa using Mg.blt (k := 0) hg⟩, by rw [hR _ q1]; exact q4, by omega, kmap_lt.1⟩
      · simp only [List.mem_cons, List.not_mem_nil, or_false, forall_eq, forall_eq_or_imp]; exact ⟨.inl (by simp), .inl (by simp)⟩
      · rw [sw2, hput]
        have hW := h.hW
        have hse : ∀ j, seF (a.wri z.toNat s (addK ks k)) Kf j = seF a Kf j := fun j => by
          by_cases hj : j = z.toNat
          · subst hj; simp [seF, Ab.wri, Ab.set, ho]
          · simp [seF, Ab.wri, Ab.set, hj]
        have hgo : gOf (a.wri z.toNat s (addK ks k)) Kf W = gOf a Kf W := by simp only [gOf, hse]; rfl
        refine ⟨by omega, by omega, h.hMW, ?_, ?_, h.mw, ?_, ?_⟩
        · rw [upd_other _ _ q2, upd_same, hgo]
        · rw [upd_other _ _ q3, upd_other _ _ h.hMW.symm]; exact h.m1
        · intro j hj x hx
          by_cases hjz : j = z.toNat
          · subst hjz
            simp only [Ab.wri, Ab.set, if_true, Option.some.injEq] at hx
            subst hx
            exact ⟨by omega, q2, q3, by rw [upd_same]⟩
          · simp only [Ab.wri, Ab.set, hjz, if_false] at hx
            obtain ⟨h1, h2, h3, h4⟩ := h.k j hj x hx
            have := h.kk j z.toNat hj hI.2 hjz (by rw [hx]; simp) (by rw [ho]; simp)
            exact ⟨by omega, h2, h3, by rw [upd_other _ _ this, upd_other _ _ h2.symm]; exact h4⟩
        · intro i j hi' hj hij h1 h2
          have hs : ∀ i, (a.wri z.toNat s (addK ks k)).se i ≠ none → a.se i ≠ none := fun i h => by
            by_cases hiz : i = z.toNat
            · subst hiz; rw [ho]; simp
            · simpa [Ab.wri, Ab.set, hiz] using h
          exact h.kk i j hi' hj hij (hs i h1) (hs j h2)
      · intro j hj hx
        by_cases hjz : j = z.toNat
        · exact hs3 j hj (by rw [hjz, ho]; simp)
        · exact hs3 j hj (by simpa [Ab.wri, Ab.set, hjz] using hx)
      · rw [sw2]
        exact (Fr'.refl.upd h.m0 rfl).upd q4 rfl
  · exact VC.pure _ _ (args3 hM) (V.code mixed k12 (by simp) (w_writeR cOpened M b hM z (In.out hi) k)) (hk 2 a m (.inl ⟨hi, rfl, rfl⟩) ⟨W, Kf, wl, h.of (fun _ _ => rfl) (by omega), hs1, hs2, hs3⟩ .refl)

theorem VC.finF (h : MRz sl a M m b0) (hb : b0 ≤ b) (hR : ∀ id, id < b0 → mR id = m id) (hk : ∀ e a' m', Fin' a z e a' → MRz sl a' M m' (b + 8) → Fr' b m m' → K (iv e) m') : VC Try.prog b (.f 14) [.ptr M 15 0 0, iv z] true nd K mR m := by
  obtain ⟨W, Kf, wl, h, hs1, hs2, hs3⟩ := h
  have hM : M < b := Nat.lt_of_lt_of_le h.hM hb
  have hg : (gOf a Kf W).ok b := h.ok.mono hb
  have e0 := hR _ h.hM
  by_cases hi : In z
  · have hI := hi.ix
    cases ho : a.se z.toNat with
    | none =>
      have hgo : ((gOf a Kf W).get z.toNat).o = false := by rw [gOf_get hI.2, seF_none ho]
      refine VC.sameR (l := [(M, (gOf a Kf W).box)]) (args2 hM) ?_ (V.code mixed k14 (by simp) (w_end0 cOpened M b hM _ hg z _ hI hgo _ ofL_at)) (hk 7 a m (.inr (.inl ⟨hi, ho, rfl, rfl⟩)) ⟨W, Kf, wl, h.of (fun _ _ => rfl) (by omega), hs1, hs2, hs3⟩ .refl)
      simp only [List.mem_cons, List.not_mem_nil, or_false, forall_eq, forall_eq_or_imp]; exact ⟨by rw [e0]; exact h.m0, h.m0, hM, by simpa using Mg.blt (k := 0) hg⟩
    | some x =>
      have hgo : ((gOf a Kf W).get z.toNat).o = true := by rw [gOf_get hI.2, seF_some ho]
      refine .ol rfl _ [(M, (gOf a Kf W).box)] _ _ (args2 hM) ?_ ?_ (V.code mixed k14 (by simp) (w_end1 cOpened M b hM (gOf a Kf W) hg z _ hI hgo _ ofL_at)) (hk 0 (a.fin z.toNat) _ (.inr (.inr ⟨x, hi, ho, rfl, rfl⟩)) ⟨W, Kf, wl, ?_, hs1, hs2, ?_⟩ ?_)
      · simp only [List.mem_cons, List.not_mem_nil, or_false, forall_eq, forall_eq_or_imp]; exact ⟨by rw [e0]; exact h.m0, hM, by simpa using Mg.blt (k := 0) hg⟩
      · simp only [List.mem_cons, List.not_mem_nil, or_false, forall_eq, forall_eq_or_imp]; exact .inl (by simp)
      · rw [sw1]
        refine h.one (gOf_put (a := a) (a' := a.fin z.toNat) hI.2 (by simp [seF, Ab.fin, Ab.set]) fun j hj => by simp [seF, Ab.fin, Ab.set, hj]) rfl (fun j hj => ?_) (by omega)
        by_cases hjz : j = z.toNat
        · simp [Ab.fin, Ab.set, hjz] at hj
        · simp [Ab.fin, Ab.set, hjz]
      · intro j hj hx
        by_cases hjz : j = z.toNat
        · simp [Ab.fin, Ab.set, hjz] at hx
        · exact hs3 j hj (by simpa [Ab.fin, Ab.set, hjz] using hx)
      · rw [sw1]
        exact Fr'.refl.upd h.m0 rfl
  · exact VC.pure _ _ (args2 hM) (V.code mixed k14 (by simp) (w_endR cOpened M b hM z (In.out hi))) (hk 2 a m (.inl ⟨hi, rfl, rfl⟩) ⟨W, Kf, wl, h.of (fun _ _ => rfl) (by omega), hs1, hs2, hs3⟩ .refl)

theorem VC.comF (h : MRz sl a M m b0) (hb : b0 ≤ b) (hk : ∀ v e a' m', Com a z v e a' → MRz sl a' M m' (b + 8) → Fr' b m m' → K (.tup [iv v, iv e]) m') : VC Try.prog b (.f 13) [.ptr M 15 0 0, iv z] true true K m m := by
  obtain ⟨W, Kf, wl, h, hs1, hs2, hs3⟩ := h
  have hM : M < b := Nat.lt_of_lt_of_le h.hM hb
  have hW : W < b := Nat.lt_of_lt_of_le h.hW hb
  have hg : (gOf a Kf W).ok b := h.ok.mono hb
  by_cases hi : In z
  · have hI := hi.ix
    cases ho : a.se z.toNat with
    | none =>
      have hgo : ((gOf a Kf W).get z.toNat).o = false := by rw [gOf_get hI.2, seF_none ho]
      refine VC.sameR (l := [(M, (gOf a Kf W).box)]) (args2 hM) ?_ (V.code mixed k13 (by simp) (w_commit0 cTested M b hM _ hg z _ hI hgo _ ofL_at)) (hk 0 7 a m (.inr (.inl ⟨hi, ho, rfl, rfl, rfl⟩)) ⟨W, Kf, wl, h.of (fun _ _ => rfl) (by omega), hs1, hs2, hs3⟩ .refl)
      simp only [List.mem_cons, List.not_mem_nil, or_false, forall_eq, forall_eq_or_imp]; exact ⟨h.m0, h.m0, hM, by simpa using Mg.blt (k := 0) hg⟩
    | some x =>
      obtain ⟨s, ks⟩ := x
      have hgg : (gOf a Kf W).get z.toNat = ⟨true, s, .map (Kf z.toNat)⟩ := by rw [gOf_get hI.2, seF_some ho]
      obtain ⟨q1, q2, q3, q4⟩ := h.k _ hI.2 _ ho
      obtain ⟨o1, o2, o3⟩ := ofL_3 (o := (gOf a Kf W).box) (p := .map (wmap wl)) (q := .map (kmap ks)) h.hMW q2 q3
      have hs0 : ((gOf a Kf W).get z.toNat).s = s := by rw [hgg]
      have hin : ∀ x ∈ [(M, (gOf a Kf W).box), (W, .map (wmap wl)), (Kf z.toNat, .map (kmap ks))], m x.1 = some x.2 ∧ x.1 < b ∧ x.2.lt b = true := by
        simp only [List.mem_cons, List.not_mem_nil, or_false, forall_eq, forall_eq_or_imp]; exact ⟨⟨h.m0, hM, by simpa using Mg.blt (k := 0) hg⟩, ⟨h.m1, hW, (flatM_lt wmap_flat).1⟩, q4, by omega, kmap_lt.1⟩
      by_cases ht : testF ks a.wr s a.h = 0
      · have ht' : testF ks (sval wl) ((gOf a Kf W).get z.toNat).s (gOf a Kf W).h = 0 := by rw [hs0, h.mw]; exact ht
        refine .any rfl rfl _ (ofL [(M, (gOf a Kf W).box), (W, .map (wmap wl)), (Kf z.toNat, .map (kmap ks))]) _ (args2 hM) ?_ (VX.code mixed k13 (by simp) (w_commit1 cTested M W (Kf z.toNat) b hM hW (by omega) (gOf a Kf W) hg z _ hI (by rw [hgg]) (by rw [hgg]) rfl h.hMW q2 q3 ks wl _ o1 o3 o2 ht' _ rfl)) ?_
        · intro id o hid
          exact hin _ (ofL_some hid)
        · rintro r m1 ⟨rfl, wl', hwl', rfl⟩
          refine hk _ 0 (a.com z.toNat ks (max (IntKind.i64.wrap (a.h + 1)) a.c)) _ (.inr (.inr (.inr ⟨s, ks, hi, ho, ht, rfl, rfl, rfl⟩))) ⟨W, Kf, wl', ?_, hs1, hs2, ?_⟩ ?_
          obtain ⟨p1, p2, p3⟩ := ofL_3 (o := (({ gOf a Kf W with h := max (IntKind.i64.wrap ((gOf a Kf W).h + 1)) (gOf a Kf W).c } : Mg).put z.toNat ⟨false, 0, .nilm⟩).box) (p := .map (wmap wl')) (q := .map (kmap ks)) h.hMW q2 q3
          have hput := gOf_put (a := a) (a' := a.com z.toNat ks (max (IntKind.i64.wrap (a.h + 1)) a.c)) (K := Kf) (K' := Kf) (W := W) (x := ⟨false, 0, .nilm⟩) hI.2 (by simp [seF, Ab.com, Ab.set]) (fun j hj => by simp [seF, Ab.com, Ab.set, hj])
          have hse : ∀ j x, (a.com z.toNat ks (max (IntKind.i64.wrap (a.h + 1)) a.c)).se j = some x → j ≠ z.toNat ∧ a.se j = some x := fun j x hx => by
            by_cases hjz : j = z.toNat
            · simp [Ab.com, Ab.set, hjz] at hx
            · exact ⟨hjz, by simpa [Ab.com, Ab.set, hjz] using hx⟩
          refine ⟨by omega, by omega, h.hMW, ?_, ?_, ?_, ?_, ?_⟩
          · simp only [patch, o1, Option.isSome_some, true_or, if_true, p1]
            exact congrArg (fun g : Mg => some g.box) hput
          · simp only [patch, o2, Option.isSome_some, true_or, if_true, p2]
          · funext x
            rw [hwl' x, h.mw]
            rfl
          · intro j hj x hx
            obtain ⟨hjz, hx⟩ := hse j x hx
            obtain ⟨h1, h2, h3, h4⟩ := h.k j hj x hx
            have hne := h.kk j z.toNat hj hI.2 hjz (by rw [hx]; simp) (by rw [ho]; simp)
            refine ⟨by omega, h2, h3, ?_⟩
            have hnone : ofL [(M, (gOf a Kf W).box), (W, .map (wmap wl)), (Kf z.toNat, .map (kmap ks))] (Kf j) = none := by
              simp [ofL, Mem.upds, upd, h2.symm, h3.symm, hne]; rfl
            simp only [patch, hnone, Option.isSome_none, Bool.false_eq_true, false_or]
            rw [if_neg (by omega)]
            exact h4
          · intro i j hi' hj hij h1 h2
            obtain ⟨x, hx⟩ := Option.ne_none_iff_exists'.1 h1
            obtain ⟨y, hy⟩ := Option.ne_none_iff_exists'.1 h2
            exact h.kk i j hi' hj hij (by rw [(hse i x hx).2]; simp) (by rw [(hse j y hy).2]; simp)
          · intro j hj hx
            by_cases hjz : j = z.toNat
            · simp [Ab.com, Ab.set, hjz] at hx
            · exact hs3 j hj (by simpa [Ab.com, Ab.set, hjz] using hx)
          · refine ⟨fun j p hj hp hk => ?_, fun j hj hn => ?_⟩
            · have ne : ∀ i q, m i = some q → keepO q = false → j ≠ i := fun i q hi hq he => by subst he; rw [hp] at hi; injection hi with hi; rw [hi, hq] at hk; cases hk
              have hnone : ofL [(M, (gOf a Kf W).box), (W, .map (wmap wl)), (Kf z.toNat, .map (kmap ks))] j = none := by
                simp [ofL, Mem.upds, upd, ne _ _ h.m0 rfl, ne _ _ h.m1 rfl, ne _ _ q4 rfl]; rfl
              simp only [patch, hnone, Option.isSome_none, Bool.false_eq_true, false_or]
              rw [if_neg (by omega)]
              exact hp
            · have ne : ∀ i q, m i = some q → j ≠ i := fun i q hi he => by subst he; rw [hn] at hi; cases hi
              have hnone : ofL [(M, (gOf a Kf W).box), (W, .map (wmap wl)), (Kf z.toNat, .map (kmap ks))] j = none := by
                simp [ofL, Mem.upds, upd, ne _ _ h.m0, ne _ _ h.m1, ne _ _ q4]; rfl
              simp only [patch, hnone, Option.isSome_none, Bool.false_eq_true, false_or]
              rw [if_neg (by omega)]
              exact hn
      · have ht' : testF ks (sval wl) ((gOf a Kf W).get z.toNat).s (gOf a Kf W).h ≠ 0 := by rw [hs0, h.mw]; exact ht
        have hv := V.code mixed k13 (by simp) (w_commitE cTested M W (Kf z.toNat) b hM hW (by omega) (gOf a Kf W) hg z _ hI (by rw [hgg]) (by rw [hgg]) rfl h.hMW q2 q3 ks wl _ o1 o3 o2 ht')
        refine VC.same (args2 hM) hin hv ?_
        rw [hs0, h.mw]
        exact hk 0 _ a m (.inr (.inr (.inl ⟨s, ks, hi, ho, ht, rfl, rfl, rfl⟩))) ⟨W, Kf, wl, h.of (fun _ _ => rfl) (by omega), hs1, hs2, hs3⟩ .refl
  · exact VC.pure _ _ (args2 hM) (V.code mixed k13 (by simp) (w_commitR cTested M b hM z (In.out hi))) (hk 0 2 a m (.inl ⟨hi, rfl, rfl, rfl⟩) ⟨W, Kf, wl, h.of (fun _ _ => rfl) (by omega), hs1, hs2, hs3⟩ .refl)

theorem VC.ticF (h : MRz sl a M m b0) (hb : b0 ≤ b) (hR : ∀ id, id < b0 → mR id = m id) (hk : ∀ m', MRz sl { a with c := tickF a.c z } M m' (b + 8) → Fr' b m m' → K (.tup []) m') : VC Try.prog b (.f 15) [.ptr M 15 0 0, iv z] true nd K mR m := by
  obtain ⟨W, Kf, wl, h, hs1, hs2, hs3⟩ := h
  have hM : M < b := Nat.lt_of_lt_of_le h.hM hb
  have hg : (gOf a Kf W).ok b := h.ok.mono hb
  refine .ol rfl _ [(M, (gOf a Kf W).box)] _ _ (args2 hM) ?_ ?_ (V.code mixed k15 (by simp) (w_tick M b hM (gOf a Kf W) hg z _ ofL_at)) (hk _ ⟨W, Kf, wl, ?_, hs1, hs2, hs3⟩ ?_)
  · simp only [List.mem_cons, List.not_mem_nil, or_false, forall_eq, forall_eq_or_imp]; exact ⟨by rw [hR _ h.hM]; exact h.m0, hM, by simpa using Mg.blt (k := 0) hg⟩
  · simp only [List.mem_cons, List.not_mem_nil, or_false, forall_eq, forall_eq_or_imp]; exact .inl (by simp)
  · rw [sw1]
    exact h.one rfl rfl (fun j hj => rfl) (by omega)
  · rw [sw1]
    exact Fr'.refl.upd h.m0 rfl

end
end Go.Vx
/- Calls of Test and Writes; of the reference's functions. -/
set_option linter.unusedSimpArgs false
set_option linter.unusedVariables false
set_option maxRecDepth 4000
set_option maxHeartbeats 2000000
namespace Go.Vx
open Go Go.Proofs

def tstF (a : Ab) (z : Int) : Int := if 0 ≤ z ∧ z < 4 then (match a.se z.toNat with | none => 7 | some x => testF x.2 a.wr x.1 a.h) else 2
def twrF (a : Ab) (z : Int) : List Str := if 0 ≤ z ∧ z < 4 then (match a.se z.toNat with | none => [] | some x => sortK x.2) else []
theorem tstF_in {a : Ab} {z : Int} (h : In z) : tstF a z = match a.se z.toNat with | none => 7 | some x => testF x.2 a.wr x.1 a.h := if_pos h
theorem tstF_out {a : Ab} {z : Int} (h : ¬ In z) : tstF a z = 2 := if_neg h
theorem twrF_in {a : Ab} {z : Int} (h : In z) : twrF a z = match a.se z.toNat with | none => [] | some x => sortK x.2 := if_pos h
theorem twrF_out {a : Ab} {z : Int} (h : ¬ In z) : twrF a z = [] := if_neg h
section
variable {a : Ab} {M b0 b : Nat} {m mR : Mem} {z : Int} {nd : Bool} {K : PV → Mem → Prop}
theorem VC.tst (h : MR a M m b0) (hb : b0 ≤ b) (hR : ∀ id, id < b0 → mR id = m id) (hk : K (iv (tstF a z)) m) : VC Try.prog b (.f 25) [.ptr M 15 0 0, iv z] true nd K mR m := by
  obtain ⟨W, Kf, wl, h⟩ := h
  have hM : M < b := Nat.lt_of_lt_of_le h.hM hb
  have hW : W < b := Nat.lt_of_lt_of_le h.hW hb
  have hg : (gOf a Kf W).ok b := h.ok.mono hb
  have e0 := hR _ h.hM
  by_cases hi : In z
  · have hI := hi.ix
    rw [tstF_in hi] at hk
    cases ho : a.se z.toNat with
    | none =>
      rw [ho] at hk
      have hgo : ((gOf a Kf W).get z.toNat).o = false := by rw [gOf_get hI.2, seF_none ho]
      refine VC.sameR (l := [(M, (gOf a Kf W).box)]) (args2 hM) ?_ (cTested.shut M b hM _ z _ hI hg hgo) hk
      simp only [List.mem_cons, List.not_mem_nil, or_false, forall_eq, forall_eq_or_imp]; exact ⟨by rw [e0]; exact h.m0, h.m0, hM, by simpa using Mg.blt (k := 0) hg⟩
    | some x =>
      obtain ⟨s, ks⟩ := x
      rw [ho] at hk
      have hgg : (gOf a Kf W).get z.toNat = ⟨true, s, .map (Kf z.toNat)⟩ := by rw [gOf_get hI.2, seF_some ho]
      obtain ⟨q1, q2, q3, q4⟩ := h.k _ hI.2 _ ho
      have hv := cTested.yes M W (Kf z.toNat) b hM hW (by omega) (gOf a Kf W) z _ hI hg (by rw [hgg]) (by rw [hgg]) rfl h.hMW q2 q3 ks wl
      have hs0 : ((gOf a Kf W).get z.toNat).s = s := by rw [hgg]
      rw [hs0, h.mw] at hv
      refine VC.sameR (l := [(M, (gOf a Kf W).box), (W, .map (wmap wl)), (Kf z.toNat, .map (kmap ks))]) (args2 hM) ?_ hv hk
      simp only [List.mem_cons, List.not_mem_nil, or_false, forall_eq, forall_eq_or_imp]; exact ⟨⟨by rw [e0]; exact h.m0, h.m0, hM, by simpa using Mg.blt (k := 0) hg⟩, ⟨by rw [hR _ h.hW]; exact h.m1, h.m1, hW, (flatM_lt wmap_flat).1⟩, by rw [hR _ q1]; exact q4, q4, by omega, kmap_lt.1⟩
  · rw [tstF_out hi] at hk
    exact VC.pure _ _ (args2 hM) (cTested.no M b hM z (In.out hi)) hk
theorem VC.wrt (h : MR a M m b0) (hb : b0 ≤ b) (hR : ∀ id, id < b0 → mR id = m id) (hkl : ∀ i x, a.se i = some x → x.2.length < 1000) (hk : K (.sl (strs (twrF a z))) m) : VC Try.prog b (.f 27) [.ptr M 15 0 0, iv z] true nd K mR m := by
  obtain ⟨W, Kf, wl, h⟩ := h
  have hM : M < b := Nat.lt_of_lt_of_le h.hM hb
  have hg : (gOf a Kf W).ok b := h.ok.mono hb
  have e0 := hR _ h.hM
  by_cases hi : In z
  · have hI := hi.ix
    rw [twrF_in hi] at hk
    cases ho : a.se z.toNat with
    | none =>
      rw [ho] at hk
      have hgo : ((gOf a Kf W).get z.toNat).o = false := by rw [gOf_get hI.2, seF_none ho]
      refine VC.sameR (l := [(M, (gOf a Kf W).box)]) (args2 hM) ?_ (V.code mixed k27 (by simp) (w_writes0 cOpened M b hM _ hg z _ hI hgo _ ofL_at)) hk
      simp only [List.mem_cons, List.not_mem_nil, or_false, forall_eq, forall_eq_or_imp]; exact ⟨by rw [e0]; exact h.m0, h.m0, hM, by simpa using Mg.blt (k := 0) hg⟩
    | some x =>
      obtain ⟨s, ks⟩ := x
      rw [ho] at hk
      have hgg : (gOf a Kf W).get z.toNat = ⟨true, s, .map (Kf z.toNat)⟩ := by rw [gOf_get hI.2, seF_some ho]
      obtain ⟨q1, q2, q3, q4⟩ := h.k _ hI.2 _ ho
      obtain ⟨o1, o2⟩ := ofL_2 (o := (gOf a Kf W).box) (p := .map (kmap ks)) q2
      refine VC.sameR (l := [(M, (gOf a Kf W).box), (Kf z.toNat, .map (kmap ks))]) (args2 hM) ?_ (V.code mixed k27 (by simp) (w_writes1 cOpened cTKeys M (Kf z.toNat) b hM (by omega) q2 _ hg z _ hI (by rw [hgg]) (by rw [hgg]) ks (hkl _ _ ho) _ o1 o2)) hk
      simp only [List.mem_cons, List.not_mem_nil, or_false, forall_eq, forall_eq_or_imp]; exact ⟨⟨by rw [e0]; exact h.m0, h.m0, hM, by simpa using Mg.blt (k := 0) hg⟩, by rw [hR _ q1]; exact q4, q4, by omega, kmap_lt.1⟩
  · rw [twrF_out hi] at hk
    exact VC.pure _ _ (args2 hM) (V.code mixed k27 (by simp) (w_writesR cOpened M b hM z (In.out hi))) hk
end

/-- The reference's manager with no memory in sight. -/
structure Rb where
  c : Int
  h : Int
  se : Nat → Option (Int × List Str)
  dn : List (Str × Int)
def Rb.ab (r : Rb) : Ab := ⟨r.c, r.h, r.se, fun _ => none⟩
def Rb.set (r : Rb) (i : Nat) (x : Option (Int × List Str)) : Nat → Option (Int × List Str) := fun j => if j = i then x else r.se j
/-- How a session lies. -/
def RS (x : Option (Int × List Str)) (s : Se) : Prop := match x with
  | none => s.o = false ∧ slP s.k (strs [])
  | some y => s.o = true ∧ s.s = y.1 ∧ slP s.k (strs y.2)
structure RG (r : Rb) (g : Mg) : Prop where
  c : g.c = r.c
  h : g.h = r.h
  s : ∀ i, i < 4 → RS (r.se i) (g.get i)
  d : slP g.w (dns r.dn)
theorem RS.lt {x : Option (Int × List Str)} {s : Se} {b : Nat} (h : RS x s) : lt1s b s.k = true := by
  cases x with
  | none => exact slP_lt h.2
  | some y => exact slP_lt h.2.2
theorem RS.some' {t : Int} {ks : List Str} {s : Se} (h1 : s.o = true) (h2 : s.s = t) (h3 : slP s.k (strs ks)) : RS (some (t, ks)) s := ⟨h1, h2, h3⟩
theorem RS.none' : RS none ⟨false, 0, .nsl⟩ := ⟨rfl, .inl ⟨rfl, rfl⟩⟩
theorem RG.ok {r : Rb} {g : Mg} {b : Nat} (h : RG r g) : g.ok b := ⟨(h.s 0 (by omega)).lt, (h.s 1 (by omega)).lt, (h.s 2 (by omega)).lt, (h.s 3 (by omega)).lt, slP_lt h.d⟩
def RR (r : Rb) (R : Nat) (m : Mem) (b : Nat) : Prop := ∃ g, R < b ∧ m R = some (Mg.rbox g) ∧ RG r g
theorem get_put {g : Mg} {i j : Nat} {x : Se} (hi : i < 4) (hj : j < 4) : (g.put i x).get j = if j = i then x else g.get j := by
  have : i = 0 ∨ i = 1 ∨ i = 2 ∨ i = 3 := by omega
  have : j = 0 ∨ j = 1 ∨ j = 2 ∨ j = 3 := by omega
  rcases ‹i = 0 ∨ _› with rfl | rfl | rfl | rfl <;> rcases ‹j = 0 ∨ _› with rfl | rfl | rfl | rfl <;> rfl
theorem put_rest {g : Mg} {i : Nat} {x : Se} : (g.put i x).c = g.c ∧ (g.put i x).h = g.h ∧ (g.put i x).w = g.w := by
  match i with
  | 0 => exact ⟨rfl, rfl, rfl⟩
  | 1 => exact ⟨rfl, rfl, rfl⟩
  | 2 => exact ⟨rfl, rfl, rfl⟩
  | _ + 3 => exact ⟨rfl, rfl, rfl⟩
theorem RG.put {r : Rb} {g : Mg} {i : Nat} {x : Se} {y : Option (Int × List Str)} (h : RG r g) (hi : i < 4) (hx : RS y x) : RG { r with se := r.set i y } (g.put i x) := by
  obtain ⟨p1, p2, p3⟩ := put_rest (g := g) (i := i) (x := x)
  refine ⟨by rw [p1]; exact h.c, by rw [p2]; exact h.h, fun j hj => ?_, by rw [p3]; exact h.d⟩
  rw [get_put hi hj]
  simp only [Rb.set]
  split
  · exact hx
  · exact h.s j hj

def RBeg (a : Rb) (z v e : Int) (a' : Rb) : Prop :=
  (¬ In z ∧ v = 0 ∧ e = 2 ∧ a' = a) ∨ (∃ x, In z ∧ a.se z.toNat = some x ∧ v = 0 ∧ e = 7 ∧ a' = a) ∨ (In z ∧ a.se z.toNat = none ∧ v = max a.c a.h ∧ e = 0 ∧ a' = { a with h := max a.c a.h, se := a.set z.toNat (some (max a.c a.h, [])) })
def RWri (a : Rb) (z : Int) (k : Str) (e : Int) (a' : Rb) : Prop :=
  (¬ In z ∧ e = 2 ∧ a' = a) ∨ (In z ∧ a.se z.toNat = none ∧ e = 7 ∧ a' = a) ∨ (∃ s ks, In z ∧ a.se z.toNat = some (s, ks) ∧ e = 0 ∧ a' = { a with se := a.set z.toNat (some (s, insF ks k)) })
def RFin (a : Rb) (z e : Int) (a' : Rb) : Prop :=
  (¬ In z ∧ e = 2 ∧ a' = a) ∨ (In z ∧ a.se z.toNat = none ∧ e = 7 ∧ a' = a) ∨ (∃ x, In z ∧ a.se z.toNat = some x ∧ e = 0 ∧ a' = { a with se := a.set z.toNat none })
def RCom (a : Rb) (z v e : Int) (a' : Rb) : Prop :=
  (¬ In z ∧ v = 0 ∧ e = 2 ∧ a' = a) ∨ (In z ∧ a.se z.toNat = none ∧ v = 0 ∧ e = 7 ∧ a' = a) ∨
  (∃ s ks, In z ∧ a.se z.toNat = some (s, ks) ∧ rtestF ks a.dn s a.h ≠ 0 ∧ v = 0 ∧ e = rtestF ks a.dn s a.h ∧ a' = a) ∨
  (∃ s ks, In z ∧ a.se z.toNat = some (s, ks) ∧ rtestF ks a.dn s a.h = 0 ∧ v = max a.c (IntKind.i64.wrap (a.h + 1)) ∧ e = 0 ∧ a' = { a with h := v, se := a.set z.toNat none, dn := putD a.dn ks v ks.length })
def rtstF (a : Rb) (z : Int) : Int := if 0 ≤ z ∧ z < 4 then (match a.se z.toNat with | none => 7 | some x => rtestF x.2 a.dn x.1 a.h) else 2
def rwrF (a : Rb) (z : Int) : List Str := if 0 ≤ z ∧ z < 4 then (match a.se z.toNat with | none => [] | some x => x.2) else []
theorem rtstF_in {a : Rb} {z : Int} (h : In z) : rtstF a z = match a.se z.toNat with | none => 7 | some x => rtestF x.2 a.dn x.1 a.h := if_pos h
theorem rtstF_out {a : Rb} {z : Int} (h : ¬ In z) : rtstF a z = 2 := if_neg h
theorem rwrF_in {a : Rb} {z : Int} (h : In z) : rwrF a z = match a.se z.toNat with | none => [] | some x => x.2 := if_pos h
theorem rwrF_out {a : Rb} {z : Int} (h : ¬ In z) : rwrF a z = [] := if_neg h
/-- What is few. -/
def Few (a : Rb) : Prop := (∀ i x, a.se i = some x → x.2.length < 1000) ∧ a.dn.length < 90000

section
theorem cIs : ∀ z b, V Try.prog 52 [iv z] mt b (.bool (isF z)) mt := fun z b => V.code mixed k52 (by simp) (w_is z b)
theorem cLook : Look Try.prog := ⟨fun M b hM g z i hi hg => V.code mixed k49 (by simp) (w_look cIs M b hM g z i hi hg _ ofL_at), fun M b hM z hi => V.code mixed k49 (by simp) (w_lookR cIs M b hM z hi)⟩
theorem cROpen : ROpen Try.prog := ⟨fun M b hM g z i hi hg => V.code mixed k32 (by simp) (w_ropen cLook M b hM g hg z i hi _ ofL_at), fun M b hM z hi => V.code mixed k32 (by simp) (w_ropenR cLook M b hM z hi)⟩
theorem cLast : Last Try.prog := fun M b hM g hg k dn hd hl => V.code mixed k50 (by simp) (w_rlast M b hM g hg k dn hd hl _ ofL_at)
theorem cRTested : RTested Try.prog := ⟨fun M b hM g z i hi hg ho ks hks hkl dn hd hdl => V.code mixed k33 (by simp) (w_rtest1 cLook cLast M b hM g hg z i hi ho ks hks hkl dn hd hdl _ ofL_at), fun M b hM g z i hi hg ho => V.code mixed k33 (by simp) (w_rtest0 cLook M b hM g hg z i hi ho _ ofL_at), fun M b hM z hi => V.code mixed k33 (by simp) (w_rtestR cLook M b hM z hi)⟩
theorem cIns (l : List Str) (k : Str) (hl : l.length < 1000) (b : Nat) : V Try.prog 53 [.sl (strs l), .str k] mt b (.sl (strs (insF l k))) mt := V.code mixed k53 (by simp) (w_ins2 l k hl b)
theorem cRSince : ∀ M b, M < b → ∀ (g : Mg) z i, Ix z i → Mg.ok g b → V Try.prog 31 [.ptr M 15 0 0, iv z] (ofL [(M, g.rbox)]) b (if (g.get i).o then .tup [iv (g.get i).s, .bool true] else .tup [iv 0, .bool false]) (ofL [(M, g.rbox)]) :=
  fun M b hM g z i hi hg => V.code mixed k31 (by simp) (w_rsince cROpen.yes M b hM g hg z i hi _ ofL_at)
variable {r : Rb} {R b0 b : Nat} {m mR : Mem} {z : Int} {nd : Bool} {K : PV → Mem → Prop}

/-- A call that changes one box. -/
theorem VC.chg {f : Nat} {ps : List PV} {q : PV} {g g' : Mg} (hR : R < b) (hm : mR R = some g.rbox) (hg : g.ok b) (ha : Args b mR ps ps) (hv : V Try.prog f ps (ofL [(R, g.rbox)]) b q (ofL [(R, g'.rbox)])) (hk : K q (upd m R (some g'.rbox))) : VC Try.prog b (.f f) ps true nd K mR m := by
  refine .ol rfl ps [(R, g.rbox)] [(R, g'.rbox)] q ha ?_ ?_ hv (by rw [sw1]; exact hk)
  · simp only [List.mem_cons, List.not_mem_nil, or_false, forall_eq, forall_eq_or_imp]; exact ⟨hm, hR, by simpa using Mg.rblt (k := 0) hg⟩
  · simp only [List.mem_cons, List.not_mem_nil, or_false, forall_eq, forall_eq_or_imp]; exact .inl (by simp)
theorem upd_id' {m : Mem} {R : Nat} {o : Obj} (h : m R = some o) : upd m R (some o) = m := by
  funext id; simp only [upd]; split
  · rename_i he; rw [he, h]
  · rfl
theorem VC.rdr {f : Nat} {ps : List PV} {q : PV} {g : Mg} (hR : R < b) (hm : mR R = some g.rbox) (hm' : m R = some g.rbox) (hg : g.ok b) (ha : Args b mR ps ps) (hv : V Try.prog f ps (ofL [(R, g.rbox)]) b q (ofL [(R, g.rbox)])) (hk : K q m) : VC Try.prog b (.f f) ps true nd K mR m :=
  VC.chg hR hm hg ha hv (by rw [upd_id' hm']; exact hk)

theorem VC.rnew (hk : ∀ g, RG ⟨min (max z 0) 1073741824, min (max z 0) 1073741824, fun _ => none, []⟩ g → K (.ptr b 15 0 0) (upd m b (some g.rbox))) : VC Try.prog b (.f 30) [iv z] true nd K mR m :=
  .new [iv z] _ _ ⟨.inl ⟨rfl, rfl⟩, trivial⟩ (V.code mixed k30 (by simp) (w_rnew z b)) (hk ⟨min (max z 0) 1073741824, min (max z 0) 1073741824, ⟨false, 0, .nsl⟩, ⟨false, 0, .nsl⟩, ⟨false, 0, .nsl⟩, ⟨false, 0, .nsl⟩, .nsl⟩ ⟨rfl, rfl, fun i hi => by
    have : i = 0 ∨ i = 1 ∨ i = 2 ∨ i = 3 := by omega
    rcases this with rfl | rfl | rfl | rfl <;> exact RS.none', .inl ⟨rfl, rfl⟩⟩)

theorem VC.rbeg (h : RR r R m b0) (hb : b0 ≤ b) (hR : mR R = m R) (hk : ∀ v e r' g', RBeg r z v e r' → RG r' g' → K (.tup [iv v, iv e]) (upd m R (some g'.rbox))) : VC Try.prog b (.f 41) [.ptr R 15 0 0, iv z] true nd K mR m := by
  obtain ⟨g, hRb, hm, hg⟩ := h
  have hM : R < b := by omega
  by_cases hi : In z
  · have hI := hi.ix
    have hs := hg.s _ hI.2
    cases ho : r.se z.toNat with
    | some x =>
      rw [ho] at hs
      exact VC.chg hM (by rw [hR]; exact hm) hg.ok (args2 hM) (V.code mixed k41 (by simp) (w_rbegin0 cIs R b hM g z _ hI hg.ok hs.1 _ ofL_at)) (hk 0 7 r g (.inr (.inl ⟨x, hi, ho, rfl, rfl, rfl⟩)) hg)
    | none =>
      rw [ho] at hs
      refine VC.chg hM (by rw [hR]; exact hm) hg.ok (args2 hM) (V.code mixed k41 (by simp) (w_rbegin1 cIs R b hM g z _ hI hg.ok hs.1 _ ofL_at)) ?_
      have e : max g.c g.h = max r.c r.h := by rw [hg.c, hg.h]
      rw [e]
      refine hk (max r.c r.h) 0 _ _ (.inr (.inr ⟨hi, ho, rfl, rfl, rfl⟩)) ?_
      have hg2 : RG { r with h := max r.c r.h } { g with h := max r.c r.h } := ⟨hg.c, rfl, hg.s, hg.d⟩
      exact hg2.put hI.2 (RS.some' (t := max r.c r.h) (ks := []) (s := ⟨true, max r.c r.h, .nsl⟩) rfl rfl (.inl ⟨rfl, rfl⟩))
  · refine VC.pure _ _ (args2 hM) (V.code mixed k41 (by simp) (w_rbeginR cIs R b hM z (In.out hi))) ?_
    have := hk 0 2 r g (.inl ⟨hi, rfl, rfl, rfl⟩) hg
    rw [upd_id' hm] at this; exact this
theorem VC.rwri {k : Str} (h : RR r R m b0) (hb : b0 ≤ b) (hR : mR R = m R) (hf : Few r) (hk : ∀ e r' g', RWri r z k e r' → RG r' g' → K (iv e) (upd m R (some g'.rbox))) : VC Try.prog b (.f 42) [.ptr R 15 0 0, iv z, .str k] true nd K mR m := by
  obtain ⟨g, hRb, hm, hg⟩ := h
  have hM : R < b := by omega
  by_cases hi : In z
  · have hI := hi.ix
    have hs := hg.s _ hI.2
    cases ho : r.se z.toNat with
    | none =>
      rw [ho] at hs
      exact VC.chg hM (by rw [hR]; exact hm) hg.ok (args3 hM) (V.code mixed k42 (by simp) (w_rwrite0 cLook R b hM g hg.ok z _ hI hs.1 k _ ofL_at)) (hk 7 r g (.inr (.inl ⟨hi, ho, rfl, rfl⟩)) hg)
    | some x =>
      obtain ⟨s, ks⟩ := x
      rw [ho] at hs
      have hl : ks.length < 1000 := hf.1 _ _ ho
      refine VC.chg hM (by rw [hR]; exact hm) hg.ok (args3 hM) (V.code mixed k42 (by simp) (w_rwrite1 cLook R b hM g hg.ok z _ hI hs.1 k (strs ks) (strs (insF ks k)) hs.2.2 (fun b => cIns ks k hl b) _ ofL_at)) ?_
      exact hk 0 _ _ (.inr (.inr ⟨s, ks, hi, ho, rfl, rfl⟩)) (hg.put hI.2 (.some' rfl hs.2.1 (.inr rfl)))
  · refine VC.pure _ _ (args3 hM) (V.code mixed k42 (by simp) (w_rwriteR cLook R b hM z (In.out hi) k)) ?_
    have := hk 2 r g (.inl ⟨hi, rfl, rfl⟩) hg
    rw [upd_id' hm] at this; exact this
theorem VC.rfin (h : RR r R m b0) (hb : b0 ≤ b) (hR : mR R = m R) (hk : ∀ e r' g', RFin r z e r' → RG r' g' → K (iv e) (upd m R (some g'.rbox))) : VC Try.prog b (.f 44) [.ptr R 15 0 0, iv z] true nd K mR m := by
  obtain ⟨g, hRb, hm, hg⟩ := h
  have hM : R < b := by omega
  by_cases hi : In z
  · have hI := hi.ix
    have hs := hg.s _ hI.2
    cases ho : r.se z.toNat with
    | none =>
      rw [ho] at hs
      exact VC.chg hM (by rw [hR]; exact hm) hg.ok (args2 hM) (V.code mixed k44 (by simp) (w_rend0 cLook R b hM g hg.ok z _ hI hs.1 _ ofL_at)) (hk 7 r g (.inr (.inl ⟨hi, ho, rfl, rfl⟩)) hg)
    | some x =>
      rw [ho] at hs
      exact VC.chg hM (by rw [hR]; exact hm) hg.ok (args2 hM) (V.code mixed k44 (by simp) (w_rend1 cLook R b hM g hg.ok z _ hI hs.1 _ ofL_at)) (hk 0 _ _ (.inr (.inr ⟨x, hi, ho, rfl, rfl⟩)) (hg.put hI.2 .none'))
  · refine VC.pure _ _ (args2 hM) (V.code mixed k44 (by simp) (w_rendR cLook R b hM z (In.out hi))) ?_
    have := hk 2 r g (.inl ⟨hi, rfl, rfl⟩) hg
    rw [upd_id' hm] at this; exact this
theorem VC.rcom (h : RR r R m b0) (hb : b0 ≤ b) (hR : mR R = m R) (hf : Few r) (hk : ∀ v e r' g', RCom r z v e r' → RG r' g' → K (.tup [iv v, iv e]) (upd m R (some g'.rbox))) : VC Try.prog b (.f 43) [.ptr R 15 0 0, iv z] true nd K mR m := by
  obtain ⟨g, hRb, hm, hg⟩ := h
  have hM : R < b := by omega
  by_cases hi : In z
  · have hI := hi.ix
    have hs := hg.s _ hI.2
    cases ho : r.se z.toNat with
    | none =>
      rw [ho] at hs
      exact VC.chg hM (by rw [hR]; exact hm) hg.ok (args2 hM) (V.code mixed k43 (by simp) (w_rcommit0 cRTested R b hM g hg.ok z _ hI hs.1 _ ofL_at)) (hk 0 7 r g (.inr (.inl ⟨hi, ho, rfl, rfl, rfl⟩)) hg)
    | some x =>
      obtain ⟨s, ks⟩ := x
      rw [ho] at hs
      have hl : ks.length < 1000 := hf.1 _ _ ho
      have hdl : r.dn.length < 100000 := by have := hf.2; omega
      have hs2 : (g.get z.toNat).s = s := hs.2.1
      by_cases ht : rtestF ks r.dn s r.h = 0
      · refine VC.chg hM (by rw [hR]; exact hm) hg.ok (args2 hM) (V.code mixed k43 (by simp) (w_rcommit1 cRTested R b hM g hg.ok z _ hI hs.1 ks hs.2.2 hl r.dn hg.d hdl _ ofL_at (by rw [hs2, hg.h]; exact ht) (max r.c (IntKind.i64.wrap (r.h + 1))) (by rw [hg.c, hg.h]))) ?_
        refine hk _ 0 _ _ (.inr (.inr (.inr ⟨s, ks, hi, ho, ht, rfl, rfl, rfl⟩))) ?_
        have hg2 : RG { r with h := max r.c (IntKind.i64.wrap (r.h + 1)), dn := putD r.dn ks (max r.c (IntKind.i64.wrap (r.h + 1))) ks.length } { g with h := max r.c (IntKind.i64.wrap (r.h + 1)), w := pcD g.w r.dn ks (max r.c (IntKind.i64.wrap (r.h + 1))) ks.length } := ⟨hg.c, rfl, hg.s, pcD_slP hg.d⟩
        exact hg2.put hI.2 .none'
      · have hv := V.code mixed k43 (by simp) (w_rcommitE cRTested R b hM g hg.ok z _ hI hs.1 ks hs.2.2 hl r.dn hg.d hdl _ ofL_at (by rw [hs2, hg.h]; exact ht))
        rw [hs2, hg.h] at hv
        exact VC.chg hM (by rw [hR]; exact hm) hg.ok (args2 hM) hv (hk 0 _ r g (.inr (.inr (.inl ⟨s, ks, hi, ho, ht, rfl, rfl, rfl⟩))) hg)
  · refine VC.pure _ _ (args2 hM) (V.code mixed k43 (by simp) (w_rcommitR cRTested R b hM z (In.out hi))) ?_
    have := hk 0 2 r g (.inl ⟨hi, rfl, rfl, rfl⟩) hg
    rw [upd_id' hm] at this; exact this
theorem VC.rtic (h : RR r R m b0) (hb : b0 ≤ b) (hR : mR R = m R) (hk : ∀ g', RG { r with c := tickF r.c z } g' → K (.tup []) (upd m R (some g'.rbox))) : VC Try.prog b (.f 45) [.ptr R 15 0 0, iv z] true nd K mR m := by
  obtain ⟨g, hRb, hm, hg⟩ := h
  have hM : R < b := by omega
  refine VC.chg hM (by rw [hR]; exact hm) hg.ok (args2 hM) (V.code mixed k45 (by simp) (w_rtick R b hM g hg.ok z _ ofL_at)) (hk _ ?_)
  exact ⟨by show tickF g.c z = tickF r.c z; rw [hg.c], hg.h, hg.s, hg.d⟩
theorem VC.rtst (h : RR r R m b0) (hb : b0 ≤ b) (hR : mR R = m R) (hf : Few r) (hk : K (iv (rtstF r z)) m) : VC Try.prog b (.f 33) [.ptr R 15 0 0, iv z] true nd K mR m := by
  obtain ⟨g, hRb, hm, hg⟩ := h
  have hM : R < b := by omega
  by_cases hi : In z
  · have hI := hi.ix
    have hs := hg.s _ hI.2
    rw [rtstF_in hi] at hk
    cases ho : r.se z.toNat with
    | none =>
      rw [ho] at hs hk
      exact VC.rdr hM (by rw [hR]; exact hm) hm hg.ok (args2 hM) (cRTested.shut R b hM g z _ hI hg.ok hs.1) hk
    | some x =>
      obtain ⟨s, ks⟩ := x
      rw [ho] at hs hk
      have hv := cRTested.yes R b hM g z _ hI hg.ok hs.1 ks hs.2.2 (hf.1 _ _ ho) r.dn hg.d (by have := hf.2; omega)
      rw [show (g.get z.toNat).s = s from hs.2.1, hg.h] at hv
      exact VC.rdr hM (by rw [hR]; exact hm) hm hg.ok (args2 hM) hv hk
  · rw [rtstF_out hi] at hk
    exact VC.pure _ _ (args2 hM) (cRTested.no R b hM z (In.out hi)) hk
theorem VC.rwrt (h : RR r R m b0) (hb : b0 ≤ b) (hR : mR R = m R) (hf : Few r) (hk : K (.sl (strs (rwrF r z))) m) : VC Try.prog b (.f 35) [.ptr R 15 0 0, iv z] true nd K mR m := by
  obtain ⟨g, hRb, hm, hg⟩ := h
  have hM : R < b := by omega
  by_cases hi : In z
  · have hI := hi.ix
    have hs := hg.s _ hI.2
    rw [rwrF_in hi] at hk
    cases ho : r.se z.toNat with
    | none =>
      rw [ho] at hs hk
      exact VC.rdr hM (by rw [hR]; exact hm) hm hg.ok (args2 hM) (V.code mixed k35 (by simp) (w_rwrites0 cROpen R b hM g hg.ok z _ hI hs.1 _ ofL_at)) hk
    | some x =>
      obtain ⟨s, ks⟩ := x
      rw [ho] at hs hk
      exact VC.rdr hM (by rw [hR]; exact hm) hm hg.ok (args2 hM) (V.code mixed k35 (by simp) (w_rwrites1 cROpen R b hM g hg.ok z _ hI hs.1 ks hs.2.2 (hf.1 _ _ ho) _ ofL_at)) hk
  · rw [rwrF_out hi] at hk
    exact VC.pure _ _ (args2 hM) (V.code mixed k35 (by simp) (w_rwritesR cROpen R b hM z (In.out hi))) hk
theorem VC.ropn (h : RR r R m b0) (hb : b0 ≤ b) (hR : mR R = m R) (hk : K (.bool (opB r.ab z)) m) : VC Try.prog b (.f 32) [.ptr R 15 0 0, iv z] true nd K mR m := by
  obtain ⟨g, hRb, hm, hg⟩ := h
  have hM : R < b := by omega
  by_cases hi : In z
  · have hI := hi.ix
    have hs := hg.s _ hI.2
    have e : opB r.ab z = (g.get z.toNat).o := by
      unfold opB Rb.ab
      rw [if_pos (show 0 ≤ z ∧ z < 4 from hi)]
      show (r.se z.toNat).isSome = _
      cases ho : r.se z.toNat with
      | none => rw [ho] at hs; exact hs.1.symm
      | some x => rw [ho] at hs; exact hs.1.symm
    rw [e] at hk
    exact VC.rdr hM (by rw [hR]; exact hm) hm hg.ok (args2 hM) (cROpen.yes R b hM g z _ hI hg.ok) hk
  · have e : opB r.ab z = false := if_neg hi
    rw [e] at hk
    exact VC.pure _ _ (args2 hM) (cROpen.no R b hM z (In.out hi)) hk
theorem VC.rsin (h : RR r R m b0) (hb : b0 ≤ b) (hR : mR R = m R) (hk : K (sinF r.ab z) m) : VC Try.prog b (.f 31) [.ptr R 15 0 0, iv z] true nd K mR m := by
  obtain ⟨g, hRb, hm, hg⟩ := h
  have hM : R < b := by omega
  by_cases hi : In z
  · have hI := hi.ix
    have hs := hg.s _ hI.2
    have e : sinF r.ab z = if (g.get z.toNat).o then .tup [iv (g.get z.toNat).s, .bool true] else .tup [iv 0, .bool false] := by
      unfold sinF Rb.ab
      rw [if_pos (show 0 ≤ z ∧ z < 4 from hi)]
      dsimp only
      cases ho : r.se z.toNat with
      | none => rw [ho] at hs; rw [hs.1]; rfl
      | some x => rw [ho] at hs; rw [hs.1, hs.2.1]; rfl
    rw [e] at hk
    exact VC.rdr hM (by rw [hR]; exact hm) hm hg.ok (args2 hM) (cRSince R b hM g z _ hI hg.ok) hk
  · have e : sinF r.ab z = .tup [iv 0, .bool false] := if_neg hi
    rw [e] at hk
    exact VC.pure _ _ (args2 hM) (V.code mixed k31 (by simp) (w_rsinceR cROpen.no R b hM z (In.out hi))) hk
theorem VC.rclk (h : RR r R m b0) (hb : b0 ≤ b) (hR : mR R = m R) (hk : K (iv r.c) m) : VC Try.prog b (.f 37) [.ptr R 15 0 0] true nd K mR m := by
  obtain ⟨g, hRb, hm, hg⟩ := h
  have hM : R < b := by omega
  rw [← hg.c] at hk
  exact VC.rdr hM (by rw [hR]; exact hm) hm hg.ok (args1 hM) (V.code mixed k37 (by simp) (w_rclock R b hM g hg.ok _ ofL_at)) hk
theorem VC.rhig (h : RR r R m b0) (hb : b0 ≤ b) (hR : mR R = m R) (hk : K (iv r.h) m) : VC Try.prog b (.f 38) [.ptr R 15 0 0] true nd K mR m := by
  obtain ⟨g, hRb, hm, hg⟩ := h
  have hM : R < b := by omega
  rw [← hg.h] at hk
  exact VC.rdr hM (by rw [hR]; exact hm) hm hg.ok (args1 hM) (V.code mixed k38 (by simp) (w_rhigh R b hM g hg.ok _ ofL_at)) hk
theorem RG.opens {g : Mg} (h : RG r g) : g.opens 4 = r.ab.opens := by
  have key : ∀ i, i < 4 → (∃ x, r.se i = some x ∧ (g.get i).o = true ∧ (g.get i).s = x.1) ∨ (r.se i = none ∧ (g.get i).o = false) := fun i hi => by
    have hs := h.s i hi
    cases ho : r.se i with
    | none => rw [ho] at hs; exact .inr ⟨rfl, hs.1⟩
    | some x => rw [ho] at hs; exact .inl ⟨x, rfl, hs.1, hs.2.1⟩
  have k0 := key 0 (by omega)
  have k1 := key 1 (by omega)
  have k2 := key 2 (by omega)
  have k3 := key 3 (by omega)
  simp only [Mg.get] at k0 k1 k2 k3
  unfold Mg.opens Mg.ses Ab.opens Rb.ab
  show (([g.a0, g.a1, g.a2, g.a3].filter (·.o)).map (·.s)) = _
  rcases k0 with ⟨x0, h0, g0, f0⟩ | ⟨h0, g0⟩ <;> rcases k1 with ⟨x1, h1, g1, f1⟩ | ⟨h1, g1⟩ <;> rcases k2 with ⟨x2, h2, g2, f2⟩ | ⟨h2, g2⟩ <;> rcases k3 with ⟨x3, h3, g3, f3⟩ | ⟨h3, g3⟩ <;> simp [*]
theorem VC.rold (h : RR r R m b0) (hb : b0 ≤ b) (hR : mR R = m R) (hk : K (oldF r.ab.opens) m) : VC Try.prog b (.f 36) [.ptr R 15 0 0] true nd K mR m := by
  obtain ⟨g, hRb, hm, hg⟩ := h
  have hM : R < b := by omega
  rw [← hg.opens] at hk
  exact VC.rdr hM (by rw [hR]; exact hm) hm hg.ok (args1 hM) (V.code mixed k36 (by simp) (w_rold cRSince R b hM g hg.ok _ ofL_at)) hk
end
end Go.Vx
/- Plain law: the manager and the reference's manager, side by side. -/
set_option linter.unusedSimpArgs false
set_option linter.unusedVariables false
set_option maxRecDepth 4000
set_option maxHeartbeats 2000000
namespace Go.Vx
open Go Go.Proofs

theorem lessK_lt {k x : Str} : lessK k x = decide (x < k) := bytesLess_eq x k
theorem insF_nil {k : Str} : insF [] k = [k] := by simp [insF, cntK]
theorem insF_cons {k x : Str} {l : List Str} : insF (x :: l) k = if lessK k x = true then x :: insF l k else if x = k then x :: l else k :: x :: l := by
  unfold insF cntK
  rw [List.takeWhile_cons]
  by_cases h : lessK k x = true
  · simp only [h, if_true, List.length_cons, List.getElem?_cons_succ, List.take_succ_cons, List.drop_succ_cons]
    split <;> simp
  · simp only [h, if_false, List.length_nil, List.getElem?_cons_zero, List.take_zero, List.drop_zero, Option.some.injEq]
    simp
abbrev Srt (l : List Str) : Prop := l.Pairwise fun x y => x ≤ y
theorem ins_mem {k y : Str} : ∀ {l : List Str}, y ∈ insF l k → y ∈ l ∨ y = k
  | [], h => by rw [insF_nil] at h; exact .inr (by simpa using h)
  | x :: l, h => by
    rw [insF_cons] at h
    split at h
    · rcases List.mem_cons.1 h with rfl | h
      · exact .inl (by simp)
      · rcases ins_mem h with h | h
        · exact .inl (by simp [h])
        · exact .inr h
    · split at h
      · exact .inl h
      · rcases List.mem_cons.1 h with rfl | h
        · exact .inr rfl
        · exact .inl h
theorem ins_srt {k : Str} : ∀ {l : List Str}, Srt l → Srt (insF l k)
  | [], _ => by rw [insF_nil]; simp [Srt]
  | x :: l, h => by
    have h' := List.pairwise_cons.1 h
    rw [insF_cons]
    split
    · rename_i hl
      rw [lessK_lt, decide_eq_true_eq] at hl
      refine List.pairwise_cons.2 ⟨fun y hy => ?_, ins_srt h'.2⟩
      rcases ins_mem hy with hy | rfl
      · exact h'.1 y hy
      · exact List.le_of_lt hl
    · rename_i hl
      rw [lessK_lt, decide_eq_true_eq] at hl
      have hkx : k ≤ x := List.not_lt.1 hl
      split
      · exact h
      · refine List.pairwise_cons.2 ⟨fun y hy => ?_, h⟩
        rcases List.mem_cons.1 hy with rfl | hy
        · exact hkx
        · exact List.le_trans hkx (h'.1 y hy)
theorem ins_perm {k : Str} : ∀ {l : List Str}, Srt l → (insF l k).Perm (if k ∈ l then l else k :: l)
  | [], _ => by rw [insF_nil]; simp
  | x :: l, h => by
    have h' := List.pairwise_cons.1 h
    rw [insF_cons]
    split
    · rename_i hl
      rw [lessK_lt, decide_eq_true_eq] at hl
      have hne : k ≠ x := fun he => by subst he; exact List.lt_irrefl _ hl
      have ih := ins_perm (k := k) h'.2
      by_cases hk : k ∈ l
      · rw [if_pos hk] at ih
        rw [if_pos (by simp [hk])]
        exact ih.cons x
      · rw [if_neg hk] at ih
        rw [if_neg (by simp [hk, hne])]
        exact (ih.cons x).trans (.swap k x l)
    · rename_i hl
      rw [lessK_lt, decide_eq_true_eq] at hl
      have hkx : k ≤ x := List.not_lt.1 hl
      split
      · rename_i he
        subst he
        rw [if_pos (by simp)]
      · rename_i hne
        rw [if_neg]
        intro hm
        rcases List.mem_cons.1 hm with he | hm
        · exact hne he.symm
        · exact hne (List.le_antisymm (h'.1 k hm) hkx)
theorem sortK_srt {l : List Str} : Srt (sortK l) := by
  have tr : ∀ a b c : Str, decide (a ≤ b) = true → decide (b ≤ c) = true → decide (a ≤ c) = true := fun a b c h1 h2 => by simp only [decide_eq_true_eq] at *; exact List.le_trans h1 h2
  have to : ∀ a b : Str, (decide (a ≤ b) || decide (b ≤ a)) = true := fun a b => by simp only [Bool.or_eq_true, decide_eq_true_eq]; exact List.le_total a b
  exact (List.pairwise_mergeSort tr to l).imp fun h => by simpa using h
theorem sortK_p {l : List Str} : (sortK l).Perm l := List.mergeSort_perm _ _
theorem sortK_eq {l l' : List Str} (h : Srt l') (hp : l'.Perm l) : l' = sortK l :=
  List.Perm.eq_of_pairwise (le := fun a b => a ≤ b) (fun a b _ _ h1 h2 => List.le_antisymm h1 h2) h sortK_srt (hp.trans sortK_p.symm)
theorem ins_sort {ks : List Str} {k : Str} : insF (sortK ks) k = sortK (addK ks k) := by
  refine sortK_eq (ins_srt sortK_srt) ((ins_perm sortK_srt).trans ?_)
  unfold addK
  have hm : (k ∈ sortK ks) ↔ k ∈ ks := sortK_p.mem_iff
  by_cases h : k ∈ ks
  · rw [if_pos (hm.2 h), if_pos h]; exact sortK_p
  · rw [if_neg fun h' => h (hm.1 h'), if_neg h]
    exact (sortK_p.cons k).trans (List.perm_append_singleton k ks).symm
theorem addK_len {ks : List Str} {k : Str} : (addK ks k).length ≤ ks.length + 1 := by unfold addK; split <;> simp

theorem lastF_putD {v : Int} {x : Str} : ∀ {ks : List Str} {dn : List (Str × Int)}, lastF (dn ++ ks.map fun k => (k, v)) x = if x ∈ ks then v else lastF dn x
  | [], dn => by simp
  | k :: ks, dn => by
    have e : dn ++ (k :: ks).map (fun k => (k, v)) = (dn ++ [(k, v)]) ++ ks.map fun k => (k, v) := by simp
    rw [e, lastF_putD, lastF_app]
    by_cases h1 : x ∈ ks
    · simp [h1]
    · by_cases h2 : k = x
      · simp [h2]
      · simp [h1, h2, Ne.symm h2]

structure JJ (a : Ab) (r : Rb) (n : Nat) : Prop where
  c : r.c = a.c
  h : r.h = a.h
  c0 : 0 ≤ a.c ∧ a.c ≤ 1073741824
  h0 : 0 ≤ a.h ∧ a.h ≤ 1073741824
  se : ∀ i, r.se i = (a.se i).map fun x => (x.1, sortK x.2)
  s0 : ∀ i x, a.se i = some x → 0 ≤ x.1 ∧ x.2.length ≤ n
  wr : ∀ x, lastF r.dn x = (a.wr x).getD (-1)
  dn : r.dn.length ≤ n * n
theorem JJ.few {a : Ab} {r : Rb} {n : Nat} (h : JJ a r n) (hn : n < 200) : Few r := by
  refine ⟨fun i x hx => ?_, ?_⟩
  · rw [h.se i] at hx
    cases ho : a.se i with
    | none => rw [ho] at hx; cases hx
    | some y =>
      rw [ho] at hx
      simp only [Option.map_some, Option.some.injEq] at hx
      subst hx
      have := (h.s0 i y ho).2
      have e : (sortK y.2).length = y.2.length := sortK_p.length_eq
      show (sortK y.2).length < 1000
      omega
  · have h1 := h.dn
    have h2 : n * n ≤ 200 * n := Nat.mul_le_mul_right n (by omega)
    omega
theorem JJ.fewA {a : Ab} {r : Rb} {n : Nat} (h : JJ a r n) (hn : n < 200) : ∀ i x, a.se i = some x → x.2.length < 1000 := fun i x hx => by have := (h.s0 i x hx).2; omega
theorem JJ.clsh {a : Ab} {r : Rb} {n : Nat} (h : JJ a r n) {s : Int} (hs : 0 ≤ s) (x : Str) : rclash r.dn s x = clash a.wr s x := by
  unfold rclash clash
  rw [h.wr x]
  cases a.wr x with
  | none => simp; omega
  | some v => rfl
theorem JJ.test {a : Ab} {r : Rb} {n : Nat} (h : JJ a r n) {s : Int} {ks : List Str} (hs : 0 ≤ s) : rtestF (sortK ks) r.dn s r.h = testF ks a.wr s a.h := by
  have e : (sortK ks).any (rclash r.dn s) = ks.any (clash a.wr s) := by
    rw [Bool.eq_iff_iff, List.any_eq_true, List.any_eq_true]
    constructor
    · rintro ⟨x, hx, hc⟩; exact ⟨x, sortK_p.mem_iff.1 hx, by rw [← h.clsh hs]; exact hc⟩
    · rintro ⟨x, hx, hc⟩; exact ⟨x, sortK_p.mem_iff.2 hx, by rw [h.clsh hs]; exact hc⟩
  unfold rtestF testF
  rw [e, h.h]
  have := h.h0
  by_cases h1 : a.h = 1073741824
  · simp [h1]
  · rw [if_neg h1, if_neg (show ¬ 1073741824 ≤ a.h by omega)]
theorem JJ.tst {a : Ab} {r : Rb} {n : Nat} (h : JJ a r n) (z : Int) : rtstF r z = tstF a z := by
  unfold rtstF tstF
  split
  · rw [h.se]
    cases ho : a.se z.toNat with
    | none => rfl
    | some x => exact h.test (h.s0 _ _ ho).1
  · rfl
theorem JJ.wrf {a : Ab} {r : Rb} {n : Nat} (h : JJ a r n) (z : Int) : rwrF r z = twrF a z := by
  unfold rwrF twrF
  split
  · rw [h.se]
    cases ho : a.se z.toNat <;> rfl
  · rfl
theorem JJ.opb {a : Ab} {r : Rb} {n : Nat} (h : JJ a r n) (z : Int) : opB r.ab z = opB a z := by
  unfold opB Rb.ab
  split
  · show (r.se z.toNat).isSome = _
    rw [h.se]
    cases ho : a.se z.toNat <;> rfl
  · rfl
theorem JJ.sinf {a : Ab} {r : Rb} {n : Nat} (h : JJ a r n) (z : Int) : sinF r.ab z = sinF a z := by
  unfold sinF Rb.ab
  split
  · dsimp only
    rw [h.se]
    cases ho : a.se z.toNat <;> rfl
  · rfl
theorem JJ.open4 {a : Ab} {r : Rb} {n : Nat} (h : JJ a r n) : r.ab.opens = a.opens := by
  unfold Ab.opens Rb.ab
  have e : r.se = fun i => (a.se i).map fun x => (x.1, sortK x.2) := funext h.se
  dsimp only
  rw [e]
  cases h0 : a.se 0 <;> cases h1 : a.se 1 <;> cases h2 : a.se 2 <;> cases h3 : a.se 3 <;> simp [h0, h1, h2, h3]
theorem JJ.none' {a : Ab} {r : Rb} {n : Nat} (h : JJ a r n) (i : Nat) : r.se i = none ↔ a.se i = none := by rw [h.se]; cases a.se i <;> simp
theorem JJ.some' {a : Ab} {r : Rb} {n : Nat} (h : JJ a r n) {i : Nat} {s : Int} {ks : List Str} (ha : a.se i = some (s, ks)) : r.se i = some (s, sortK ks) := by rw [h.se, ha]; rfl
theorem JJ.mono {a : Ab} {r : Rb} {n n' : Nat} (h : JJ a r n) (hn : n ≤ n') : JJ a r n' := ⟨h.c, h.h, h.c0, h.h0, h.se, fun i x hx => ⟨(h.s0 i x hx).1, Nat.le_trans (h.s0 i x hx).2 hn⟩, h.wr, Nat.le_trans h.dn (Nat.mul_le_mul hn hn)⟩
theorem set_map {a : Ab} {r : Rb} (h : ∀ i, r.se i = (a.se i).map fun x => (x.1, sortK x.2)) {i : Nat} {x : Option (Int × List Str)} : ∀ j, r.set i (x.map fun y => (y.1, sortK y.2)) j = (a.set i x j).map fun y => (y.1, sortK y.2) := fun j => by
  unfold Rb.set Ab.set
  split
  · rfl
  · exact h j

theorem JJ.beg {a a' : Ab} {r r' : Rb} {n : Nat} {z v e v' e' : Int} (h : JJ a r n) (h1 : Beg a z v e a') (h2 : RBeg r z v' e' r') : v = v' ∧ e = e' ∧ JJ a' r' (n + 1) := by
  rcases h1 with ⟨i1, rfl, rfl, rfl⟩ | ⟨x, i1, o1, rfl, rfl, rfl⟩ | ⟨i1, o1, rfl, rfl, rfl⟩ <;> rcases h2 with ⟨i2, rfl, rfl, rfl⟩ | ⟨y, i2, o2, rfl, rfl, rfl⟩ | ⟨i2, o2, rfl, rfl, rfl⟩
  · exact ⟨rfl, rfl, h.mono (by omega)⟩
  · exact absurd i2 i1
  · exact absurd i2 i1
  · exact absurd i1 i2
  · exact ⟨rfl, rfl, h.mono (by omega)⟩
  · rw [h.none', o1] at o2; cases o2
  · exact absurd i1 i2
  · rw [← h.none', o2] at o1; cases o1
  · have e : max r.c r.h = max a.h a.c := by rw [h.c, h.h]; omega
    have hc := h.c0
    have hh := h.h0
    refine ⟨e.symm, rfl, h.c, e, h.c0, by show 0 ≤ max a.h a.c ∧ max a.h a.c ≤ 1073741824; omega, ?_, fun i x hx => ?_, h.wr, Nat.le_trans h.dn (Nat.mul_le_mul (by omega) (by omega))⟩
    · rw [e]
      intro j
      have := set_map h.se (i := z.toNat) (x := some (max a.h a.c, [])) j
      rw [Option.map_some, show sortK [] = [] by simp [sortK]] at this
      exact this
    · simp only [Ab.beg, Ab.set] at hx
      split at hx
      · injection hx with hx; subst hx; exact ⟨by show 0 ≤ max a.h a.c; omega, by simp⟩
      · exact ⟨(h.s0 i x hx).1, by have := (h.s0 i x hx).2; omega⟩
theorem JJ.wri {a a' : Ab} {r r' : Rb} {n : Nat} {z e e' : Int} {k : Str} (h : JJ a r n) (h1 : Wri a z k e a') (h2 : RWri r z k e' r') : e = e' ∧ JJ a' r' (n + 1) := by
  rcases h1 with ⟨i1, rfl, rfl⟩ | ⟨i1, o1, rfl, rfl⟩ | ⟨s, ks, i1, o1, rfl, rfl⟩ <;> rcases h2 with ⟨i2, rfl, rfl⟩ | ⟨i2, o2, rfl, rfl⟩ | ⟨s', ks', i2, o2, rfl, rfl⟩
  · exact ⟨rfl, h.mono (by omega)⟩
  · exact absurd i2 i1
  · exact absurd i2 i1
  · exact absurd i1 i2
  · exact ⟨rfl, h.mono (by omega)⟩
  · rw [(h.none' _).2 o1] at o2; cases o2
  · exact absurd i1 i2
  · rw [h.none', o1] at o2; cases o2
  · rw [h.some' o1] at o2
    injection o2 with o2; injection o2 with o2 o3; subst o2; subst o3
    have hs := h.s0 _ _ o1
    refine ⟨rfl, h.c, h.h, h.c0, h.h0, ?_, fun i x hx => ?_, h.wr, Nat.le_trans h.dn (Nat.mul_le_mul (by omega) (by omega))⟩
    · rw [ins_sort]
      exact fun j => set_map h.se (x := some (s, addK ks k)) j
    · simp only [Ab.wri, Ab.set] at hx
      split at hx
      · injection hx with hx; subst hx; exact ⟨hs.1, by have := addK_len (ks := ks) (k := k); have := hs.2; dsimp only at *; omega⟩
      · exact ⟨(h.s0 i x hx).1, by have := (h.s0 i x hx).2; omega⟩
theorem JJ.fin {a a' : Ab} {r r' : Rb} {n : Nat} {z e e' : Int} (h : JJ a r n) (h1 : Fin' a z e a') (h2 : RFin r z e' r') : e = e' ∧ JJ a' r' (n + 1) := by
  rcases h1 with ⟨i1, rfl, rfl⟩ | ⟨i1, o1, rfl, rfl⟩ | ⟨x, i1, o1, rfl, rfl⟩ <;> rcases h2 with ⟨i2, rfl, rfl⟩ | ⟨i2, o2, rfl, rfl⟩ | ⟨y, i2, o2, rfl, rfl⟩
  · exact ⟨rfl, h.mono (by omega)⟩
  · exact absurd i2 i1
  · exact absurd i2 i1
  · exact absurd i1 i2
  · exact ⟨rfl, h.mono (by omega)⟩
  · rw [(h.none' _).2 o1] at o2; cases o2
  · exact absurd i1 i2
  · rw [h.none', o1] at o2; cases o2
  · refine ⟨rfl, h.c, h.h, h.c0, h.h0, fun j => set_map h.se (x := none) j, fun i x hx => ?_, h.wr, Nat.le_trans h.dn (Nat.mul_le_mul (by omega) (by omega))⟩
    simp only [Ab.fin, Ab.set] at hx
    split at hx
    · cases hx
    · exact ⟨(h.s0 i x hx).1, by have := (h.s0 i x hx).2; omega⟩
theorem JJ.com {a a' : Ab} {r r' : Rb} {n : Nat} {z v e v' e' : Int} (h : JJ a r n) (h1 : Com a z v e a') (h2 : RCom r z v' e' r') : v = v' ∧ e = e' ∧ JJ a' r' (n + 1) := by
  rcases h1 with ⟨i1, rfl, rfl, rfl⟩ | ⟨i1, o1, rfl, rfl, rfl⟩ | ⟨s, ks, i1, o1, t1, rfl, rfl, rfl⟩ | ⟨s, ks, i1, o1, t1, rfl, rfl, rfl⟩ <;> rcases h2 with ⟨i2, rfl, rfl, rfl⟩ | ⟨i2, o2, rfl, rfl, rfl⟩ | ⟨s', ks', i2, o2, t2, rfl, rfl, rfl⟩ | ⟨s', ks', i2, o2, t2, rfl, rfl, rfl⟩
  · exact ⟨rfl, rfl, h.mono (by omega)⟩
  · exact absurd i2 i1
  · exact absurd i2 i1
  · exact absurd i2 i1
  · exact absurd i1 i2
  · exact ⟨rfl, rfl, h.mono (by omega)⟩
  · rw [(h.none' _).2 o1] at o2; cases o2
  · rw [(h.none' _).2 o1] at o2; cases o2
  · exact absurd i1 i2
  · rw [h.none', o1] at o2; cases o2
  · rw [h.some' o1] at o2
    injection o2 with o2; injection o2 with o2 o3; subst o2; subst o3
    exact ⟨rfl, (h.test (h.s0 _ _ o1).1).symm, h.mono (by omega)⟩
  · rw [h.some' o1] at o2
    injection o2 with o2; injection o2 with o2 o3; subst o2; subst o3
    rw [h.test (h.s0 _ _ o1).1] at t2; exact absurd t2 t1
  · exact absurd i1 i2
  · rw [h.none', o1] at o2; cases o2
  · rw [h.some' o1] at o2
    injection o2 with o2; injection o2 with o2 o3; subst o2; subst o3
    rw [h.test (h.s0 _ _ o1).1] at t2; exact absurd t1 t2
  · rw [h.some' o1] at o2
    injection o2 with o2; injection o2 with o2 o3; subst o2; subst o3
    have hc := h.c0
    have hh := h.h0
    have hs := h.s0 _ _ o1
    have hlt : a.h ≠ 1073741824 := fun he => by
      unfold testF at t1
      split at t1
      · cases t1
      · first | (rw [if_pos he] at t1; cases t1; done) | exact absurd t1 (by decide)
    have hw : IntKind.i64.wrap (a.h + 1) = a.h + 1 := IntWalk.i64_in _ (by omega)
    have e : max r.c (IntKind.i64.wrap (r.h + 1)) = max (IntKind.i64.wrap (a.h + 1)) a.c := by rw [h.c, h.h]; omega
    rw [e]
    have hv : 0 ≤ max (IntKind.i64.wrap (a.h + 1)) a.c ∧ max (IntKind.i64.wrap (a.h + 1)) a.c ≤ 1073741824 := by rw [hw]; omega
    generalize max (IntKind.i64.wrap (a.h + 1)) a.c = v at *
    have hlen : (sortK ks).length = ks.length := sortK_p.length_eq
    refine ⟨rfl, rfl, h.c, rfl, h.c0, hv, fun j => set_map h.se (x := none) j, fun i x hx => ?_, fun x => ?_, ?_⟩
    · simp only [Ab.com, Ab.set] at hx
      split at hx
      · cases hx
      · exact ⟨(h.s0 i x hx).1, by have := (h.s0 i x hx).2; omega⟩
    · show lastF (putD r.dn (sortK ks) v (sortK ks).length) x = (if x ∈ ks then some v else a.wr x).getD (-1)
      unfold putD
      rw [List.take_length, lastF_putD]
      have hm : (x ∈ sortK ks) ↔ x ∈ ks := sortK_p.mem_iff
      by_cases hx : x ∈ ks
      · rw [if_pos (hm.2 hx), if_pos hx]; rfl
      · rw [if_neg fun h' => hx (hm.1 h'), if_neg hx]; exact h.wr x
    · show (putD r.dn (sortK ks) v (sortK ks).length).length ≤ (n + 1) * (n + 1)
      rw [putD_len (Nat.le_refl _)]
      have h1 := h.dn
      have h2 := hs.2
      have h3 : (n + 1) * (n + 1) = n * n + 2 * n + 1 := by rw [Nat.add_mul, Nat.mul_add]; omega
      dsimp only at h2
      omega
theorem JJ.tic {a : Ab} {r : Rb} {n : Nat} {z : Int} (h : JJ a r n) : JJ { a with c := tickF a.c z } { r with c := tickF r.c z } (n + 1) := by
  have h' := h.mono (Nat.le_succ n)
  exact ⟨by show tickF r.c z = tickF a.c z; rw [h.c], h.h, ⟨Int.le_trans h.c0.1 (tickF_in h.c0.1 h.c0.2).1, (tickF_in h.c0.1 h.c0.2).2⟩, h.h0, h.se, h'.s0, h.wr, h'.dn⟩
theorem JJ.new {z : Int} : JJ ⟨min (max z 0) 1073741824, min (max z 0) 1073741824, fun _ => none, fun _ => none⟩ ⟨min (max z 0) 1073741824, min (max z 0) 1073741824, fun _ => none, []⟩ 0 :=
  ⟨rfl, rfl, by dsimp only; omega, by dsimp only; omega, fun _ => rfl, fun i x hx => (by cases hx), fun _ => rfl, by simp⟩
end Go.Vx
/- A deed on both. -/
set_option linter.unusedSimpArgs false
set_option linter.unusedVariables false
set_option maxRecDepth 4000
set_option maxHeartbeats 4000000
namespace Go.Vx
open Go Go.Proofs

theorem MRz.mono {s : Nat} {a : Ab} {M : Nat} {m : Mem} {b b' : Nat} (h : MRz s a M m b) (hb : b ≤ b') : MRz s a M m b' := h.of (fun _ _ => rfl) hb
theorem MRz.low {s : Nat} {a : Ab} {M : Nat} {m : Mem} {b : Nat} (h : MRz s a M m b) : s ≤ M ∧ M < b := by obtain ⟨W, K, wl, h, h1, _⟩ := h; exact ⟨h1, h.hM⟩
theorem RR.mono {r : Rb} {R : Nat} {m : Mem} {b b' : Nat} (h : RR r R m b) (hb : b ≤ b') : RR r R m b' := by obtain ⟨g, h1, h2⟩ := h; exact ⟨g, by omega, h2⟩
theorem RR.of {r : Rb} {R : Nat} {m m' : Mem} {b b' : Nat} (h : RR r R m b) (hm : m' R = m R) (hb : b ≤ b') : RR r R m' b' := by obtain ⟨g, h1, h2, h3⟩ := h; exact ⟨g, by omega, by rw [hm]; exact h2, h3⟩
theorem RR.fr {r : Rb} {R : Nat} {m m' : Mem} {b b1 b' : Nat} (h : RR r R m b) (hf : Fr' b1 m m') (hb1 : b ≤ b1) (hb : b ≤ b') : RR r R m' b' := by obtain ⟨g, h1, h2, h3⟩ := h; exact ⟨g, by omega, hf.1 _ _ (by omega) h2 rfl, h3⟩
theorem RR.at {r : Rb} {R : Nat} {m : Mem} {b : Nat} (h : RR r R m b) : ∃ g : Mg, m R = some g.rbox ∧ R < b := by obtain ⟨g, h1, h2, _⟩ := h; exact ⟨g, h2, h1⟩

theorem slP_ren {p : PV} {xs : List (List PV)} {σ : Nat → Nat} (h : slP p xs) : renA σ p = p := by rcases h with ⟨rfl, _⟩ | rfl <;> rfl
theorem RS.ren {x : Option (Int × List Str)} {s : Se} {σ : Nat → Nat} (h : RS x s) : renA σ s.k = s.k := by
  cases x with
  | none => exact slP_ren h.2
  | some y => exact slP_ren h.2.2
theorem RG.ren {r : Rb} {g : Mg} {σ : Nat → Nat} (h : RG r g) : g.rbox.ren σ = g.rbox := by
  simp only [Mg.rbox, Obj.ren, List.map_cons, List.map_nil]
  have h0 := (h.s 0 (by omega)).ren (σ := σ)
  have h1 := (h.s 1 (by omega)).ren (σ := σ)
  have h2 := (h.s 2 (by omega)).ren (σ := σ)
  have h3 := (h.s 3 (by omega)).ren (σ := σ)
  have h4 := slP_ren (σ := σ) h.d
  simp only [Mg.get] at h0 h1 h2 h3
  rw [h0, h1, h2, h3, h4]; rfl
theorem kmap_ren {ks : List Str} {σ : Nat → Nat} : (Obj.map (kmap ks)).ren σ = .map (kmap ks) := by simp [Obj.ren, kmap, renA, ren1]
theorem wmap_ren {wl : List (Str × Int)} {σ : Nat → Nat} : (Obj.map (wmap wl)).ren σ = .map (wmap wl) := by simp [Obj.ren, mapE, renA, ren1]
theorem gOf_ren {a : Ab} {K K' : Nat → Nat} {W W' : Nat} {σ : Nat → Nat} (hW : σ W' = W) (hK : ∀ i, i < 4 → σ (K' i) = K i) : (gOf a K' W').box.ren σ = (gOf a K W).box := by
  have hs : ∀ i, i < 4 → (seF a K' i).o = (seF a K i).o ∧ (seF a K' i).s = (seF a K i).s ∧ renA σ (seF a K' i).k = (seF a K i).k := fun i hi => by
    unfold seF
    cases a.se i with
    | none => exact ⟨rfl, rfl, rfl⟩
    | some x => exact ⟨rfl, rfl, by show PV.map (σ (K' i)) = _; rw [hK i hi]⟩
  obtain ⟨a1, a2, a3⟩ := hs 0 (by omega)
  obtain ⟨b1, b2, b3⟩ := hs 1 (by omega)
  obtain ⟨c1, c2, c3⟩ := hs 2 (by omega)
  obtain ⟨d1, d2, d3⟩ := hs 3 (by omega)
  simp only [gOf, Mg.box, Obj.ren, List.map_cons, List.map_nil]
  rw [a1, a2, a3, b1, b2, b3, c1, c2, c3, d1, d2, d3]
  show Obj.box [_, _, _, _, _, _, _, _, _, _, _, _, _, _, PV.map (σ W')] _ = _
  rw [hW]; rfl

/-- **Both managers at a contract's end**: what is new gets small numbers. -/
theorem man_out' {s b nx : Nat} {a : Ab} {r : Rb} {M R : Nat} {m : Mem} (h : MRz s a M m nx) (hr : RR r R m nx) (hs : s ≤ b) : ∃ (σ : Nat → Nat) (M' R' : Nat) (m1 : Mem), (∀ id, id < b → σ id = id) ∧ σ M' = M ∧ σ R' = R ∧ M' < b + 8 ∧ R' < b + 8 ∧ (M < b → M' = M) ∧ (R < b → R' = R) ∧ (s ≤ R → s ≤ R') ∧
    MRz s a M' m1 (b + 8) ∧ RR r R' m1 (b + 8) ∧ (∀ id o, m1 id = some o → m (σ id) = some (o.ren σ) ∧ id < b + 8 ∧ o.lt (b + 8) = true ∧ o.fix b = true) ∧ (∀ i j o o', m1 i = some o → m1 j = some o' → σ i = σ j → i = j) ∧ (∀ id, id < b → m id = none → m1 id = none) ∧ ∀ id o, b ≤ id → m1 id = some o → b ≤ σ id := by
  obtain ⟨W, K, wl, h, hs1, hs2, hs3⟩ := h
  obtain ⟨g, hRn, hmR, hg⟩ := hr
  let σ : Nat → Nat := fun j => if j < b then j else if j = b + 4 then W else if j = b + 5 then M else if j = b + 6 then R else K (j - b)
  let M' := if M < b then M else b + 5
  let R' := if R < b then R else b + 6
  let W' := if W < b then W else b + 4
  let K' : Nat → Nat := fun i => if K i < b then K i else b + i
  have σM : σ M' = M := by
    by_cases hb : M < b
    · simp only [σ, M', if_pos hb]
    · simp only [σ, M', if_neg hb]; rw [if_neg (by omega), if_neg (by omega), if_pos trivial]
  have σR : σ R' = R := by
    by_cases hb : R < b
    · simp only [σ, R', if_pos hb]
    · simp only [σ, R', if_neg hb]; rw [if_neg (by omega), if_neg (by omega), if_neg (by omega), if_pos trivial]
  have σW : σ W' = W := by
    by_cases hb : W < b
    · simp only [σ, W', if_pos hb]
    · simp only [σ, W', if_neg hb]; rw [if_neg (by omega), if_pos trivial]
  have σK : ∀ i, i < 4 → σ (K' i) = K i := fun i hi => by
    simp only [σ, K']
    by_cases hk : K i < b
    · simp [hk]
    · rw [if_neg hk, if_neg (by omega), if_neg (by omega), if_neg (by omega), if_neg (by omega)]
      congr 1; omega
  have hM8 : M' < b + 8 := by simp only [M']; split <;> omega
  have hR8 : R' < b + 8 := by simp only [R']; split <;> omega
  have hW8 : W' < b + 8 := by simp only [W']; split <;> omega
  have hK8 : ∀ i, i < 4 → K' i < b + 8 := fun i hi => by simp only [K']; split <;> omega
  have nMR : M ≠ R := by have := ne_of_obj h.m0 hmR (by simp); simpa using this
  have nWR : W ≠ R := by have := ne_of_obj h.m1 hmR (by simp); simpa using this
  have nKR : ∀ i, i < 4 → a.se i ≠ none → K i ≠ R := fun i hi hn => by
    obtain ⟨x, hx⟩ := Option.ne_none_iff_exists'.1 hn
    have := ne_of_obj (h.k i hi x hx).2.2.2 hmR (by simp); simpa using this
  have nK : ∀ i, i < 4 → a.se i ≠ none → M ≠ K i ∧ W ≠ K i ∧ ∃ ks, m (K i) = some (.map (kmap ks)) := fun i hi hn => by
    obtain ⟨x, hx⟩ := Option.ne_none_iff_exists'.1 hn
    obtain ⟨_, h2, h3, h4⟩ := h.k i hi x hx
    exact ⟨h2, h3, _, h4⟩
  let S : Nat → Prop := fun id => id = R' ∨ id = W' ∨ ∃ i, i < 4 ∧ a.se i ≠ none ∧ id = K' i
  have dM : ¬ S M' := by
    rintro (h1 | h1 | ⟨i, hi, hn, h1⟩)
    · exact nMR (by rw [← σM, ← σR, h1])
    · exact h.hMW (by rw [← σM, ← σW, h1])
    · exact (nK i hi hn).1 (by rw [← σM, ← σK i hi, h1])
  have : DecidablePred S := fun id => Classical.propDecidable _
  let m1 : Mem := fun id => if id = M' then some (gOf a K' W').box else if S id then m (σ id) else none
  have e1 : m1 M' = some (gOf a K' W').box := if_pos rfl
  have e2 : ∀ id, S id → m1 id = m (σ id) := fun id hS => by
    have : id ≠ M' := fun he => dM (he ▸ hS)
    simp only [m1]; rw [if_neg this, if_pos hS]
  have eR : m1 R' = some g.rbox := by rw [e2 _ (.inl rfl), σR]; exact hmR
  have eW : m1 W' = some (.map (wmap wl)) := by rw [e2 _ (.inr (.inl rfl)), σW]; exact h.m1
  have eK : ∀ i, i < 4 → a.se i ≠ none → m1 (K' i) = m (K i) := fun i hi hn => by rw [e2 _ (.inr (.inr ⟨i, hi, hn, rfl⟩)), σK i hi]
  have wh : MRw a M' W' K' wl m1 (b + 8) := by
    refine ⟨hM8, hW8, fun he => dM (he ▸ .inr (.inl rfl)), e1, eW, h.mw, fun i hi x hx => ?_, fun i j hi hj hij g1 g2 he => ?_⟩
    · have hn : a.se i ≠ none := by rw [hx]; simp
      refine ⟨hK8 i hi, fun he => dM (he ▸ .inr (.inr ⟨i, hi, hn, rfl⟩)), fun he => (nK i hi hn).2.1 (by rw [← σW, ← σK i hi, he]), by rw [eK i hi hn]; exact (h.k i hi x hx).2.2.2⟩
    · exact h.kk i j hi hj hij g1 g2 (by rw [← σK i hi, ← σK j hj, he])
  refine ⟨σ, M', R', m1, fun id hid => by simp only [σ]; rw [if_pos hid], σM, σR, hM8, hR8, fun hh => by simp only [M']; rw [if_pos hh], fun hh => by simp only [R']; rw [if_pos hh], fun hh => by simp only [R']; split <;> omega, ⟨W', K', wl, wh, by simp only [M']; split <;> omega, by simp only [W']; split <;> omega, fun i hi hn => by have := hs3 i hi hn; simp only [K']; split <;> omega⟩, ⟨g, hR8, eR, hg⟩, fun id o ho => ?_, fun i j o o' hi hj hij => ?_, fun id hid hn => ?_, fun id o hb ho => ?_⟩
  · have hok := wh.ok
    by_cases hid : id = M'
    · subst hid
      rw [e1] at ho; injection ho with ho; subst ho
      exact ⟨by rw [σM, gOf_ren σW σK]; exact h.m0, hM8, by simpa using Mg.blt (k := 0) hok, rfl⟩
    · have hS : S id := by
        refine Classical.byContradiction fun hS => ?_
        simp only [m1] at ho
        rw [if_neg hid, if_neg hS] at ho; cases ho
      rcases hS with rfl | rfl | ⟨i, hi, hn, rfl⟩
      · rw [eR] at ho; injection ho with ho; subst ho
        exact ⟨by rw [σR, hg.ren]; exact hmR, hR8, by simpa using Mg.rblt (k := 0) (hg.ok (b := b + 8)), rfl⟩
      · rw [eW] at ho; injection ho with ho; subst ho
        exact ⟨by rw [σW, wmap_ren]; exact h.m1, hW8, (flatM_lt wmap_flat).1, (flatM_lt wmap_flat).2⟩
      · obtain ⟨_, _, ks, hks⟩ := nK i hi hn
        rw [eK i hi hn, hks] at ho; injection ho with ho; subst ho
        exact ⟨by rw [σK i hi, kmap_ren]; exact hks, hK8 i hi, kmap_lt.1, kmap_lt.2⟩
  · have dom : ∀ id o, m1 id = some o → id = M' ∨ S id := fun id o ho => by
      by_cases hid : id = M'
      · exact .inl hid
      · refine .inr (Classical.byContradiction fun hS => ?_)
        simp only [m1] at ho
        rw [if_neg hid, if_neg hS] at ho; cases ho
    rcases dom i o hi with rfl | rfl | rfl | ⟨p, hp, hpn, rfl⟩ <;> rcases dom j o' hj with rfl | rfl | rfl | ⟨q, hq, hqn, rfl⟩
    · rfl
    · rw [σM, σR] at hij; exact absurd hij nMR
    · rw [σM, σW] at hij; exact absurd hij h.hMW
    · rw [σM, σK q hq] at hij; exact absurd hij (nK q hq hqn).1
    · rw [σR, σM] at hij; exact absurd hij.symm nMR
    · rfl
    · rw [σR, σW] at hij; exact absurd hij.symm nWR
    · rw [σR, σK q hq] at hij; exact absurd hij.symm (nKR q hq hqn)
    · rw [σW, σM] at hij; exact absurd hij.symm h.hMW
    · rw [σW, σR] at hij; exact absurd hij nWR
    · rfl
    · rw [σW, σK q hq] at hij; exact absurd hij (nK q hq hqn).2.1
    · rw [σK p hp, σM] at hij; exact absurd hij.symm (nK p hp hpn).1
    · rw [σK p hp, σR] at hij; exact absurd hij (nKR p hp hpn)
    · rw [σK p hp, σW] at hij; exact absurd hij.symm (nK p hp hpn).2.1
    · rw [σK p hp, σK q hq] at hij
      by_cases hpq : p = q
      · rw [hpq]
      · exact absurd hij (h.kk p q hp hq hpq hpn hqn)
  · refine Classical.byContradiction fun hne => ?_
    obtain ⟨o, ho⟩ := Option.ne_none_iff_exists'.1 hne
    have hσ : σ id = id := by simp only [σ]; rw [if_pos hid]
    by_cases hidM : id = M'
    · have := h.m0
      rw [← σM, ← hidM, hσ, hn] at this; cases this
    · simp only [m1] at ho
      rw [if_neg hidM, hσ, hn] at ho
      split at ho <;> cases ho
  · by_cases hid : id = M'
    · rw [hid, σM]; subst hid
      simp only [M'] at hb; split at hb <;> omega
    · have hS : S id := by
        refine Classical.byContradiction fun hS => ?_
        simp only [m1] at ho
        rw [if_neg hid, if_neg hS] at ho; cases ho
      rcases hS with rfl | rfl | ⟨i, hi, hn, rfl⟩
      · rw [σR]; simp only [R'] at hb; split at hb <;> omega
      · rw [σW]; simp only [W'] at hb; split at hb <;> omega
      · rw [σK i hi]; simp only [K'] at hb; split at hb <;> omega
theorem man_out {s b nx : Nat} {a : Ab} {r : Rb} {M R : Nat} {m : Mem} (h : MRz s a M m nx) (hr : RR r R m nx) (hs : s ≤ b) : ∃ (σ : Nat → Nat) (M' R' : Nat) (m1 : Mem), (∀ id, id < b → σ id = id) ∧ σ M' = M ∧ σ R' = R ∧ M' < b + 8 ∧ R' < b + 8 ∧ (M < b → M' = M) ∧ (R < b → R' = R) ∧ (s ≤ R → s ≤ R') ∧
    MRz s a M' m1 (b + 8) ∧ RR r R' m1 (b + 8) ∧ (∀ id o, m1 id = some o → m (σ id) = some (o.ren σ) ∧ id < b + 8 ∧ o.lt (b + 8) = true ∧ o.fix b = true) ∧ (∀ i j o o', m1 i = some o → m1 j = some o' → σ i = σ j → i = j) ∧ ∀ id, id < b → m id = none → m1 id = none := by
  obtain ⟨σ, M', R', m1, h1, h2, h3, h4, h5, h6, h7, h8, h9, h10, h11, h12, h13, _⟩ := man_out' h hr hs
  exact ⟨σ, M', R', m1, h1, h2, h3, h4, h5, h6, h7, h8, h9, h10, h11, h12, h13⟩
end Go.Vx
/- A deed on both. -/
set_option linter.unusedSimpArgs false
set_option linter.unusedVariables false
set_option maxRecDepth 4000
set_option maxHeartbeats 4000000
namespace Go.Vx
open Go Go.Proofs

def KDo (s n M R b : Nat) (m0 : Mem) (q : PV) (m1 : Mem) : Prop :=
  q = .bool true ∧ ∃ a' r', JJ a' r' (n + 1) ∧ MRz s a' M m1 (b + 8) ∧ RR r' R m1 (b + 8) ∧ ∀ id, id < b → m0 id = none → m1 id = none
theorem do_end {s n M R b nx : Nat} {a' : Ab} {r' : Rb} {m0 m : Mem} {e : Env} (he : e 6 = some (.bool true)) (hJ : JJ a' r' (n + 1)) (h : MRz s a' M m nx) (hr : RR r' R m nx) (hs : s ≤ b) (hM : M < b) (hR : R < b) (hf : ∀ id, id < b → m0 id = none → m id = none) : EndsK [.tmp 6] b (KDo s n M R b m0) e m := by
  obtain ⟨σ, M', R', m1, h1, h2, h3, h4, h5, h6, h7, h8, h9, h10, h11, h12, h13⟩ := man_out h hr hs
  obtain rfl := h6 hM
  obtain rfl := h7 hR
  refine ⟨.bool true, m1, ⟨rfl, a', r', hJ, h9, h10, fun id hid hn => h13 id hid (hf id hid hn)⟩, .bool true, by simp [resF, resL, RX.ev, he, tup1], [], σ, .inl ⟨rfl, rfl⟩, fun id o ho => ?_, h12, h1⟩
  rw [frz_nil']
  exact h11 id o ho

theorem w_do {s n M R b : Nat} {a : Ab} {r : Rb} {k z N : Int} {key : Str} {m0 : Mem} (hM : MRz s a M m0 b) (hR : RR r R m0 b) (hJ : JJ a r n) (hn : n < 150) :
    VW Try.prog c22 (PRet (EndsK [.tmp 6] b (KDo s n M R b m0))) (fun t => [PV.ptr M 15 0 0, .ptr R 15 0 0, .agg [iv k, iv z, .str key, iv N]][t]?) m0 b := by
  unfold c22
  obtain ⟨hsM, hMb⟩ := hM.low
  obtain ⟨g0, hg0, hRb⟩ := hR.at
  obtain ⟨n1, n2, n3, n4, n5⟩ := below_ne hMb
  obtain ⟨p1, p2, p3, p4, p5⟩ := below_ne hRb
  have hfew := hJ.few (by omega)
  have hM1 : ∀ o, MRz s a M (upd m0 b (some o)) (b + 8) := fun o => hM.of (fun id hid => upd_other _ _ (by omega)) (by omega)
  have hR1 : ∀ o, RR r R (upd m0 b (some o)) (b + 8) := fun o => hR.of (upd_other _ _ (by omega)) (by omega)
  have hF1 : ∀ o id, id < b → m0 id = none → upd m0 b (some o) id = none := fun o id hid h => by rw [upd_other _ _ (by omega)]; exact h
  repeat' (first
    | exact True.intro
    | refine VW.seq ?_
    | refine VW.block ?_
    | ((first | refine VW.skip ?_ | refine VW.exit ?_ | refine VW.reg ?_ | refine VW.regD ?_ | refine VW.ret ?_ | show goA _ _ _ _ _ _ _ _ _ _ | show goB _ _ _ _ _ _ _ _ _ | show goAD _ _ _ _ _ _ _ _ _ _ _ _ _ _ | show goBD _ _ _ _ _ _ _ _ _ _ _); refine sx ?_)
    | refine VW.condT cx ?_
    | refine VW.condF cx ?_
    | refine VW.cond ex ?_ ?_
    | refine imp_nt ?_
    | refine imp_nf ?_
    | refine imp_dt (fun _ => ?_)
    | refine imp_df (fun _ => ?_)
    | (refine fun (_ : _ = true) => ?_)
    | (refine fun (_ : _ = false) => ?_)
    | refine vg_t ?_ ?_
    | refine vg_f ?_ ?_)
  · refine VC.begF (hM1 _) (by omega) (fun _ _ => rfl) fun v e1 a1 m1 hB hM2 hF2 => ?_
    have hg1 : m1 R = some g0.rbox := hF2.1 R _ (by omega) (by rw [upd_other _ _ (by omega)]; exact hg0) rfl
    have hR2 : RR r R m1 (b + 8) := hR.of (by rw [hg1, hg0]) (by omega)
    have hX2 := hF2.1 b _ (by omega) (upd_same _ _ _) rfl
    have hF2' : ∀ id, id < b → m0 id = none → m1 id = none := fun id hid h => hF2.2 id (by omega) (hF1 _ id hid h)
    clear hM1 hR1 hF1 hF2 hM
    refine sy ?_
    repeat' (first
    | exact True.intro
    | refine VW.seq ?_
    | refine VW.block ?_
    | ((first | refine VW.skip ?_ | refine VW.exit ?_ | refine VW.reg ?_ | refine VW.regD ?_ | refine VW.ret ?_ | show goA _ _ _ _ _ _ _ _ _ _ | show goB _ _ _ _ _ _ _ _ _ | show goAD _ _ _ _ _ _ _ _ _ _ _ _ _ _ | show goBD _ _ _ _ _ _ _ _ _ _ _); refine sx ?_)
    | refine VW.condT cx ?_
    | refine VW.condF cx ?_
    | refine VW.cond ex ?_ ?_
    | refine imp_nt ?_
    | refine imp_nf ?_
    | refine imp_dt (fun _ => ?_)
    | refine imp_df (fun _ => ?_)
    | (refine fun (_ : _ = true) => ?_)
    | (refine fun (_ : _ = false) => ?_)
    | refine vg_t ?_ ?_
    | refine vg_f ?_ ?_)
    refine VC.rbeg hR2 (by omega) (cx) fun v' e2 r1 g1 hB' hG => ?_
    obtain ⟨rfl, rfl, hJ'⟩ := hJ.beg hB hB'
    have hM3 := (hM2.upd (o' := g1.rbox) hg1 rfl).mono (b' := b + 1000) (by omega)
    have hR3 : RR r1 R (upd m1 R (some g1.rbox)) (b + 1000) := ⟨g1, by omega, upd_same _ _ _, hG⟩
    have hF3 : ∀ id, id < b → m0 id = none → upd m1 R (some g1.rbox) id = none := fun id hid h => by rw [upd_other _ _ (fun he => by subst he; rw [hg0] at h; cases h)]; exact hF2' id hid h
    clear hB hB' hM2 hR2 hF2' hR hJ hfew hG
    refine sy ?_
    repeat' (first
    | exact True.intro
    | refine VW.seq ?_
    | refine VW.block ?_
    | ((first | refine VW.skip ?_ | refine VW.exit ?_ | refine VW.reg ?_ | refine VW.regD ?_ | refine VW.ret ?_ | show goA _ _ _ _ _ _ _ _ _ _ | show goB _ _ _ _ _ _ _ _ _ | show goAD _ _ _ _ _ _ _ _ _ _ _ _ _ _ | show goBD _ _ _ _ _ _ _ _ _ _ _); refine sx ?_)
    | refine VW.condT cx ?_
    | refine VW.condF cx ?_
    | refine VW.cond ex ?_ ?_
    | refine imp_nt ?_
    | refine imp_nf ?_
    | refine imp_dt (fun _ => ?_)
    | refine imp_df (fun _ => ?_)
    | (refine fun (_ : _ = true) => ?_)
    | (refine fun (_ : _ = false) => ?_)
    | refine vg_t ?_ ?_
    | refine vg_f ?_ ?_)
    exact do_end (cx) hJ' hM3 hR3 (by omega) hMb hRb hF3
  · refine VC.wriF (hM1 _) (by omega) (fun id hid => restr_old (by omega)) fun e1 a1 m1 hB hM2 hF2 => ?_
    have hg1 : m1 R = some g0.rbox := hF2.1 R _ (by omega) (by rw [upd_other _ _ (by omega)]; exact hg0) rfl
    have hR2 : RR r R m1 (b + 8) := hR.of (by rw [hg1, hg0]) (by omega)
    have hX2 := hF2.1 b _ (by omega) (upd_same _ _ _) rfl
    have hF2' : ∀ id, id < b → m0 id = none → m1 id = none := fun id hid h => hF2.2 id (by omega) (hF1 _ id hid h)
    have hH := fun base an j => restrH_same (base := base) (an := an) (H := []) (m := m1) (j := j) (m1 := upd m0 b (some (.box [iv 1, iv z, .str key, iv N] 32))) (m2 := m1) (id := b) (by rw [upd_same, hX2])
    clear hM1 hR1 hF1 hF2 hM
    refine sx ?_
    repeat' (first
    | exact True.intro
    | refine VW.seq ?_
    | refine VW.block ?_
    | ((first | refine VW.skip ?_ | refine VW.exit ?_ | refine VW.reg ?_ | refine VW.regD ?_ | refine VW.ret ?_ | show goA _ _ _ _ _ _ _ _ _ _ | show goB _ _ _ _ _ _ _ _ _ | show goAD _ _ _ _ _ _ _ _ _ _ _ _ _ _ | show goBD _ _ _ _ _ _ _ _ _ _ _); refine sx ?_)
    | refine VW.condT cx ?_
    | refine VW.condF cx ?_
    | refine VW.cond ex ?_ ?_
    | refine imp_nt ?_
    | refine imp_nf ?_
    | refine imp_dt (fun _ => ?_)
    | refine imp_df (fun _ => ?_)
    | (refine fun (_ : _ = true) => ?_)
    | (refine fun (_ : _ = false) => ?_)
    | refine vg_t ?_ ?_
    | refine vg_f ?_ ?_)
    refine VC.rwri hR2 (by omega) (cx) hfew fun e2 r1 g1 hB' hG => ?_
    obtain ⟨rfl, hJ'⟩ := hJ.wri hB hB'
    have hM3 := (hM2.upd (o' := g1.rbox) hg1 rfl).mono (b' := b + 1000) (by omega)
    have hR3 : RR r1 R (upd m1 R (some g1.rbox)) (b + 1000) := ⟨g1, by omega, upd_same _ _ _, hG⟩
    have hF3 : ∀ id, id < b → m0 id = none → upd m1 R (some g1.rbox) id = none := fun id hid h => by rw [upd_other _ _ (fun he => by subst he; rw [hg0] at h; cases h)]; exact hF2' id hid h
    clear hB hB' hM2 hR2 hF2' hR hJ hfew hG
    refine sy ?_
    repeat' (first
    | exact True.intro
    | refine VW.seq ?_
    | refine VW.block ?_
    | ((first | refine VW.skip ?_ | refine VW.exit ?_ | refine VW.reg ?_ | refine VW.regD ?_ | refine VW.ret ?_ | show goA _ _ _ _ _ _ _ _ _ _ | show goB _ _ _ _ _ _ _ _ _ | show goAD _ _ _ _ _ _ _ _ _ _ _ _ _ _ | show goBD _ _ _ _ _ _ _ _ _ _ _); refine sx ?_)
    | refine VW.condT cx ?_
    | refine VW.condF cx ?_
    | refine VW.cond ex ?_ ?_
    | refine imp_nt ?_
    | refine imp_nf ?_
    | refine imp_dt (fun _ => ?_)
    | refine imp_df (fun _ => ?_)
    | (refine fun (_ : _ = true) => ?_)
    | (refine fun (_ : _ = false) => ?_)
    | refine vg_t ?_ ?_
    | refine vg_f ?_ ?_)
    exact do_end (cx) hJ' hM3 hR3 (by omega) hMb hRb hF3
  · refine VC.tst (hM1 _).mr (by omega) (fun id hid => restr_old (by omega)) ?_
    refine sy ?_
    repeat' (first
    | exact True.intro
    | refine VW.seq ?_
    | refine VW.block ?_
    | ((first | refine VW.skip ?_ | refine VW.exit ?_ | refine VW.reg ?_ | refine VW.regD ?_ | refine VW.ret ?_ | show goA _ _ _ _ _ _ _ _ _ _ | show goB _ _ _ _ _ _ _ _ _ | show goAD _ _ _ _ _ _ _ _ _ _ _ _ _ _ | show goBD _ _ _ _ _ _ _ _ _ _ _); refine sx ?_)
    | refine VW.condT cx ?_
    | refine VW.condF cx ?_
    | refine VW.cond ex ?_ ?_
    | refine imp_nt ?_
    | refine imp_nf ?_
    | refine imp_dt (fun _ => ?_)
    | refine imp_df (fun _ => ?_)
    | (refine fun (_ : _ = true) => ?_)
    | (refine fun (_ : _ = false) => ?_)
    | refine vg_t ?_ ?_
    | refine vg_f ?_ ?_)
    refine VC.rtst (hR1 _) (by omega) (cx) hfew ?_
    rw [hJ.tst]
    generalize tstF a z = tz at *
    refine sy ?_
    repeat' (first
    | exact True.intro
    | refine VW.seq ?_
    | refine VW.block ?_
    | ((first | refine VW.skip ?_ | refine VW.exit ?_ | refine VW.reg ?_ | refine VW.regD ?_ | refine VW.ret ?_ | show goA _ _ _ _ _ _ _ _ _ _ | show goB _ _ _ _ _ _ _ _ _ | show goAD _ _ _ _ _ _ _ _ _ _ _ _ _ _ | show goBD _ _ _ _ _ _ _ _ _ _ _); refine sx ?_)
    | refine VW.condT cx ?_
    | refine VW.condF cx ?_
    | refine VW.cond ex ?_ ?_
    | refine imp_nt ?_
    | refine imp_nf ?_
    | refine imp_dt (fun _ => ?_)
    | refine imp_df (fun _ => ?_)
    | (refine fun (_ : _ = true) => ?_)
    | (refine fun (_ : _ = false) => ?_)
    | refine vg_t ?_ ?_
    | refine vg_f ?_ ?_)
    refine VC.comF (hM1 _) (by omega) fun v e1 a1 m1 hB hM2 hF2 => ?_
    have hg1 : m1 R = some g0.rbox := hF2.1 R _ (by omega) (by rw [upd_other _ _ (by omega)]; exact hg0) rfl
    have hR2 : RR r R m1 (b + 8) := hR.of (by rw [hg1, hg0]) (by omega)
    have hX2 := hF2.1 b _ (by omega) (upd_same _ _ _) rfl
    have hF2' : ∀ id, id < b → m0 id = none → m1 id = none := fun id hid h => hF2.2 id (by omega) (hF1 _ id hid h)
    clear hM1 hR1 hF1 hF2 hM
    refine sy ?_
    repeat' (first
    | exact True.intro
    | refine VW.seq ?_
    | refine VW.block ?_
    | ((first | refine VW.skip ?_ | refine VW.exit ?_ | refine VW.reg ?_ | refine VW.regD ?_ | refine VW.ret ?_ | show goA _ _ _ _ _ _ _ _ _ _ | show goB _ _ _ _ _ _ _ _ _ | show goAD _ _ _ _ _ _ _ _ _ _ _ _ _ _ | show goBD _ _ _ _ _ _ _ _ _ _ _); refine sx ?_)
    | refine VW.condT cx ?_
    | refine VW.condF cx ?_
    | refine VW.cond ex ?_ ?_
    | refine imp_nt ?_
    | refine imp_nf ?_
    | refine imp_dt (fun _ => ?_)
    | refine imp_df (fun _ => ?_)
    | (refine fun (_ : _ = true) => ?_)
    | (refine fun (_ : _ = false) => ?_)
    | refine vg_t ?_ ?_
    | refine vg_f ?_ ?_)
    refine VC.rcom hR2 (by omega) (cx) hfew fun v' e2 r1 g1 hB' hG => ?_
    obtain ⟨rfl, rfl, hJ'⟩ := hJ.com hB hB'
    have hM3 := (hM2.upd (o' := g1.rbox) hg1 rfl).mono (b' := b + 1000) (by omega)
    have hR3 : RR r1 R (upd m1 R (some g1.rbox)) (b + 1000) := ⟨g1, by omega, upd_same _ _ _, hG⟩
    have hF3 : ∀ id, id < b → m0 id = none → upd m1 R (some g1.rbox) id = none := fun id hid h => by rw [upd_other _ _ (fun he => by subst he; rw [hg0] at h; cases h)]; exact hF2' id hid h
    clear hB hB' hM2 hR2 hF2' hR hJ hfew hG
    refine sy ?_
    repeat' (first
    | exact True.intro
    | refine VW.seq ?_
    | refine VW.block ?_
    | ((first | refine VW.skip ?_ | refine VW.exit ?_ | refine VW.reg ?_ | refine VW.regD ?_ | refine VW.ret ?_ | show goA _ _ _ _ _ _ _ _ _ _ | show goB _ _ _ _ _ _ _ _ _ | show goAD _ _ _ _ _ _ _ _ _ _ _ _ _ _ | show goBD _ _ _ _ _ _ _ _ _ _ _); refine sx ?_)
    | refine VW.condT cx ?_
    | refine VW.condF cx ?_
    | refine VW.cond ex ?_ ?_
    | refine imp_nt ?_
    | refine imp_nf ?_
    | refine imp_dt (fun _ => ?_)
    | refine imp_df (fun _ => ?_)
    | (refine fun (_ : _ = true) => ?_)
    | (refine fun (_ : _ = false) => ?_)
    | refine vg_t ?_ ?_
    | refine vg_f ?_ ?_)
    exact do_end (cx) hJ' hM3 hR3 (by omega) hMb hRb hF3
  · refine VC.finF (hM1 _) (by omega) (fun id hid => restr_old (by omega)) fun e1 a1 m1 hB hM2 hF2 => ?_
    have hg1 : m1 R = some g0.rbox := hF2.1 R _ (by omega) (by rw [upd_other _ _ (by omega)]; exact hg0) rfl
    have hR2 : RR r R m1 (b + 8) := hR.of (by rw [hg1, hg0]) (by omega)
    have hX2 := hF2.1 b _ (by omega) (upd_same _ _ _) rfl
    have hF2' : ∀ id, id < b → m0 id = none → m1 id = none := fun id hid h => hF2.2 id (by omega) (hF1 _ id hid h)
    have hH := fun base an j => restrH_same (base := base) (an := an) (H := []) (m := m1) (j := j) (m1 := upd m0 b (some (.box [iv 3, iv z, .str key, iv N] 32))) (m2 := m1) (id := b) (by rw [upd_same, hX2])
    clear hM1 hR1 hF1 hF2 hM
    refine sx ?_
    repeat' (first
    | exact True.intro
    | refine VW.seq ?_
    | refine VW.block ?_
    | ((first | refine VW.skip ?_ | refine VW.exit ?_ | refine VW.reg ?_ | refine VW.regD ?_ | refine VW.ret ?_ | show goA _ _ _ _ _ _ _ _ _ _ | show goB _ _ _ _ _ _ _ _ _ | show goAD _ _ _ _ _ _ _ _ _ _ _ _ _ _ | show goBD _ _ _ _ _ _ _ _ _ _ _); refine sx ?_)
    | refine VW.condT cx ?_
    | refine VW.condF cx ?_
    | refine VW.cond ex ?_ ?_
    | refine imp_nt ?_
    | refine imp_nf ?_
    | refine imp_dt (fun _ => ?_)
    | refine imp_df (fun _ => ?_)
    | (refine fun (_ : _ = true) => ?_)
    | (refine fun (_ : _ = false) => ?_)
    | refine vg_t ?_ ?_
    | refine vg_f ?_ ?_)
    refine VC.rfin hR2 (by omega) (cx) fun e2 r1 g1 hB' hG => ?_
    obtain ⟨rfl, hJ'⟩ := hJ.fin hB hB'
    have hM3 := (hM2.upd (o' := g1.rbox) hg1 rfl).mono (b' := b + 1000) (by omega)
    have hR3 : RR r1 R (upd m1 R (some g1.rbox)) (b + 1000) := ⟨g1, by omega, upd_same _ _ _, hG⟩
    have hF3 : ∀ id, id < b → m0 id = none → upd m1 R (some g1.rbox) id = none := fun id hid h => by rw [upd_other _ _ (fun he => by subst he; rw [hg0] at h; cases h)]; exact hF2' id hid h
    clear hB hB' hM2 hR2 hF2' hR hJ hfew hG
    refine sy ?_
    repeat' (first
    | exact True.intro
    | refine VW.seq ?_
    | refine VW.block ?_
    | ((first | refine VW.skip ?_ | refine VW.exit ?_ | refine VW.reg ?_ | refine VW.regD ?_ | refine VW.ret ?_ | show goA _ _ _ _ _ _ _ _ _ _ | show goB _ _ _ _ _ _ _ _ _ | show goAD _ _ _ _ _ _ _ _ _ _ _ _ _ _ | show goBD _ _ _ _ _ _ _ _ _ _ _); refine sx ?_)
    | refine VW.condT cx ?_
    | refine VW.condF cx ?_
    | refine VW.cond ex ?_ ?_
    | refine imp_nt ?_
    | refine imp_nf ?_
    | refine imp_dt (fun _ => ?_)
    | refine imp_df (fun _ => ?_)
    | (refine fun (_ : _ = true) => ?_)
    | (refine fun (_ : _ = false) => ?_)
    | refine vg_t ?_ ?_
    | refine vg_f ?_ ?_)
    exact do_end (cx) hJ' hM3 hR3 (by omega) hMb hRb hF3
  · refine VC.ticF (hM1 _) (by omega) (fun _ _ => rfl) fun m1 hM2 hF2 => ?_
    have hg1 : m1 R = some g0.rbox := hF2.1 R _ (by omega) (by rw [upd_other _ _ (by omega)]; exact hg0) rfl
    have hR2 : RR r R m1 (b + 8) := hR.of (by rw [hg1, hg0]) (by omega)
    have hX2 := hF2.1 b _ (by omega) (upd_same _ _ _) rfl
    have hF2' : ∀ id, id < b → m0 id = none → m1 id = none := fun id hid h => hF2.2 id (by omega) (hF1 _ id hid h)
    clear hM1 hR1 hF1 hF2 hM
    refine sy ?_
    repeat' (first
    | exact True.intro
    | refine VW.seq ?_
    | refine VW.block ?_
    | ((first | refine VW.skip ?_ | refine VW.exit ?_ | refine VW.reg ?_ | refine VW.regD ?_ | refine VW.ret ?_ | show goA _ _ _ _ _ _ _ _ _ _ | show goB _ _ _ _ _ _ _ _ _ | show goAD _ _ _ _ _ _ _ _ _ _ _ _ _ _ | show goBD _ _ _ _ _ _ _ _ _ _ _); refine sx ?_)
    | refine VW.condT cx ?_
    | refine VW.condF cx ?_
    | refine VW.cond ex ?_ ?_
    | refine imp_nt ?_
    | refine imp_nf ?_
    | refine imp_dt (fun _ => ?_)
    | refine imp_df (fun _ => ?_)
    | (refine fun (_ : _ = true) => ?_)
    | (refine fun (_ : _ = false) => ?_)
    | refine vg_t ?_ ?_
    | refine vg_f ?_ ?_)
    refine VC.rtic hR2 (by omega) (cx) fun g1 hG => ?_
    have hJ' := hJ.tic (z := N)
    have hM3 := (hM2.upd (o' := g1.rbox) hg1 rfl).mono (b' := b + 1000) (by omega)
    have hR3 : RR _ R (upd m1 R (some g1.rbox)) (b + 1000) := ⟨g1, by omega, upd_same _ _ _, hG⟩
    have hF3 : ∀ id, id < b → m0 id = none → upd m1 R (some g1.rbox) id = none := fun id hid h => by rw [upd_other _ _ (fun he => by subst he; rw [hg0] at h; cases h)]; exact hF2' id hid h
    clear hM2 hR2 hF2' hR hJ hfew hG
    refine sy ?_
    repeat' (first
    | exact True.intro
    | refine VW.seq ?_
    | refine VW.block ?_
    | ((first | refine VW.skip ?_ | refine VW.exit ?_ | refine VW.reg ?_ | refine VW.regD ?_ | refine VW.ret ?_ | show goA _ _ _ _ _ _ _ _ _ _ | show goB _ _ _ _ _ _ _ _ _ | show goAD _ _ _ _ _ _ _ _ _ _ _ _ _ _ | show goBD _ _ _ _ _ _ _ _ _ _ _); refine sx ?_)
    | refine VW.condT cx ?_
    | refine VW.condF cx ?_
    | refine VW.cond ex ?_ ?_
    | refine imp_nt ?_
    | refine imp_nf ?_
    | refine imp_dt (fun _ => ?_)
    | refine imp_df (fun _ => ?_)
    | (refine fun (_ : _ = true) => ?_)
    | (refine fun (_ : _ = false) => ?_)
    | refine vg_t ?_ ?_
    | refine vg_f ?_ ?_)
    exact do_end (cx) hJ' hM3 hR3 (by omega) hMb hRb hF3
  · exact do_end (cx) (hJ.mono (by omega)) (hM1 _) (hR1 _) (by omega) hMb hRb (hF1 _)
/-- Its contract. -/
theorem v_do {s n M R b : Nat} {a : Ab} {r : Rb} {k z N : Int} {key : Str} {m0 : Mem} (hM : MRz s a M m0 b) (hR : RR r R m0 b) (hJ : JJ a r n) (hn : n < 150) :
    VX Try.prog (.f 22) [.ptr M 15 0 0, .ptr R 15 0 0, .agg [iv k, iv z, .str key, iv N]] m0 b (KDo s n M R b m0) := VX.code mixed k22 (by simp) (w_do hM hR hJ hn)
end Go.Vx
