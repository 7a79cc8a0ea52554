/- The engine, part 21b: the statement 'for .. range f'. -/
import Derived.Test.YtgkkffhoflgpoaaVua
set_option linter.unusedVariables false
set_option linter.unusedSimpArgs false
namespace Go.Vx
open Go Go.RowKit

/-- The objects behind a range over a function. -/
def rangeM (m0 : Mem) (L : Nat) (m1 m : Mem) : Mem := upd (patch m0 (L + 8) m1 m) L none

section
variable {P : Program} {F : Fr} {β β' : Ids} {ok : Nat → Prop} {e : Nat → Option PV} {m : Mem} {a : Act} {w : World} {Q : Post} {nx : Nat}

/-- **A range over a function**: the function is called with the loop's body (number nx), over the objects m0; what it leaves is m1. -/
theorem VW.rangeF {g : XA} {ps : List Nat} {xa xb : XCode} {f : Nat} {caps : List PV} (hg : g.ev e = some (.fn f caps))
    (h : ∀ k : LoopKey, k.P = P → k.e = e → k.ps = ps → k.xa = xa → k.xb = xb → k.top = nx →
      ∃ (qs : List PV) (m0 : Mem) (K : PV → Mem → Prop), Args (nx + 8) m (.yld nx :: caps) (.yld nx :: qs) ∧ (∀ id o, m0 id = some o → m id = some o ∧ o.lt (nx + 8) = true) ∧
        VX P (.f f) (.yld nx :: qs) (upd m0 nx (some (.loop k .ready none))) (nx + 8) K ∧
        ∀ r m1, K r m1 → ∃ k' st pd, m1 nx = some (.loop k' st pd) ∧ st ≠ .busy ∧
          match pd with
          | none => Q .normal e (rangeM m0 nx m1 m) (nx + 16)
          | some none => Q .ret e (rangeM m0 nx m1 m) (nx + 16)
          | some (some i) => Q (.exit i) e (rangeM m0 nx m1 m) (nx + 16)) : VW P (.rangeF g ps xa xb) Q e m nx := by
  intro ro F c β ok a w hm hro hc hs hf hd
  obtain ⟨og, pa, ca, cb, rfl, hog, hpa, hps, hca, hcb⟩ := compC_inv hc
  have hro : ro = none := hro.resolve_right (by simp [XCode.flat])
  subst hro
  have hnxm : m nx = none := by
    cases hid : m nx with
    | none => rfl
    | some ob =>
      obtain ⟨l, hl, _⟩ := hs.mem.objs nx ob hid
      rw [hf nx (Nat.le_refl _)] at hl; cases hl
  refine wpIn_rangeFunc fun fn _ => ?_
  obtain ⟨k, hk⟩ : ∃ k : LoopKey, k = ⟨P, F.n, e, ps, xa, xb, β, nx, fn⟩ := ⟨_, rfl⟩
  obtain ⟨qs, m0, K, hargs, hsub, hv, hend⟩ := h k (by rw [hk]) (by rw [hk]) (by rw [hk]) (by rw [hk]) (by rw [hk]) (by rw [hk])
  -- the record is laid
  obtain ⟨rec, hrec⟩ : ∃ rec : Loop, rec = { state := .ready, pending := none, fn := fn, tmps := a.tmps, params := pa, assign := ca, body := cb, defers := w.heap.size } := ⟨_, rfl⟩
  obtain ⟨w1, hw1⟩ : ∃ w1, w1 = w.alloc (.deferred (some [])) := ⟨_, rfl⟩
  obtain ⟨w2, hw2⟩ : ∃ w2, w2 = w1.alloc (.loop rec) := ⟨_, rfl⟩
  have hsz1 : w1.heap.size = w.heap.size + 1 := by rw [hw1]; simp
  have hsz2 : w2.heap.size = w.heap.size + 2 := by rw [hw2]; simp [hsz1]
  have hold1 : ∀ k, k < w.heap.size → w1.heap[k]? = w.heap[k]? := fun k hk => by rw [hw1]; exact Below.heap_alloc w _ k hk
  have hold2 : ∀ k, k < w1.heap.size → w2.heap[k]? = w1.heap[k]? := fun k hk => by rw [hw2]; exact Below.heap_alloc w1 _ k hk
  have hold : ∀ k, k < w.heap.size → w2.heap[k]? = w.heap[k]? := fun k hk => by rw [hold2 k (by omega), hold1 k hk]
  have hD : w2.heap[w.heap.size]? = some (.deferred (some [])) := by rw [hold2 _ (by omega), hw1]; exact heap_alloc_new w _
  have hL : w2.heap[w.heap.size + 1]? = some (.loop rec) := by rw [hw2, ← hsz1]; exact heap_alloc_new w1 _
  obtain ⟨d0, hd0⟩ : ∃ d0 : Deferred, d0 = { target := .collected w.heap.size, args := #[] } := ⟨_, rfl⟩
  obtain ⟨β1, hβ1⟩ : ∃ β1, β1 = upd β nx (some (.at (w.heap.size + 1) 0)) := ⟨_, rfl⟩
  have hbm : ∀ id x, β id = some x → β1 id = some x := by rw [hβ1]; exact beta_upd (hf nx (Nat.le_refl _))
  have hnokL : ¬ ok (w.heap.size + 1) := fun h => by have := hs.okb _ h; omega
  have hnokD : ¬ ok w.heap.size := fun h => by have := hs.okb _ h; omega
  have hrm : ∀ {β' p v}, Rep w ok β' p v → Rep w2 ok β' p v := fun h => h.mono (fun k hk => hold k (hs.okb k hk)) (fun _ h => h) _ (fun _ _ h => h)
  have hOw : ∀ b, Owns β1 (upd m nx (some (.loop k .ready none))) b → Owns β m b ∨ b = w.heap.size + 1 := by
    rintro b ⟨id, o, cap, h1, h2, h3⟩
    by_cases he : id = nx
    · subst he
      rw [hβ1, upd_same] at h3; injection h3 with h3; injection h3 with h3; exact .inr h3.symm
    · rw [upd_other _ _ he] at h1
      rw [hβ1, upd_other _ _ he] at h3
      exact .inl ⟨id, o, cap, h1, h2, h3⟩
  have hs2 : Sat0 F β1 ok e (upd m nx (some (.loop k .ready none))) { a with defers := d0 :: a.defers } w2 := by
    refine ⟨hs.size, ⟨fun d hd => ?_, ?_⟩, fun t p ht => ?_, ⟨fun id o ho => ?_, fun i1 i2 o1 o2 bb c1 c2 h1 h2 h3 h4 f1 f2 => ?_⟩, fun b hb => by have := hs.okb b hb; omega, ?_, fun b hb => ?_, hs.ok0, hs.oks⟩
    · rcases List.mem_cons.1 hd with rfl | hd
      · refine ⟨w.heap.size, by rw [hd0], hD, hs.keeps.size, hnokD, fun ho => ?_⟩
        rcases hOw _ ho with h | h
        · obtain ⟨id, o, cap, h1, h2, h3⟩ := h
          have := hs.mem.lt h1 h3; omega
        · omega
      · obtain ⟨D, g1, g2, g3, g4, g5⟩ := hs.defers.each d hd
        have hDl : D < w.heap.size := (Array.getElem?_eq_some_iff.1 g2).1
        refine ⟨D, g1, by rw [hold D hDl]; exact g2, g3, g4, fun ho => ?_⟩
        rcases hOw _ ho with h | h
        · exact g5 h
        · omega
    · refine List.pairwise_cons.2 ⟨fun d hd => ?_, hs.defers.apart⟩
      obtain ⟨D, g1, g2, _⟩ := hs.defers.each d hd
      have hDl : D < w.heap.size := (Array.getElem?_eq_some_iff.1 g2).1
      rw [hd0, g1]
      intro h; injection h with h; omega
    · obtain ⟨v, hv, hr⟩ := hs.env t p ht
      exact ⟨v, hv, (hrm hr).mono (fun _ _ => rfl) (fun _ h => h) _ hbm⟩
    · by_cases he : id = nx
      · subst he
        rw [upd_same] at ho; injection ho with ho; subst ho
        refine ⟨.at (w.heap.size + 1) 0, by rw [hβ1, upd_same], ⟨a.tmps, ca, cb, w.heap.size, ?_, ?_, ?_, ?_, ?_, ?_, ?_, ?_⟩, hnokL⟩
        · rw [hL, hrec, hk, ← hpa]; rfl
        · rw [hk]; exact hs.size
        · rw [hk]
          intro t p ht
          obtain ⟨v, hv, hr⟩ := hs.env t p ht
          exact ⟨v, hv, hrm hr⟩
        · rw [hk]; exact hca
        · rw [hk]; exact hcb
        · rw [hk]; exact hps
        · rw [hk]; exact hbm
        · rw [hk]; exact hf
      · rw [upd_other _ _ he] at ho
        obtain ⟨l, hl, hr⟩ := hs.mem.objs id o ho
        refine ⟨l, hbm _ _ hl, hr.mono (fun k hk => hold k (hs.okb k hk)) (fun _ h => h) hbm fun bb cap hll => ?_⟩
        subst hll
        exact ⟨hold bb hr.lt, fun h => h⟩
    · by_cases e1 : i1 = nx <;> by_cases e2 : i2 = nx
      · rw [e1, e2]
      · exfalso
        rw [hβ1, e1, upd_same] at h3; injection h3 with h3; injection h3 with h3
        rw [upd_other _ _ e2] at h2
        rw [hβ1, upd_other _ _ e2] at h4
        have := hs.mem.lt h2 h4; omega
      · exfalso
        rw [hβ1, e2, upd_same] at h4; injection h4 with h4; injection h4 with h4
        rw [upd_other _ _ e1] at h1
        rw [hβ1, upd_other _ _ e1] at h3
        have := hs.mem.lt h1 h3; omega
      · rw [upd_other _ _ e1] at h1
        rw [upd_other _ _ e2] at h2
        rw [hβ1, upd_other _ _ e1] at h3
        rw [hβ1, upd_other _ _ e2] at h4
        exact hs.mem.disj i1 i2 o1 o2 bb c1 c2 h1 h2 h3 h4 f1 f2
    · refine ⟨by rw [hw2, hw1]; exact hs.keeps.os, by rw [hw2, hw1]; exact hs.keeps.tape, by rw [hw2, hw1]; exact hs.keeps.output, by have := hs.keeps.size; omega, fun b hb hn => ?_, by rw [hw2, hw1]; exact hs.keeps.drawn⟩
      rw [hold b (Nat.lt_of_lt_of_le hb hs.keeps.size)]
      exact hs.keeps.block b hb hn
    · rcases hOw b hb with h | h
      · exact hs.own b h
      · have := hs.keeps.size; exact .inr (by omega)
  -- the function
  obtain ⟨us, hul, hur, heval⟩ : ∃ us : List Value, us.length = caps.length ∧ (∀ (j : Nat) c v, caps[j]? = some c → us[j]? = some v → Rep w ok β c v) ∧ a.eval og = .func (.func f) #[] us.toArray := by
    have hr := ev_rep hs hog hg
    generalize hv : a.eval og = v at hr
    cases hr with
    | fn _ _ us hul hur => exact ⟨us, hul, hur, rfl⟩
  have hreps : Reps w2 ok β1 (.yld nx :: caps) (.func (.yield (w.heap.size + 1)) #[] #[] :: us) := by
    refine ⟨by simp [hul], fun j p v hp hv => ?_⟩
    cases j with
    | zero => simp at hp hv; subst hp; subst hv; exact .yld nx _ 0 (by rw [hβ1, upd_same])
    | succ j => exact (hrm (hur j p v (by simpa using hp) (by simpa using hv))).mono (fun _ _ => rfl) (fun _ h => h) _ hbm
  have hm0nx : m0 nx = none := by
    cases h0 : m0 nx with
    | none => rfl
    | some ob => rw [(hsub nx ob h0).1] at hnxm; cases hnxm
  have hidlt : ∀ id o, m id = some o → id < nx := fun id o h => by
    rcases Nat.lt_or_ge id nx with h2 | h2
    · exact h2
    · obtain ⟨l, hl, _⟩ := hs.mem.objs id o h
      rw [hf id h2] at hl; cases hl
  have hmsub : Sub m (upd m nx (some (.loop k .ready none))) := fun id o h => by
    rw [upd_other _ _ (by have := hidlt id o h; omega)]; exact h
  have hcall := v_apply hs2 (b := nx + 8) (fun id h1 _ => by rw [hβ1, upd_other _ _ (by omega)]; exact hf id (by omega)) (mR := upd m nx (some (.loop k .ready none))) (fun _ _ h => h) hreps (hargs.sub hmsub) (m0 := upd m0 nx (some (.loop k .ready none))) (fun id o h => by
    by_cases he : id = nx
    · subst he
      rw [upd_same] at h; injection h with h; subst h
      refine ⟨upd_same _ _ _, by omega, ?_⟩
      simp [Obj.lt, hk]
    · rw [upd_other _ _ he] at h
      obtain ⟨h1, h2⟩ := hsub id o h
      exact ⟨by rw [upd_other _ _ he]; exact h1, by have := hidlt id o h1; omega, h2⟩) hv
  have hround : F.w0.heap.size ≤ w.heap.size := hs.keeps.size
  refine ⟨w.heap.size + 1, [d0], w2, { target := .fn (.func f) us.toArray, args := #[.func (.yield (w.heap.size + 1)) #[] #[]] }, w2, f, (.func (.yield (w.heap.size + 1)) #[] #[] :: us).toArray, w2, ?_, ?_, fun _ _ => trivial, ?_, fun h => (by cases h), ?_⟩
  · simp only [Instr.enterLoop, Sem.run_bind, run_newObj_alloc, Result.andThen_ok, Sem.run_pure, ← hw1, hd0, hrec, hw2, hsz1]
  · have e1 : resolve a.eval (rangeCall og (w.heap.size + 1)) 0 = Deferred.ofValue (a.eval og) #[.func (.yield (w.heap.size + 1)) #[] #[]] := by
      unfold resolve
      simp only [rangeCall, List.map_toArray, List.map_cons, List.map_nil]
      rfl
    rw [e1, heval]
    simp [Deferred.ofValue]
  · have hent := hv.1
    simp only [invoke]
    have := hent (.func (.yield (w.heap.size + 1)) #[] #[] :: us).toArray w2
    simpa using this
  · refine CallsIn.mono (F := wf none) (callsIn_wide.2 hcall) ?_
    rintro e' w3 ⟨v, r, m1, β3, ok3, rfl, hK, hrep, hs3, hfar⟩
    obtain ⟨k', st, pd, hm1, hst, hq⟩ := hend r m1 hK
    have hpm : patch (upd m0 nx (some (.loop k .ready none))) (nx + 8) m1 (upd m nx (some (.loop k .ready none))) nx = some (.loop k' st pd) := by
      simp only [patch, upd_same, Option.isSome_some, true_or, if_true, hm1]
    have hb3 : β3 nx = some (.at (w.heap.size + 1) 0) := by rw [hfar nx (.inl (by omega)), hβ1, upd_same]
    obtain ⟨tm3, ca3, cb3, dl3, z1, _⟩ := loop_block hs3.mem hpm hb3
    obtain ⟨w4, hw4⟩ : ∃ w4, w4 = setB w3 (w.heap.size + 1) (.loop { state := .exhausted, pending := jumpOf pd, fn := k'.fn, tmps := tm3, params := k'.ps.toArray, assign := ca3, body := cb3, defers := dl3 }) := ⟨_, rfl⟩
    have hstb : (st == LoopState.busy) = false := by cases st <;> first | rfl | exact absurd rfl hst
    have hMM : ∀ id, rangeM m0 nx m1 m id = if id = nx then none else patch (upd m0 nx (some (.loop k .ready none))) (nx + 8) m1 (upd m nx (some (.loop k .ready none))) id := fun id => by
      unfold rangeM
      by_cases he : id = nx
      · rw [he, upd_same, if_pos rfl]
      · rw [upd_other _ _ he, if_neg he]
        simp only [patch, upd_other _ _ he]
    have hs4 : Sat0 F β3 ok3 e (rangeM m0 nx m1 m) { a with defers := d0 :: a.defers } w4 := by
      have hown : Owns β3 (patch (upd m0 nx (some (.loop k .ready none))) (nx + 8) m1 (upd m nx (some (.loop k .ready none)))) (w.heap.size + 1) := ⟨nx, _, 0, hpm, rfl, hb3⟩
      have hoth : ∀ q, q < w3.heap.size → ¬ (q = w.heap.size + 1) → w4.heap[q]? = w3.heap[q]? := fun q _ hq => by rw [hw4]; exact setB_other q hq
      have hch : ∀ q, q < w3.heap.size → q = w.heap.size + 1 → Owns β3 (patch (upd m0 nx (some (.loop k .ready none))) (nx + 8) m1 (upd m nx (some (.loop k .ready none)))) q := fun q _ hq => hq ▸ hown
      refine hs3.step (· = w.heap.size + 1) hoth hch (by rw [hw4]; rfl) (by rw [hw4]; rfl) (by rw [hw4]; rfl) (by rw [hw4, setB_size]; exact Nat.le_refl _) (by rw [hw4]; exact Nat.le_refl _) (fun _ _ h => h) ⟨fun id o ho => ?_, fun i1 i2 o1 o2 bb c1 c2 h1 h2 h3 h4 f1 f2 => ?_⟩ ?_
      · rw [hMM] at ho
        split at ho
        · cases ho
        · rename_i he
          obtain ⟨l, hl, hr⟩ := hs3.mem.objs id o ho
          refine ⟨l, hl, hr.mono (hs3.okw hoth hch) (fun _ h => h) (fun _ _ h => h) fun bb cap hll => ?_⟩
          subst hll
          refine ⟨hoth bb hr.lt fun hbb => ?_, fun h => h⟩
          subst hbb
          exact he (hs3.mem.disj' ho hpm hl hb3 rfl)
      · rw [hMM] at h1 h2
        split at h1
        · cases h1
        split at h2
        · cases h2
        exact hs3.mem.disj i1 i2 o1 o2 bb c1 c2 h1 h2 h3 h4 f1 f2
      · rintro bb ⟨id, o, cap, h1, h2, h3⟩
        rw [hMM] at h1
        split at h1
        · cases h1
        exact .inl ⟨id, o, cap, h1, h2, h3⟩
    have hf4 : ∀ id, nx + 16 ≤ id → β3 id = none := fun id h => by rw [hfar id (.inr (by omega)), hβ1, upd_other _ _ (by omega)]; exact hf id (by omega)
    have hd4 : Held F β3 (nx + 16) := ⟨by have := hd.1; omega, fun id h => by
      have h5 := hd.1
      rw [hfar id (.inl (by omega)), hβ1, upd_other _ _ (by omega)]; exact hd.2 id h⟩
    refine ⟨jumpOf pd, w4, ?_, ?_⟩
    · simp only [Instr.endLoop, Instr.getLoop, Sem.run_bind, run_getObj z1 rfl, Result.andThen_ok, Sem.run_pure, hstb, Bool.false_eq_true, if_false, run_setObj _ z1 rfl, hw4]
    · cases pd with
      | none => exact ⟨e, _, _, β3, ok3, hs4, hf4, hd4, hq⟩
      | some j =>
        cases j with
        | none => exact wpIn_ret (F := wf none) ⟨e, _, _, β3, ok3, hs4, hf4, hd4, hq⟩
        | some i => exact wpIn_exit (F := wf none) ⟨e, _, _, β3, ok3, hs4, hf4, hd4, hq⟩

end
end Go.Vx
