/- The engine, part 4: what one operation does to the relation. -/
import Derived.Test.YtgkkffhoflgpoaaVc
set_option linter.unusedVariables false
set_option linter.unusedSimpArgs false
namespace Go.Vx
open Go Go.RowKit

section
variable {P : Program} {F : Fr} {β β' : Ids} {ok : Nat → Prop} {e : Nat → Option PV} {m m' : Mem} {a : Act} {w w' : World}

theorem MSat.not_ok (hm : MSat w ok β m) {k : Nat} (h : Owns β m k) : ¬ ok k := by
  obtain ⟨id, o, cap, ho, hf, hb⟩ := h
  obtain ⟨l, hl, hr⟩ := hm.objs id o ho
  rw [hb] at hl
  injection hl with hl
  subst hl
  exact hr.not_ok hf

theorem MSat.lt (hm : MSat w ok β m) {id : Nat} {o : Obj} {b cap : Nat} (h : m id = some o) (hb : β id = some (.at b cap)) : b < w.heap.size := by
  obtain ⟨l, hl, hr⟩ := hm.objs id o h
  rw [hb] at hl
  injection hl with hl
  subst hl
  exact hr.lt

theorem Marks.step {ds : List Deferred} {ok' : Nat → Prop} (hk : Marks F β ok m ds w) (ch : Nat → Prop) (hother : ∀ k, k < w.heap.size → ¬ ch k → w'.heap[k]? = w.heap[k]?)
    (hch : ∀ k, k < w.heap.size → ch k → Owns β m k) (ho : ∀ b, Owns β' m' b → Owns β m b ∨ w.heap.size ≤ b) (hok : ∀ b, ok' b → ok b ∨ Owns β m b ∨ w.heap.size ≤ b) : Marks F β' ok' m' ds w' := by
  refine ⟨fun d hd => ?_, hk.apart⟩
  obtain ⟨D, h1, h2, h3, h4, h5⟩ := hk.each d hd
  have hD : D < w.heap.size := (Array.getElem?_eq_some_iff.1 h2).1
  refine ⟨D, h1, by rw [hother D hD fun hc => h5 (hch D hD hc)]; exact h2, h3, fun h => ?_, fun h => ?_⟩
  · rcases hok D h with h | h | h
    · exact h4 h
    · exact h5 h
    · omega
  · rcases ho D h with h | h
    · exact h5 h
    · omega

theorem Sat0.step (hs : Sat0 F β ok e m a w) (ch : Nat → Prop) (hother : ∀ k, k < w.heap.size → ¬ ch k → w'.heap[k]? = w.heap[k]?)
    (hch : ∀ k, k < w.heap.size → ch k → Owns β m k) (h1 : w'.os = w.os) (h2 : w'.tape = w.tape) (h3 : w'.output = w.output) (h4 : w.heap.size ≤ w'.heap.size) (h5 : w.drawn ≤ w'.drawn)
    (hβ : ∀ id x, β id = some x → β' id = some x) (hm : MSat w' ok β' m') (ho : ∀ b, Owns β' m' b → Owns β m b ∨ w.heap.size ≤ b) : Sat0 F β' ok e m' a w' := {
  size := hs.size
  defers := hs.defers.step ch hother hch ho fun b h => .inl h
  env := fun t p ht => by
    obtain ⟨v, hv, hr⟩ := hs.env t p ht
    exact ⟨v, hv, hr.mono (fun b hb => hother b (hs.okb b hb) fun hc => hs.mem.not_ok (hch b (hs.okb b hb) hc) hb) (fun _ h => h) _ hβ⟩
  mem := hm
  okb := fun b hb => Nat.lt_of_lt_of_le (hs.okb b hb) h4
  keeps := ⟨h1.trans hs.keeps.os, h2.trans hs.keeps.tape, h3.trans hs.keeps.output, Nat.le_trans hs.keeps.size h4, fun b hb hn => by
    rw [hother b (Nat.lt_of_lt_of_le hb hs.keeps.size) fun hc => ?_]
    · exact hs.keeps.block b hb hn
    · rcases hs.own b (hch b (Nat.lt_of_lt_of_le hb hs.keeps.size) hc) with h | h
      · exact hn h
      · omega, Nat.le_trans hs.keeps.drawn h5⟩
  own := fun b hb => (ho b hb).elim (hs.own b) (fun h => .inr (Nat.le_trans hs.keeps.size h))
  ok0 := hs.ok0
  oks := hs.oks }

theorem Sat0.okw (hs : Sat0 F β ok e m a w) {ch : Nat → Prop} (hother : ∀ k, k < w.heap.size → ¬ ch k → w'.heap[k]? = w.heap[k]?)
    (hch : ∀ k, k < w.heap.size → ch k → Owns β m k) : ∀ b, ok b → w'.heap[b]? = w.heap[b]? :=
  fun b hb => hother b (hs.okb b hb) fun hc => hs.mem.not_ok (hch b (hs.okb b hb) hc) hb

theorem beta_upd {b : Nat} {l : Loc} (hb : β b = none) : ∀ id x, β id = some x → upd β b (some l) id = some x := by
  intro id x h
  have : id ≠ b := fun e => by subst e; rw [hb] at h; cases h
  simp [upd, this, h]

/-- A new object in a new block. -/
theorem Sat0.alloc (hs : Sat0 F β ok e m a w) {b : Nat} (hb : β b = none) (O : Go.Obj) (o : Obj) (cap : Nat)
    (ho : ORep (w.alloc O) ok (upd β b (some (.at w.heap.size cap))) (.at w.heap.size cap) o) :
    Sat0 F (upd β b (some (.at w.heap.size cap))) ok e (upd m b (some o)) a (w.alloc O) := by
  have hoth : ∀ k, k < w.heap.size → ¬ False → (w.alloc O).heap[k]? = w.heap[k]? := fun k hk _ => Below.heap_alloc w O k hk
  have hbm := beta_upd (l := .at w.heap.size cap) hb
  refine hs.step (fun _ => False) hoth (fun _ _ h => h.elim) rfl rfl rfl (by simp) (Nat.le_refl _) hbm ⟨?_, ?_⟩ ?_
  · intro id o' hid
    by_cases he : id = b
    · subst he
      simp [upd] at hid; subst hid
      exact ⟨_, by simp [upd], ho⟩
    · simp [upd, he] at hid
      obtain ⟨l, hl, hr⟩ := hs.mem.objs id o' hid
      refine ⟨l, hbm _ _ hl, hr.mono (hs.okw hoth fun _ _ h => h.elim) (fun _ h => h) hbm fun bb cap' hl' => ?_⟩
      subst hl'
      exact ⟨hoth _ hr.lt (fun h => h), fun h => h⟩
  · intro id id' o1 o2 bb c1 c2 h1 h2 h3 h4 f1 f2
    by_cases e1 : id = b <;> by_cases e2 : id' = b
    · rw [e1, e2]
    · exfalso
      subst e1
      simp [upd] at h3
      simp [upd, e2] at h2 h4
      have := hs.mem.lt h2 h4
      omega
    · exfalso
      subst e2
      simp [upd] at h4
      simp [upd, e1] at h1 h3
      have := hs.mem.lt h1 h3
      omega
    · simp [upd, e1] at h1 h3
      simp [upd, e2] at h2 h4
      exact hs.mem.disj id id' o1 o2 bb c1 c2 h1 h2 h3 h4 f1 f2
  · rintro bb ⟨id, o', c, hid, hf, hbe⟩
    by_cases he : id = b
    · subst he
      simp [upd] at hbe
      exact .inr (by omega)
    · simp [upd, he] at hid hbe
      exact .inl ⟨id, o', c, hid, hf, hbe⟩

/-- An object whose block is written. -/
theorem Sat0.change (hs : Sat0 F β ok e m a w) {id : Nat} {o o' : Obj} {g cap : Nat} (hid : m id = some o) (hf : o.fz = false) (hf' : o'.fz = false) (hb : β id = some (.at g cap))
    (h1 : w'.os = w.os) (h2 : w'.tape = w.tape) (h3 : w'.output = w.output) (h4 : w'.heap.size = w.heap.size) (h5 : w.drawn ≤ w'.drawn) (hoth : ∀ k, k ≠ g → w'.heap[k]? = w.heap[k]?)
    (ho : (∀ p v, Rep w ok β p v → Rep w' ok β p v) → (∀ p v, Rep w ok noIds p v → Rep w' ok noIds p v) → ORep w' ok β (.at g cap) o') : Sat0 F β ok e (upd m id (some o')) a w' := by
  have hown : Owns β m g := ⟨id, o, cap, hid, hf, hb⟩
  have hoth' : ∀ k, k < w.heap.size → ¬ (k = g) → w'.heap[k]? = w.heap[k]? := fun k _ hk => hoth k hk
  have hch : ∀ k, k < w.heap.size → k = g → Owns β m k := fun k _ hk => hk ▸ hown
  have hokw := hs.okw hoth' hch
  refine hs.step (· = g) hoth' hch h1 h2 h3 (by omega) h5 (fun _ _ h => h) ⟨?_, ?_⟩ ?_
  · intro id' o1 hid'
    by_cases he : id' = id
    · subst he
      simp [upd] at hid'; subst hid'
      exact ⟨_, hb, ho (fun p v h => h.mono hokw (fun _ h => h) _ (fun _ _ h => h)) (fun p v h => h.mono hokw (fun _ h => h) _ (fun _ _ h => h))⟩
    · simp [upd, he] at hid'
      obtain ⟨l, hl, hr⟩ := hs.mem.objs id' o1 hid'
      refine ⟨l, hl, hr.mono hokw (fun _ h => h) (fun _ _ h => h) fun bb cap' hl' => ?_⟩
      subst hl'
      refine ⟨hoth bb fun hbb => ?_, fun h => h⟩
      subst hbb
      exact he (hs.mem.disj' hid' hid hl hb hf)
  · intro i1 i2 o1 o2 bb c1 c2 h1 h2 h3 h4 f1 f2
    have g1 : ∃ o1, m i1 = some o1 ∧ o1.fz = false := by
      by_cases he : i1 = id
      · exact ⟨o, he ▸ hid, hf⟩
      · simp [upd, he] at h1; exact ⟨_, h1, f1⟩
    have g2 : ∃ o2, m i2 = some o2 ∧ o2.fz = false := by
      by_cases he : i2 = id
      · exact ⟨o, he ▸ hid, hf⟩
      · simp [upd, he] at h2; exact ⟨_, h2, f2⟩
    obtain ⟨q1, g1, k1⟩ := g1
    obtain ⟨q2, g2, k2⟩ := g2
    exact hs.mem.disj i1 i2 q1 q2 bb c1 c2 g1 g2 h3 h4 k1 k2
  · rintro bb ⟨i1, o1, c, hi1, hf1, hbe⟩
    by_cases he : i1 = id
    · subst he
      rw [hb] at hbe
      injection hbe with hbe
      injection hbe with hg _
      subst hg
      exact .inl hown
    · simp [upd, he] at hi1
      exact .inl ⟨i1, o1, c, hi1, hf1, hbe⟩

/-- What an operation comes to. -/
def OpOk (P : Program) (F : Fr) (β : Ids) (ok : Nat → Prop) (e : Nat → Option PV) (m : Mem) (a : Act) (w : World) (b : Nat) (o : Oper) (p : PV) (d : Delta) : Prop :=
  ∃ v w' β', ((execOp a.eval o).run P w = .ok (.value v) w' ∨ ((execOp a.eval o).run P w = .ok .skip w' ∧ v = undef)) ∧ Rep w' ok β' p v ∧
    Sat0 F β' ok e (m.upds d) a w' ∧ ∀ id, id ≠ b → β' id = β id

theorem OpOk.value {b : Nat} {o : Oper} {p : PV} {v : Value} (hs : Sat0 F β ok e m a w) (hr : (execOp a.eval o).run P w = .ok (.value v) w) (hp : Rep w ok β p v) :
    OpOk P F β ok e m a w b o p [] := ⟨v, w, β, .inl hr, hp, hs, fun _ _ => rfl⟩

end
end Go.Vx
