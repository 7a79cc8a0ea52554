/- The engine, part 3: the model's small steps. -/
import Derived.Test.YtgkkffhoflgpoaaVb
set_option linter.unusedVariables false
set_option linter.unusedSimpArgs false
namespace Go.Vx
open Go Go.RowKit

section base
variable {P : Program} {w : World}

theorem add_mk (b o n : Nat) : (⟨b, o, none⟩ : Addr).add n = ⟨b, o + n, none⟩ := by unfold Addr.add; split <;> simp_all
theorem add_add (a : Addr) (i j : Nat) : (a.add i).add j = a.add (i + j) := by
  unfold Addr.add
  by_cases hi : i = 0 <;> by_cases hj : j = 0 <;> simp [hi, hj, Nat.add_assoc]
theorem add_spot (a : Addr) (h : a.spot = none) (n : Nat) : (a.add n).spot = none := by unfold Addr.add; split <;> simp [h]

theorem cell_of {b : Nat} {cur : Array Value} {T : TypeId} {fz : Nat × Nat} (h : w.heap[b]? = some (.cells cur T fz)) (o : Nat) : w.cell? ⟨b, o, none⟩ = cur[o]? := by
  simp [World.cell?, h]
theorem frozen_of {b : Nat} {cur : Array Value} {T : TypeId} (h : w.heap[b]? = some (.cells cur T (0, 0))) (o : Nat) : w.frozen? ⟨b, o, none⟩ = false := by
  simp [World.frozen?, h]

theorem run_und {t : TypeId} {d : TypeDesc} (h : P.underlying t = some d) : (underlying t).run P w = .ok d w := run_underlying h w

theorem run_isAgg {t : TypeId} {b : Bool} (h : tyAgg P t = some b) : (isAgg t).run P w = .ok b w := by
  unfold tyAgg at h
  unfold isAgg
  cases hu : P.underlying t with
  | none => simp [hu] at h
  | some d => rw [hu] at h; simp only [Sem.run_bind, run_und hu, Result.andThen_ok]; cases d <;> simp_all

theorem run_info {t : TypeId} {i : TypeInfo} (h : P.info? t = some i) : (typeInfo t).run P w = .ok i w := by
  simp [typeInfo, h]

theorem run_sizeOf {t : TypeId} {n : Nat} (h : tySize P t = some n) : (sizeOf t).run P w = .ok n w := by
  unfold tySize at h
  cases hi : P.info? t with
  | none => simp [hi] at h
  | some i => simp [hi] at h; simp [sizeOf, run_info hi, h]

theorem run_zero {t : TypeId} {z : List PV} (h : tyZero P t = some z) : ∃ v, (zeroValue t).run P w = .ok v w ∧ v.cells.toList.mapM ofVal1 = some z := by
  unfold tyZero at h
  cases hi : P.info? t with
  | none => simp [hi] at h
  | some i =>
    cases hz : i.zero with
    | none => simp [hi, hz] at h
    | some v => simp [hi, hz] at h; exact ⟨v, by simp [zeroValue, run_info hi, hz], by simpa using h⟩

theorem run_loadFrom (a : Addr) : ∀ (vs : List Value) (i : Nat) (acc : Array Value), (∀ (j : Nat) v, vs[j]? = some v → w.cell? (a.add (i + j)) = some v) →
    (loadCellsFrom a i vs.length acc).run P w = .ok (acc ++ vs.toArray) w
  | [], i, acc, _ => by simp [loadCellsFrom]
  | v :: vs, i, acc, h => by
    have h0 : w.cell? (a.add i) = some v := by simpa using h 0 v rfl
    have ih := run_loadFrom a vs (i + 1) (acc.push v) (fun j u hj => by
      have := h (j + 1) u (by simpa using hj)
      rwa [show i + (j + 1) = i + 1 + j by omega] at this)
    simp only [List.length_cons, loadCellsFrom, Sem.run_bind, run_load, h0, Result.andThen_ok, ih]
    congr 1
    simp

theorem run_loadCells (a : Addr) (vs : List Value) (n : Nat) (hn : vs.length = n) (h : ∀ (j : Nat) v, vs[j]? = some v → w.cell? (a.add j) = some v) :
    (loadCells a n).run P w = .ok vs.toArray w := by
  subst hn
  have := run_loadFrom (P := P) a vs 0 #[] (by simpa using h)
  simpa [loadCells] using this

theorem run_loadVarAgg {t : TypeId} {n : Nat} (a : Addr) (vs : List Value) (hg : tyAgg P t = some true) (hn : tySize P t = some n) (hl : vs.length = n)
    (h : ∀ (j : Nat) v, vs[j]? = some v → w.cell? (a.add j) = some v) : (loadVar t a).run P w = .ok (.agg vs.toArray) w := by
  simp [loadVar, run_isAgg hg, run_sizeOf hn, run_loadCells a vs n hl h]

theorem run_loadVarOne {t : TypeId} (a : Addr) (v : Value) (hg : tyAgg P t = some false) (h : w.cell? a = some v) : (loadVar t a).run P w = .ok v w := by
  simp [loadVar, run_isAgg hg, h]

/-- What stores into one block make of the world. -/
theorem ask_drawn {α : Type} : ∀ (x : Ask α) (w : World), w.drawn ≤ (w.ask x).2.drawn := by
  intro x
  induction x with
  | done a => intro w; exact Nat.le_refl _
  | ask what range k ih =>
    intro w
    simp only [World.ask]
    split
    · exact ih _ w
    · have h1 := ih ((Question.extern what range).cut (w.tape w.drawn (Question.extern what range))) { w with drawn := w.drawn + 1 }
      exact Nat.le_trans (Nat.le_succ _) h1

theorem sys_drawn (w : World) (c : Sys) : w.drawn ≤ (w.sys c).2.drawn := by
  have h := ask_drawn (Kernel.perform c w.os) w
  unfold World.sys
  split
  · exact Nat.le_refl _
  · rename_i heq; rw [heq] at h; exact h

theorem far_drawn {P : Program} {w w' : World} {A : Addr} {v : Value} {b : Bool} {t : List Addr} (h : w.farStore P A v b = .ok (w', t)) : w'.drawn = w.drawn := by
  unfold World.farStore at h
  split at h
  · split at h
    · rename_i hv
      injection h with h; subst h
      simp only [World.viewStore, bind, Except.bind, pure, Except.pure] at hv
      repeat' split at hv
      all_goals first | cases hv; done | (injection hv with hv; injection hv with h1 h2; rw [← h1]) | skip
    · cases h
  · cases h

/-- Whatever runs, draws only rise. -/
theorem run_drawn {α : Type} {P : Program} {s : Sem α} : ∀ {w w' : World} {x : α}, s.run P w = .ok x w' → w.drawn ≤ w'.drawn := by
  induction s with
  | pure a => intro w w' x h; simp only [Sem.run] at h; injection h with _ h; rw [h]; exact Nat.le_refl _
  | load m A k ih =>
    intro w w' x h
    simp only [Sem.run] at h
    split at h
    · exact ih _ h
    · split at h
      · exact ih _ h
      · cases h
  | store m A v k ih =>
    intro w w' x h
    have ag : ∀ vs, v = .agg vs → False := fun vs hv => by subst hv; simp only [Sem.run] at h; cases h
    have tg : ∀ vs, v = .tuple vs → False := fun vs hv => by subst hv; simp only [Sem.run] at h; cases h
    rw [Sem.run.eq_5 P w m A v k ag tg] at h
    split at h
    · split at h
      · cases h
      · show (w.setCell A v).drawn ≤ _
        exact ih h
    · split at h
      · rename_i hf
        rw [← far_drawn hf]
        exact ih h
      · cases h
  | new o k ih => intro w w' x h; simp only [Sem.run] at h; have h1 := ih _ h; exact h1
  | shape r k ih => intro w w' x h; simp only [Sem.run] at h; exact ih _ h
  | freeze A n k ih =>
    intro w w' x h; simp only [Sem.run] at h
    have : w.drawn = (w.freeze A n).drawn := by unfold World.freeze; split <;> rfl
    rw [this]; exact ih h
  | frozen A k ih => intro w w' x h; simp only [Sem.run] at h; exact ih _ h
  | getObj r k ih =>
    intro w w' x h
    simp only [Sem.run] at h
    split at h
    · cases h
    · exact ih _ h
    · cases h
  | setObj r o k ih =>
    intro w w' x h
    simp only [Sem.run] at h
    split at h
    · cases h
    · have h1 := ih h; exact h1
    · cases h
  | choose q k ih =>
    intro w w' x h
    simp only [Sem.run] at h
    split at h
    · exact ih _ h
    · have h1 := ih _ h; exact Nat.le_trans (Nat.le_succ _) h1
  | sys c k ih => intro w w' x h; simp only [Sem.run] at h; exact Nat.le_trans (sys_drawn w c) (ih _ h)
  | program k ih => intro w w' x h; simp only [Sem.run] at h; exact ih _ h
  | mark m k ih => intro w w' x h; simp only [Sem.run] at h; exact ih h
  | halt hh => intro w w' x h; simp only [Sem.run] at h; cases h

structure Stored (w : World) (b o : Nat) (vs : List Value) (cur : Array Value) (T : TypeId) (w' : World) (cur' : Array Value) : Prop where
  os : w'.os = w.os
  tape : w'.tape = w.tape
  output : w'.output = w.output
  size : w'.heap.size = w.heap.size
  block : w'.heap[b]? = some (.cells cur' T (0, 0))
  csize : cur'.size = cur.size
  cell : ∀ q : Nat, cur'[q]? = if o ≤ q ∧ q < o + vs.length ∧ q < cur.size then vs[q - o]? else cur[q]?
  other : ∀ k, k ≠ b → w'.heap[k]? = w.heap[k]?
  drawn : w.drawn ≤ w'.drawn

theorem run_storeFrom (b : Nat) (T : TypeId) : ∀ (vs : List Value) (w : World) (cur : Array Value) (o i : Nat), w.heap[b]? = some (.cells cur T (0, 0)) → (∀ v ∈ vs, v.oneCell' = true) →
    o + i + vs.length ≤ cur.size → ∃ w' cur', (storeCells ⟨b, o, none⟩ vs i).run P w = .ok () w' ∧ Stored w b (o + i) vs cur T w' cur'
  | [], w, cur, o, i, h, _, _ => ⟨w, cur, by simp [storeCells], rfl, rfl, rfl, rfl, h, rfl, fun q => by rw [if_neg (by simp; omega)], fun _ _ => rfl, Nat.le_refl _⟩
  | v :: vs, w, cur, o, i, h, h1, hl => by
    have hlt : o + i < cur.size := by simp at hl; omega
    have hc : w.cell? ⟨b, o + i, none⟩ = some cur[o + i] := by rw [cell_of h]; simp [hlt]
    have hf := frozen_of (o := o + i) h
    have hblk : (w.setCell ⟨b, o + i, none⟩ v).heap[b]? = some (.cells (cur.setIfInBounds (o + i) v) T (0, 0)) := by
      simp [World.setCell, Array.getElem?_modify, h]
    obtain ⟨w', cur', hr, hs⟩ := run_storeFrom b T vs (w.setCell ⟨b, o + i, none⟩ v) (cur.setIfInBounds (o + i) v) o (i + 1) hblk (fun u hu => h1 u (by simp [hu])) (by simp at hl ⊢; omega)
    refine ⟨w', cur', ?_, hs.os, hs.tape, hs.output, by simp [hs.size], hs.block, by simp [hs.csize], fun q => ?_, fun k hk => ?_, hs.drawn⟩
    · simp only [storeCells, Sem.run_bind, add_mk]
      rw [run_store P w _ v .plain (h1 v (by simp))]
      simp only [hc, hf, Bool.false_eq_true, if_false, Result.andThen_ok, hr]
    · rw [hs.cell q]
      by_cases hq : q = o + i
      · subst hq
        rw [if_neg (by omega), if_pos (by simp; omega)]
        simp [hlt]
      · by_cases hq2 : o + (i + 1) ≤ q ∧ q < o + (i + 1) + vs.length ∧ q < cur.size
        · rw [if_pos (by simpa using hq2), if_pos (by simp; omega)]
          rw [show q - (o + i) = (q - (o + (i + 1))) + 1 by omega]
          simp
        · rw [if_neg (by simpa using hq2), if_neg (by simp; omega), Array.getElem?_setIfInBounds_ne (by omega)]
    · rw [hs.other k hk]
      exact Below.heap_setCell _ _ _ _ hk

theorem run_storeVar {t : TypeId} {n : Nat} (b o : Nat) (T : TypeId) (w : World) (cur : Array Value) (v : Value) (hn : tySize P t = some n) (hv : v.cells.size = n)
    (h : w.heap[b]? = some (.cells cur T (0, 0))) (h1 : ∀ u ∈ v.cells.toList, u.oneCell' = true) (hl : o + n ≤ cur.size) :
    ∃ w' cur', (storeVar t ⟨b, o, none⟩ v).run P w = .ok () w' ∧ Stored w b o v.cells.toList cur T w' cur' := by
  obtain ⟨w', cur', hr, hs⟩ := run_storeFrom (P := P) b T v.cells.toList w cur o 0 h h1 (by simp; omega)
  refine ⟨w', cur', ?_, by simpa using hs⟩
  simp [storeVar, run_sizeOf hn, hv, hr]

end base

section ev
variable {F : Fr} {β : Ids} {ok : Nat → Prop} {e : Nat → Option PV} {m : Mem} {a : Act} {w : World}

theorem Rep.one_of {p : PV} {v : Value} (h : Rep w ok β p v) (h1 : p.one = true) : v.oneCell' = true := by
  cases h <;> simp_all [PV.one, Value.oneCell']

theorem ofVal1_rep {v : Value} {p : PV} (h : ofVal1 v = some p) : Rep w ok β p v ∧ p.one = true := by
  unfold ofVal1 at h
  split at h <;> simp at h <;> subst h
  · exact ⟨.bool _, rfl⟩
  · exact ⟨.int _ _, rfl⟩
  · exact ⟨by simpa using Rep.str (w := w) (ok := ok) (β := β) (ByteArray.data _).toList, rfl⟩
  · exact ⟨.nilp, rfl⟩
  · exact ⟨.nsl, rfl⟩
  · exact ⟨.nilm, rfl⟩
  · exact ⟨.nilf, rfl⟩

theorem mapM_some {α γ : Type} {f : α → Option γ} : ∀ {l : List α} {r : List γ}, l.mapM f = some r → r.length = l.length ∧ ∀ (j : Nat) x y, l[j]? = some x → r[j]? = some y → f x = some y
  | [], r, h => by simp at h; subst h; simp
  | x :: l, r, h => by
    simp only [List.mapM_cons, Option.bind_eq_bind, Option.bind_eq_some_iff] at h
    obtain ⟨y, hy, ys, hys, hr⟩ := h
    simp at hr
    subst hr
    obtain ⟨hl, hj⟩ := mapM_some hys
    refine ⟨by simp [hl], fun j u v hu hv => ?_⟩
    cases j with
    | zero => simp at hu hv; subst hu; subst hv; exact hy
    | succ j => exact hj j u v (by simpa using hu) (by simpa using hv)

theorem ofVals_rep {vs : List Value} {ps : List PV} (h : vs.mapM ofVal1 = some ps) : vs.length = ps.length ∧ (∀ c ∈ ps, c.one = true) ∧
    ∀ (j : Nat) c v, ps[j]? = some c → vs[j]? = some v → Rep w ok β c v := by
  obtain ⟨hl, hj⟩ := mapM_some h
  refine ⟨hl.symm, fun c hc => ?_, fun j c v hc hv => (ofVal1_rep (hj j v c hv hc)).1⟩
  obtain ⟨j, hjl, rfl⟩ := List.getElem_of_mem hc
  have hv : vs[j]? = some (vs[j]'(by omega)) := by simp
  exact (ofVal1_rep (w := w) (ok := ok) (β := β) (hj j _ _ hv (by simp [hjl]))).2

theorem ofVal_rep {v : Value} {p : PV} (h : ofVal v = some p) : Rep w ok β p v := by
  unfold ofVal at h
  split at h
  · rename_i cs
    simp only [Option.map_eq_some_iff] at h
    obtain ⟨ps, hps, rfl⟩ := h
    obtain ⟨h1, h2, h3⟩ := ofVals_rep (w := w) (ok := ok) (β := β) hps
    have := Rep.agg (w := w) (ok := ok) (β := β) ps cs.toList h1 h2 h3
    simpa using this
  · exact (ofVal1_rep h).1

theorem ev_rep (hs : Sat0 F β ok e m a w) {X : Operand} {x : XA} {p : PV} (hx : cA X = some x) (hp : x.ev e = some p) : Rep w ok β p (a.eval X) := by
  cases X with
  | tmp t =>
    simp [cA] at hx; subst hx
    obtain ⟨v, hv, hr⟩ := hs.env t p hp
    simpa [Act.eval, hv] using hr
  | const v =>
    simp [cA] at hx
    obtain ⟨q, hq, rfl⟩ := hx
    simp [XA.ev] at hp; subst hp
    exact ofVal_rep hq
  | func f =>
    simp [cA] at hx; subst hx
    simp [XA.ev] at hp; subst hp
    exact Rep.fn f [] [] rfl (by simp)
  | global g => simp [cA] at hx

theorem evs_rep (hs : Sat0 F β ok e m a w) {X : List Operand} {xs : List XA} {ps : List PV} (hx : X.mapM cA = some xs) (hp : xs.mapM (fun x => x.ev e) = some ps) :
    (X.map a.eval).length = ps.length ∧ ∀ (j : Nat) c v, ps[j]? = some c → (X.map a.eval)[j]? = some v → Rep w ok β c v := by
  obtain ⟨h1, h2⟩ := mapM_some hx
  obtain ⟨h3, h4⟩ := mapM_some hp
  refine ⟨by simp [h3, h1], fun j c v hc hv => ?_⟩
  simp only [List.getElem?_map, Option.map_eq_some_iff] at hv
  obtain ⟨Y, hY, rfl⟩ := hv
  have hjx : j < xs.length := by rw [h1]; exact (List.getElem?_eq_some_iff.1 hY).1
  exact ev_rep hs (h2 j Y xs[j] hY (by simp [hjx])) (h4 j xs[j] c (by simp [hjx]) hc)

end ev
end Go.Vx
