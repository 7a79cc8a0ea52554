/- The engine, part 13c: arrays' elements; slices with a bound on their room. -/
import Derived.Test.YtgkkffhoflgpoaaVmb
set_option linter.unusedVariables false
set_option linter.unusedSimpArgs false
namespace Go.Vx
open Go Go.RowKit

section
variable {P : Program} {F : Fr} {β : Ids} {ok : Nat → Prop} {e : Nat → Option PV} {m : Mem} {a : Act} {w : World} {b : Nat} {o : Oper} {p : PV} {d : Delta}

theorem op_indexV (hs : Sat0 F β ok e m a w) {X I : Operand} {x i : XA} {t el : TypeId} {k len : Nat} {gg : Bool} (ho : o.op = .index t X I) (hu : P.underlying t = some (.array len el)) (hk : tySize P el = some k) (hg : tyAgg P el = some gg)
    (hx : cA X = some x) (hi : cA I = some i) (h : vopF (.indexV k len (!gg) x i) e m b = some (p, d)) : OpOk P F β ok e m a w b o p d := by
  simp only [vopF, Option.bind_eq_some_iff] at h
  obtain ⟨q, hq, r, hr, j, hj, h⟩ := h
  have h1 := ev_rep hs hx hq
  have h2 := ev_rep hs hi hr
  obtain ⟨K, hK⟩ := idx_rep hj h2
  generalize hv : a.eval X = vx at h1
  split at h
  case h_2 => cases h
  rename_i cs
  split at h
  case isFalse => cases h
  rename_i hc
  obtain ⟨hjl, hle⟩ := hc
  cases h1 with
  | agg _ vs hl h11 hr1 =>
    have hrun : ∀ u, (part el vs.toArray (j * k)).run P w = .ok u w → (execOp a.eval o).run P w = .ok (.value u) w := fun u hu' => by
      simp only [execOp, ho]
      refine exec_value ?_
      have hjl' : 0 ≤ (j : Int) ∧ (j : Int) < (len : Int) := by omega
      simp only [Instr.index, hK, hv, asIntOf, Sem.run_bind, Sem.run_pure, run_und hu, Result.andThen_ok, if_pos hjl', run_sizeOf hk, Int.toNat_natCast, hu']
    cases gg with
    | true =>
      simp only [Bool.not_true, Bool.false_eq_true, if_false, Option.some.injEq, Prod.mk.injEq] at h
      obtain ⟨rfl, rfl⟩ := h
      refine .value hs (hrun _ (part_agg hg hk)) ?_
      have hex : (vs.toArray.extract (j * k) (j * k + k)) = ((vs.drop (j * k)).take k).toArray := by
        apply Array.ext'
        simp [List.take_drop]
      rw [hex]
      refine .agg _ _ (by simp [hl]) (fun c hc => h11 c (List.mem_of_mem_drop (List.mem_of_mem_take hc))) fun q c v hc hv' => ?_
      have hq : q < k := by have := (List.getElem?_eq_some_iff.1 hc).1; simp at this; omega
      rw [List.getElem?_take_of_lt hq, List.getElem?_drop] at hc hv'
      exact hr1 _ c v hc hv'
    | false =>
      simp only [Bool.not_false, if_true, Option.bind_eq_some_iff] at h
      obtain ⟨c, hc, h⟩ := h
      simp only [Option.some.injEq, Prod.mk.injEq] at h
      obtain ⟨rfl, rfl⟩ := h
      have hc2 : (cs.drop (j * k)).take k = [c] := by
        unfold head1 at hc
        split at hc
        · rename_i heq; injection hc with hc; rw [heq, hc]
        · cases hc
      have hc3 : cs[j * k]? = some c := by
        have h0 : ((cs.drop (j * k)).take k)[0]? = some c := by rw [hc2]; rfl
        have hk0 : 0 < k := by
          rcases Nat.eq_zero_or_pos k with h | h
          · rw [h] at hc2; simp at hc2
          · exact h
        rw [List.getElem?_take_of_lt hk0, List.getElem?_drop] at h0
        simpa using h0
      have hlt : j * k < vs.length := by rw [hl]; exact (List.getElem?_eq_some_iff.1 hc3).1
      refine .value hs (hrun vs[j * k] (part_one hg (by simp [hlt]))) (hr1 _ c _ hc3 (by simp [hlt]))

theorem isZ_eval {X : Operand} (h : isZ X = true) : ∃ K, a.eval X = .int K 0 := by
  unfold isZ at h
  split at h
  · rename_i K; exact ⟨K, rfl⟩
  · cases h

theorem op_slice0 (hs : Sat0 F β ok e m a w) (hb : β b = none) {t el : TypeId} {k : Nat} {X H M : Operand} {x : XA} (ho : o.op = .slice t X none (some H) (some M)) (hu : P.underlying t = some (.slice el)) (hk : tySize P el = some k)
    (hH : isZ H = true) (hM : isZ M = true) (hx : cA X = some x) (h : vopF (.slice0 el k x) e m b = some (p, d)) : OpOk P F β ok e m a w b o p d := by
  simp only [vopF, Option.bind_eq_some_iff] at h
  obtain ⟨q, hq, h⟩ := h
  have h1 := ev_rep hs hx hq
  generalize hv : a.eval X = vx at h1
  obtain ⟨K1, hK1⟩ := isZ_eval (a := a) hH
  obtain ⟨K2, hK2⟩ := isZ_eval (a := a) hM
  have hform : ∃ A n c, vx = .slice A n c := by
    cases q <;> simp only [reduceCtorEq] at h <;> cases h1 <;> exact ⟨_, _, _, rfl⟩
  obtain ⟨A, n, c, rfl⟩ := hform
  have hpd : p = .osl b 0 ∧ d = [(b, some (.row k [] el false))] := by
    cases q <;> simp only [reduceCtorEq, Option.some.injEq, Prod.mk.injEq] at h <;> exact ⟨h.1.symm, h.2.symm⟩
  obtain ⟨rfl, rfl⟩ := hpd
  have hbm := beta_upd (l := .nil) hb
  refine ⟨.slice A 0 0, w, upd β b (some .nil), .inl ?_, .osl0 b A (by simp [upd]), ?_, fun id h => by simp [upd, h]⟩
  · simp only [execOp, ho]
    refine exec_value ?_
    cases A <;> simp [Instr.sliceAt, Instr.slice, run_und hu, hv, hK1, hK2, Instr.sliceBounds, Instr.sliceBound, asIntOf, run_sizeOf hk]
  · refine hs.step (fun _ => False) (fun _ _ _ => rfl) (fun _ _ h => h.elim) rfl rfl rfl (Nat.le_refl _) (Nat.le_refl _) hbm ⟨?_, ?_⟩ ?_
    · intro id o' hid
      simp only [Mem.upds, List.foldl_cons, List.foldl_nil, upd] at hid
      by_cases he : id = b
      · subst he
        simp at hid; subst hid
        exact ⟨.nil, by simp [upd], rfl⟩
      · simp [he] at hid
        obtain ⟨l, hl, hr⟩ := hs.mem.objs id o' hid
        exact ⟨l, hbm _ _ hl, hr.mono (fun _ _ => rfl) (fun _ h => h) hbm (fun _ _ _ => ⟨rfl, fun h => h⟩)⟩
    · intro i1 i2 o1 o2 bb c1 c2 h1 h2 h3 h4 f1 f2
      simp only [Mem.upds, List.foldl_cons, List.foldl_nil, upd] at h1 h2 h3 h4
      by_cases e1 : i1 = b
      · simp [e1] at h3
      · by_cases e2 : i2 = b
        · simp [e2] at h4
        · simp [e1] at h1 h3
          simp [e2] at h2 h4
          exact hs.mem.disj i1 i2 o1 o2 bb c1 c2 h1 h2 h3 h4 f1 f2
    · rintro bb ⟨id, o', c, hid, hf, hbe⟩
      simp only [Mem.upds, List.foldl_cons, List.foldl_nil, upd] at hid hbe
      by_cases he : id = b
      · simp [he] at hbe
      · simp [he] at hid hbe
        exact .inl ⟨id, o', c, hid, hf, hbe⟩

end
end Go.Vx
