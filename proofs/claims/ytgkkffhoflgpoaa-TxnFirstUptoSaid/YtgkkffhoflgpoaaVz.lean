/- The engine, part 26: a law's row. -/
import Derived.Test.YtgkkffhoflgpoaaVy
import Derived.ProofKit
set_option linter.unusedVariables false
set_option linter.unusedSimpArgs false
namespace Go.Vx
open Go Go.RowKit Go.ChangeShapes Go.WideShapes

/-- What an argument is. -/
def Fits (N : Nat) (c : List CT) (g : Bool) (q : PV) : Prop :=
  if g then ∃ qs, q = .agg qs ∧ qs.length = c.length ∧ ∀ (j : Nat) ct p, c[j]? = some ct → qs[j]? = some p → HasCT N ct p else ∃ ct, c = [ct] ∧ HasCT N ct q

theorem arg_repN {H : Type} {enc : TypeId × Value → H} {P : Program} {W : World} {sp : Nat → Bool} {held : Bool} {r : Reach} {b : Nat} {t : TypeId} {v : Value} {d : DataW H} {ps : List MemPlace} (m : Nat) {c : List CT} {g : Bool} {N : Nat} {sm : DataW H → Prop} (hsm : Small sm N) (hd : sm d)
    (hc : cellsTy P m t = some c) (hg : tyAgg P t = some g) (hok : Value.okWide P W r b t v) (h : DataW.Trod enc P W 0 sp held t v d ps) : ∃ q, Fits N c g q ∧ Rep W (fun b => b < W.heap.size) noIds q v := by
  obtain ⟨fuel, hf⟩ := h
  obtain ⟨hh, hcl⟩ := trod_held hsm fuel t _ d ps m c hf hd hc
  unfold tyAgg at hg
  unfold Value.okWide at hok
  cases hu : P.underlying t with
  | none => rw [hu] at hg; cases hg
  | some ty =>
  rw [hu] at hg hok
  have plain : g = false → Cell.okWide P W r b t v → (∀ cs, v ≠ .agg cs) → c.length = 1 → ∃ q, Fits N c g q ∧ Rep W (fun b => b < W.heap.size) noIds q v := by
    rintro rfl _ hna hc1
    have hv : v.cells.toList = [v] := by cases v <;> first | rfl | exact absurd rfl (hna _)
    rw [hv] at hh
    match c, hc1 with
    | [ct], _ =>
      obtain ⟨q, h1, h2⟩ := hh.2 0 v ct rfl rfl
      exact ⟨q, ⟨ct, rfl, h1⟩, h2⟩
  have agg : g = true → (∃ cs, v = .agg cs) → ∃ q, Fits N c g q ∧ Rep W (fun b => b < W.heap.size) noIds q v := by
    rintro rfl ⟨cs, rfl⟩
    obtain ⟨qs, h1, h2, h3⟩ := held_list hh
    refine ⟨.agg qs, ⟨qs, rfl, h1, h2⟩, ?_⟩
    have hl : cs.toList.length = qs.length := by rw [h1]; exact hh.1
    have := Rep.agg (w := W) (ok := fun b => b < W.heap.size) (β := noIds) qs cs.toList hl (fun q hq => by
      obtain ⟨j, hj⟩ := List.getElem?_of_mem hq
      have hjl : j < c.length := by rw [← h1]; exact (List.getElem?_eq_some_iff.1 hj).1
      exact (h2 j c[j] q (by simp [hjl]) hj).one) h3
    simpa using this
  cases m with
  | zero => simp [cellsTy] at hc
  | succ m =>
  simp only [cellsTy, Option.bind_eq_some_iff] at hc
  obtain ⟨c', hc', hcc⟩ := hc
  split at hcc
  case isFalse => cases hcc
  injection hcc with hcc; subst hcc
  rw [hu] at hc'
  cases ty with
  | struct fs => exact agg (by simpa using hg.symm) (by obtain ⟨cs, h, _⟩ := hok; exact ⟨cs, h⟩)
  | array n e => exact agg (by simpa using hg.symm) (by obtain ⟨cs, h, _⟩ := hok; exact ⟨cs, h⟩)
  | bool =>
    simp at hc'
    exact plain (by simpa using hg.symm) hok (fun cs hv => by subst hv; simp [Cell.okWide, hu, Cell.ok] at hok) (by rw [← hc']; rfl)
  | int k =>
    simp at hc'
    exact plain (by simpa using hg.symm) hok (fun cs hv => by subst hv; simp [Cell.okWide, hu, Cell.ok] at hok) (by rw [← hc']; rfl)
  | string =>
    simp at hc'
    exact plain (by simpa using hg.symm) hok (fun cs hv => by subst hv; simp [Cell.okWide, hu, Cell.ok] at hok) (by rw [← hc']; rfl)
  | slice e =>
    simp only [Option.bind_eq_some_iff] at hc'
    obtain ⟨c1, _, hc'⟩ := hc'
    split at hc'
    case isFalse => cases hc'
    injection hc' with hc'
    exact plain (by simpa using hg.symm) hok (fun cs hv => by subst hv; simp [Cell.okWide, hu, Cell.ok] at hok) (by rw [← hc']; rfl)
  | _ => simp at hc'

theorem arg_rep {H : Type} {enc : TypeId × Value → H} {P : Program} {W : World} {sp : Nat → Bool} {held : Bool} {r : Reach} {b : Nat} {t : TypeId} {v : Value} {d : DataW H} {ps : List MemPlace} (m : Nat) {c : List CT} {g : Bool}
    (hc : cellsTy P m t = some c) (hg : tyAgg P t = some g) (hok : Value.okWide P W r b t v) (h : DataW.Trod enc P W 0 sp held t v d ps) : ∃ q, Fits maxLen c g q ∧ Rep W (fun b => b < W.heap.size) noIds q v :=
  arg_repN m Small.any trivial hc hg hok h

theorem law_calls {P : Program} {f : Nat} {W : World} {vs : List Value} {qs : List PV} (hV : V P f qs mt 0 (.bool true) mt) (hr : Reps W (fun b => b < W.heap.size) noIds qs vs) :
    Calls P f vs.toArray W fun e W' => e = .returned (.bool true) ∧ Below W.heap.size W W' := by
  refine (hV.2 W noIds _ vs ⟨by simp [mt], by simp [mt]⟩ (by simp [noIds]) (fun k hk => hk) hr).mono (β' := noIds) (fun _ _ h => h) ?_
  rintro e W' ⟨v, _, _, β', ok', rfl, ⟨rfl, rfl⟩, hrep, _, hk, _⟩
  cases hrep
  refine ⟨rfl, ?_⟩
  have hno : ∀ b, ¬ Owns noIds mt b := fun b => by rintro ⟨id, o, cap, h, _⟩; cases h
  exact ⟨hk.os, hk.tape, hk.output, hk.size, fun i hi => hk.block i hi (hno i)⟩

end Go.Vx
