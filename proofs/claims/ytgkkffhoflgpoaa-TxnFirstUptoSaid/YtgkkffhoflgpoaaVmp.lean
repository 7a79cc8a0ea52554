/- The engine, part 25: maps as lists of keys and values. -/
import Derived.Test.YtgkkffhoflgpoaaVx
set_option linter.unusedVariables false
set_option linter.unusedSectionVars false
set_option linter.unusedSimpArgs false
namespace Go.Vx
open Go

section
variable {κ α : Type} [DecidableEq κ] {g : Bool} {ks : List PV} {ek : κ → PV} {ev : α → PV}

/-- Keys, as they are held against each other. -/
def MK (g : Bool) (ks : List PV) (ek : κ → PV) : Prop := ∀ a b, keq g ks (ek a) (ek b) = some (decide (a = b))
theorem MK.str : MK false [.str []] PV.str := fun a b => by simp [keq, eq1]
theorem MK.int (k : IntKind) : MK false [.int k 0] (fun z => PV.int k z) := fun a b => by simp [keq, eq1]

def mapE (ek : κ → PV) (ev : α → PV) (l : List (κ × α)) : List (PV × PV) := l.map fun x => (ek x.1, ev x.2)
def sfind (k : κ) : List (κ × α) → Nat → Option (Nat × α)
  | [], _ => none
  | x :: r, i => if k = x.1 then some (i, x.2) else sfind k r (i + 1)
def sval (l : List (κ × α)) (k : κ) : Option α := (sfind k l 0).map (·.2)
def sput (l : List (κ × α)) (k : κ) (v : α) : List (κ × α) :=
  match sfind k l 0 with
  | some y => l.set y.1 (k, v)
  | none => l ++ [(k, v)]

theorem mapE_len {l : List (κ × α)} : (mapE ek ev l).length = l.length := by simp [mapE]
theorem mapE_get {l : List (κ × α)} {i : Nat} : (mapE ek ev l)[i]? = (l[i]?).map fun x => (ek x.1, ev x.2) := by simp [mapE]
theorem mfind_map (hk : MK g ks ek) (k : κ) : ∀ (l : List (κ × α)) (i : Nat), mfind g ks (ek k) (mapE ek ev l) i = some ((sfind k l i).map fun y => (y.1, ev y.2))
  | [], _ => rfl
  | x :: l, i => by
    have ih := mfind_map hk k l (i + 1)
    simp only [mapE, List.map_cons, mfind, sfind, hk k x.1, Option.bind_some]
    by_cases h : k = x.1
    · simp [h]
    · simp only [h, decide_false, Bool.false_eq_true, if_false]; exact ih
theorem mget_map (hk : MK g ks ek) (k : κ) (l : List (κ × α)) : mget g ks (ek k) (mapE ek ev l) = some ((sfind k l 0).map fun y => (y.1, ev y.2)) := by
  simp only [mget, hk k k, decide_true, if_true]
  exact mfind_map hk k l 0
theorem mput_map (k : κ) (v : α) (l : List (κ × α)) : mput (mapE ek ev l) (ek k) (ev v) ((sfind k l 0).map fun y => (y.1, ev y.2)) = mapE ek ev (sput l k v) := by
  unfold sput
  cases sfind k l 0 with
  | none => simp [mput, mapE]
  | some y => simp [mput, mapE, List.map_set]
theorem sfind_some {k : κ} : ∀ {l : List (κ × α)} {i j : Nat} {v : α}, sfind k l i = some (j, v) → ∃ q, j = i + q ∧ l[q]? = some (k, v) ∧ ∀ p, p < q → ∀ x, l[p]? = some x → x.1 ≠ k
  | [], _, _, _, h => by simp [sfind] at h
  | x :: l, i, j, v, h => by
    simp only [sfind] at h
    split at h
    · rename_i hx
      simp only [Option.some.injEq, Prod.mk.injEq] at h
      obtain ⟨rfl, rfl⟩ := h
      exact ⟨0, by omega, by simp [hx], fun p hp => by omega⟩
    · rename_i hx
      obtain ⟨q, h1, h2, h3⟩ := sfind_some (l := l) h
      refine ⟨q + 1, by omega, by simpa using h2, fun p hp y hy => ?_⟩
      cases p with
      | zero => simp at hy; subst hy; exact fun h => hx h.symm
      | succ p => exact h3 p (by omega) y (by simpa using hy)
theorem sfind_none {k : κ} : ∀ {l : List (κ × α)} {i : Nat}, sfind k l i = none ↔ ∀ x ∈ l, x.1 ≠ k
  | [], _ => by simp [sfind]
  | x :: l, i => by
    simp only [sfind]
    by_cases hx : k = x.1
    · simp [hx]
    · simp only [hx, if_false, sfind_none (l := l) (i := i + 1), List.mem_cons, forall_eq_or_imp]
      exact ⟨fun h => ⟨fun h2 => hx h2.symm, h⟩, fun h => h.2⟩
theorem sfind_snd {k : κ} : ∀ {l : List (κ × α)} {i j : Nat}, (sfind k l i).map (·.2) = (sfind k l j).map (·.2)
  | [], _, _ => rfl
  | x :: l, i, j => by
    simp only [sfind]
    split
    · rfl
    · exact sfind_snd
theorem sval_cons {x : κ × α} {l : List (κ × α)} {k : κ} : sval (x :: l) k = if k = x.1 then some x.2 else sval l k := by
  unfold sval
  simp only [sfind]
  split
  · rfl
  · exact sfind_snd
theorem sval_nil {k : κ} : sval ([] : List (κ × α)) k = none := rfl
theorem sval_none {l : List (κ × α)} {k : κ} : sval l k = none ↔ ∀ x ∈ l, x.1 ≠ k := by
  unfold sval
  rw [Option.map_eq_none_iff, sfind_none]
theorem sval_append {l : List (κ × α)} {k k' : κ} {v : α} : sval (l ++ [(k, v)]) k' = match sval l k' with | some a => some a | none => if k' = k then some v else none := by
  induction l with
  | nil => simp [sval_cons, sval_nil]
  | cons x l ih =>
    rw [List.cons_append, sval_cons, sval_cons]
    split
    · rfl
    · exact ih
theorem sval_set : ∀ {l : List (κ × α)} {q : Nat} {k k' : κ} {v a : α}, l[q]? = some (k, a) → (∀ p, p < q → ∀ x, l[p]? = some x → x.1 ≠ k) → sval (l.set q (k, v)) k' = if k' = k then some v else sval l k'
  | [], _, _, _, _, _, h, _ => by simp at h
  | x :: l, 0, k, k', v, a, h, _ => by
    simp only [List.getElem?_cons_zero, Option.some.injEq] at h
    subst h
    simp only [List.set_cons_zero, sval_cons]
    split <;> rfl
  | x :: l, q + 1, k, k', v, a, h, hp => by
    have hx := hp 0 (by omega) x rfl
    simp only [List.set_cons_succ, sval_cons]
    have ih := sval_set (l := l) (q := q) (k := k) (k' := k') (v := v) (a := a) (by simpa using h) fun p hpq y hy => hp (p + 1) (by omega) y (by simpa using hy)
    by_cases h1 : k' = x.1
    · have : k' ≠ k := fun h2 => hx (by rw [← h1, h2])
      rw [if_pos h1, if_neg this, if_pos h1]
    · rw [if_neg h1, ih, if_neg h1]
theorem sval_put {l : List (κ × α)} {k k' : κ} {v : α} : sval (sput l k v) k' = if k' = k then some v else sval l k' := by
  unfold sput
  cases h : sfind k l 0 with
  | none =>
    have hn := (sval_none (l := l) (k := k)).2 (sfind_none.1 h)
    simp only [sval_append]
    by_cases hk : k' = k
    · subst hk; simp [hn]
    · simp only [hk, if_false]; cases sval l k' <;> rfl
  | some y =>
    obtain ⟨q, h1, h2, h3⟩ := sfind_some (v := y.2) (j := y.1) h
    have hq : y.1 = q := by omega
    simp only [hq]
    exact sval_set h2 h3
theorem sput_keys {l : List (κ × α)} {k : κ} {v : α} : (sput l k v).map (·.1) = if k ∈ l.map (·.1) then l.map (·.1) else l.map (·.1) ++ [k] := by
  unfold sput
  cases h : sfind k l 0 with
  | none =>
    have hn : k ∉ l.map (·.1) := fun hm => by
      obtain ⟨x, hx, hk⟩ := List.mem_map.1 hm
      exact sfind_none.1 h x hx hk
    rw [if_neg hn]; simp
  | some y =>
    obtain ⟨q, h1, h2, h3⟩ := sfind_some (v := y.2) (j := y.1) h
    have hq : y.1 = q := by omega
    have hm : k ∈ l.map (·.1) := List.mem_map.2 ⟨_, List.mem_of_getElem? h2, rfl⟩
    rw [if_pos hm]
    simp only [hq, List.map_set]
    refine List.ext_getElem? fun j => ?_
    rw [List.getElem?_set]
    by_cases hj : q = j
    · subst hj
      obtain ⟨hlt, he⟩ := List.getElem?_eq_some_iff.1 h2
      simp [he, hlt]
    · simp [hj]
/-- What a map says of a key. -/
theorem look_map (hk : MK g ks ek) (k : κ) (l : List (κ × α)) : ∃ r, mget g ks (ek k) (mapE ek ev l) = some r ∧ (∀ z, mval z r = match sval l k with | some v => ev v | none => z) ∧ r.isSome = (sval l k).isSome ∧ ∀ v, mput (mapE ek ev l) (ek k) (ev v) r = mapE ek ev (sput l k v) := by
  refine ⟨_, mget_map hk k l, fun z => ?_, ?_, fun v => mput_map k v l⟩
  · unfold sval; cases sfind k l 0 <;> rfl
  · unfold sval; cases sfind k l 0 <;> rfl

end
end Go.Vx
