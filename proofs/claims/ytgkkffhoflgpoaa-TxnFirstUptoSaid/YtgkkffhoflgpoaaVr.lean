/- The engine, part 18: regions whose order is open: the proof. -/
import Derived.Test.YtgkkffhoflgpoaaVq
set_option linter.unusedVariables false
set_option linter.unusedSimpArgs false
namespace Go.Vx
open Go Go.RowKit

section
variable {P : Program} {base : Nat} {ops : Array Oper} {xs : List XOp} {es : Nat → Env} {ms : Nat → Mem} {pv : Nat → PV} {D : Nat → Nat → Prop} {f : Nat → Mem}

def dstOf (xs : List XOp) (j : Nat) : Option Nat := (xs[j]?).bind (·.dst)

def envL (xs : List XOp) (e0 : Env) (pv : Nat → PV) (L : Nat → Bool) : Nat → Env
  | 0 => e0
  | k + 1 => if L k then putE (envL xs e0 pv L k) (dstOf xs k) (pv k) else envL xs e0 pv L k
noncomputable def memL (m0 : Mem) (D : Nat → Nat → Prop) (f : Nat → Mem) (L : Nat → Bool) : Nat → Mem
  | 0 => m0
  | k + 1 => if L k then ov (D k) (f k) (memL m0 D f L k) else memL m0 D f L k

theorem putE_none {e : Env} {dst : Option Nat} {p : PV} {t : Nat} (h : dst ≠ some t) : putE e dst p t = e t := by
  cases dst with
  | none => rfl
  | some d => exact upd_other _ _ (fun he => h (by rw [he]))

theorem envL_no {e0 : Env} {L : Nat → Bool} {t : Nat} : ∀ (k : Nat), (∀ j, j < k → L j = true → dstOf xs j ≠ some t) → envL xs e0 pv L k t = e0 t
  | 0, _ => rfl
  | k + 1, h => by
    simp only [envL]
    split
    · rename_i hl
      rw [putE_none (h k (by omega) hl)]
      exact envL_no k fun j hj => h j (by omega)
    · exact envL_no k fun j hj => h j (by omega)

theorem envL_yes (hd : ∀ i j t, dstOf xs i = some t → dstOf xs j = some t → i = j) {e0 : Env} {L : Nat → Bool} {t j : Nat} (hL : L j = true) (hj : dstOf xs j = some t) : ∀ (k : Nat), j < k → envL xs e0 pv L k t = some (pv j)
  | 0, h => by omega
  | k + 1, h => by
    simp only [envL]
    by_cases he : j = k
    · subst he
      rw [if_pos hL, hj]
      exact upd_same _ _ _
    · split
      · rw [putE_none fun h2 => he (hd _ _ _ hj h2)]
        exact envL_yes hd hL hj k (by omega)
      · exact envL_yes hd hL hj k (by omega)

theorem es_eq (ht : Tr P base 0 xs es ms pv D f) : ∀ (k : Nat), k ≤ xs.length → es k = envL xs (es 0) pv (fun _ => true) k
  | 0, _ => rfl
  | k + 1, h => by
    have hk : xs[k]? = some xs[k] := by simp
    rw [ht.env k _ hk, es_eq ht k (by omega)]
    simp only [envL, if_true]
    congr 1
    simp [dstOf, hk]
theorem ms_eq (ht : Tr P base 0 xs es ms pv D f) : ∀ (k : Nat), k ≤ xs.length → ms k = memL (ms 0) D f (fun _ => true) k
  | 0, _ => rfl
  | k + 1, h => by
    have hk : xs[k]? = some xs[k] := by simp
    rw [ht.mem k _ hk, ms_eq ht k (by omega)]
    simp only [memL, if_true]

theorem dst_uniq (hO : OrdOk ops xs) : ∀ i j t, dstOf xs i = some t → dstOf xs j = some t → i = j := by
  intro i j t h1 h2
  simp only [dstOf, Option.bind_eq_some_iff] at h1 h2
  obtain ⟨X, hX, h1⟩ := h1
  obtain ⟨Y, hY, h2⟩ := h2
  rcases Nat.decEq i j with h | h
  · exact absurd h1 (hO.dst i j X Y t hX hY h h2)
  · exact h

theorem anc_lt (hO : OrdOk ops xs) : ∀ (i : Nat) X, xs[i]? = some X → ∀ j, InA j X.anc → j < i := by
  intro i
  induction i using Nat.strongRecOn with
  | _ i ih =>
    intro X hX j hj
    obtain ⟨o, ed, ho, hed, hb, h⟩ := hO.anc i X hX j hj
    have hlt := hO.back i o ho ed hed hb
    rcases h with h | ⟨Y, hY, hjY⟩
    · omega
    · have := ih ed.on hlt Y hY j hjY; omega

def Closed (ops : Array Oper) (L : Nat → Bool) : Prop := ∀ i o, ops[i]? = some o → L i = true → ∀ ed ∈ o.after.toList, Region.binds .any ed = true → L ed.on = true

theorem anc_in (hO : OrdOk ops xs) {L : Nat → Bool} (hc : Closed ops L) : ∀ (i : Nat) X o, xs[i]? = some X → ops[i]? = some o → (∀ ed ∈ o.after.toList, Region.binds .any ed = true → L ed.on = true) → ∀ j, InA j X.anc → L j = true := by
  intro i
  induction i using Nat.strongRecOn with
  | _ i ih =>
    intro X o hX ho hr j hj
    obtain ⟨o', ed, ho', hed, hb, h⟩ := hO.anc i X hX j hj
    rw [ho] at ho'; injection ho' with ho'; subst ho'
    have hlt := hO.back i o ho ed hed hb
    rcases h with h | ⟨Y, hY, hjY⟩
    · exact h ▸ hr ed hed hb
    · have hlo : ed.on < ops.size := by
        have : i < ops.size := by
          rcases Nat.lt_or_ge i ops.size with h | h
          · exact h
          · simp [Array.getElem?_eq_none h] at ho
        omega
      exact ih ed.on hlt Y ops[ed.on] hY (by simp [hlo]) (hc ed.on _ (by simp [hlo]) (hr ed hed hb)) j hjY

/-- What an operation sees of its operands, in whatever order. -/
theorem env_agree (hO : OrdOk ops xs) (ht : Tr P base 0 xs es ms pv D f) {L : Nat → Bool} (hc : Closed ops L) {i : Nat} {X : XOp} {o : Oper} (hX : xs[i]? = some X) (ho : ops[i]? = some o) (hL : L i = false)
    (hr : ∀ ed ∈ o.after.toList, Region.binds .any ed = true → L ed.on = true) : ∀ t ∈ looks X, envL xs (es 0) pv L xs.length t = es i t := by
  intro t htl
  have hi : i < xs.length := (List.getElem?_eq_some_iff.1 hX).1
  rw [es_eq ht i (by omega)]
  have hu := dst_uniq hO
  by_cases hj : ∃ (j : Nat) (Y : XOp), xs[j]? = some Y ∧ Y.dst = some t
  · obtain ⟨j, Y, hY, hjt⟩ := hj
    have hjd : dstOf xs j = some t := by simp [dstOf, hY, hjt]
    have hjl : j < xs.length := (List.getElem?_eq_some_iff.1 hY).1
    by_cases hij : i = j
    · subst hij
      rw [envL_no _ fun k hk hLk h => ?_, envL_no _ fun k hk _ h => ?_]
      · have := hu _ _ _ hjd h; omega
      · have := hu _ _ _ hjd h; subst this; rw [hL] at hLk; cases hLk
    · rcases hO.reads i j X Y t hX hY hij hjt htl with ⟨hlt, ha⟩ | ⟨hlt, ha⟩
      · rw [envL_yes hu (anc_in hO hc i X o hX ho hr j ha) hjd _ hjl, envL_yes hu (L := fun _ => true) rfl hjd _ hlt]
      · have hLj : L j = false := by
          cases hh : L j with
          | false => rfl
          | true =>
            have hjo : j < ops.size := by rw [← hO.len]; exact hjl
            have := anc_in hO hc j Y ops[j] hY (by simp [hjo]) (hc j _ (by simp [hjo]) hh) i ha
            rw [hL] at this; cases this
        rw [envL_no _ fun k hk hLk h => ?_, envL_no _ fun k hk _ h => ?_]
        · have := hu _ _ _ hjd h; omega
        · have := hu _ _ _ hjd h; subst this; rw [hLj] at hLk; cases hLk
  · have hno : ∀ k, dstOf xs k ≠ some t := fun k h => by
      simp only [dstOf, Option.bind_eq_some_iff] at h
      obtain ⟨Y, hY, h⟩ := h
      exact hj ⟨k, Y, hY, h⟩
    rw [envL_no _ fun k _ _ => hno k, envL_no _ fun k _ _ => hno k]

theorem restr_some {base : Nat} {anc : Nat} {m : Mem} {id : Nat} {o : Obj} (h : restr base anc m id = some o) : m id = some o ∧ (id < base ∨ InA ((id - base) / 8) anc) := by
  unfold restr at h
  split at h
  · rename_i hc; exact ⟨h, hc⟩
  · cases h

/-- What an operation changes is new, or seen by it, and then it is ordered with all that touch objects, or with all that see it. -/
theorem chg (hO : OrdOk ops xs) (ht : Tr P base 0 xs es ms pv D f) {j id : Nat} {X : XOp} (hX : xs[j]? = some X) (h : D j id) : X.xi.touch = true ∧ ((base + 8 * j ≤ id ∧ id < base + 8 * j + 8 ∧ X.xi.mk = true) ∨ ((X.bar = true ∨ (X.xi.isL = true ∧ base ≤ id)) ∧ ∃ o, restr base X.anc (ms j) id = some o)) := by
  rcases ht.step j X hX with ⟨_, hd⟩ | ⟨_, _, hd⟩
  · refine ⟨?_, ?_⟩
    · cases hh : X.xi.touch with
      | true => rfl
      | false => exact absurd h (hd.still hh id)
    · rcases hd.dom id h with h1 | ⟨h1, h2⟩
      · rw [Nat.zero_add] at h1; exact .inl h1
      · refine .inr ⟨?_, Option.isSome_iff_exists.1 h2⟩
        rcases h1 with h1 | ⟨h1, h3⟩ | h1
        · exact .inl h1
        · exact .inl ((hO.wr j X hX h1).resolve_right (by simp [h3]))
        · exact .inr h1
  · exact absurd h (hd id)

/-- No object ahead of its making. -/
theorem ms_fresh (hO : OrdOk ops xs) (ht : Tr P base 0 xs es ms pv D f) (h0 : ∀ id, base ≤ id → ms 0 id = none) : ∀ (k : Nat), k ≤ xs.length → ∀ id, base + 8 * k ≤ id → ms k id = none
  | 0, _, id, h => h0 id (by omega)
  | k + 1, hk, id, h => by
    have hX : xs[k]? = some xs[k] := by simp
    rw [ht.mem k _ hX]
    unfold ov
    split
    · rename_i hd
      rcases (chg hO ht hX hd).2 with h1 | ⟨_, o, ho⟩
      · omega
      · have := (restr_some ho).1
        rw [ms_fresh hO ht h0 k (by omega) id (by omega)] at this
        cases this
    · exact ms_fresh hO ht h0 k (by omega) id (by omega)

/-- What is there was made by one that may. -/
theorem ms_mk (hO : OrdOk ops xs) (ht : Tr P base 0 xs es ms pv D f) (h0 : ∀ id, base ≤ id → ms 0 id = none) : ∀ (k : Nat), k ≤ xs.length → ∀ id o, base ≤ id → ms k id = some o → ∃ Z, xs[(id - base) / 8]? = some Z ∧ Z.xi.mk = true
  | 0, _, id, o, h, ho => by rw [h0 id h] at ho; cases ho
  | k + 1, hk, id, o, h, ho => by
    have hX : xs[k]? = some xs[k] := by simp
    rw [ht.mem k _ hX] at ho
    unfold ov at ho
    split at ho
    · rename_i hd
      rcases (chg hO ht hX hd).2 with ⟨h1, h2, h3⟩ | ⟨_, o', ho'⟩
      · have : (id - base) / 8 = k := by omega
        exact ⟨xs[k], by rw [this]; exact hX, h3⟩
      · exact ms_mk hO ht h0 k (by omega) id o' h (restr_some ho').1
    · exact ms_mk hO ht h0 k (by omega) id o h ho

/-- Two that see one object, one of which turns it. -/
theorem tied (hO : OrdOk ops xs) (ht : Tr P base 0 xs es ms pv D f) (h0 : ∀ id, base ≤ id → ms 0 id = none) {i j id : Nat} {X Y : XOp} (hX : xs[i]? = some X) (hY : xs[j]? = some Y) (hne : j ≠ i) (hyt : Y.xi.touch = true) (htc : X.xi.touch = true)
    (hy : Y.bar = true ∨ (Y.xi.isL = true ∧ base ≤ id)) {o' : Obj} (h1 : restr base Y.anc (ms j) id = some o') (h2 : base ≤ id → InA ((id - base) / 8) X.anc) : InA i Y.anc ∨ InA j X.anc := by
  have hjl : j < xs.length := (List.getElem?_eq_some_iff.1 hY).1
  rcases hy with hbar | ⟨hL, hle⟩
  · exact hO.bars j i Y X hY hX hne hbar hyt htc
  · obtain ⟨h1m, h1v⟩ := restr_some h1
    obtain ⟨Z, hZ, hmk⟩ := ms_mk hO ht h0 j (by omega) id o' hle h1m
    have hq1 : InA ((id - base) / 8) Y.anc := h1v.resolve_left (by omega)
    exact hO.locs j i Y X hY hX hne hL htc _ Z hZ hmk hq1 (h2 hle)

/-- Who may change what operation i sees: not those behind it, and of those ahead just its ancestors. -/
theorem sees (hO : OrdOk ops xs) (ht : Tr P base 0 xs es ms pv D f) (h0 : ∀ id, base ≤ id → ms 0 id = none) {L : Nat → Bool} (hc : Closed ops L) {i : Nat} {X : XOp} {o : Oper} (hX : xs[i]? = some X) (ho : ops[i]? = some o) (hL : L i = false)
    (hr : ∀ ed ∈ o.after.toList, Region.binds .any ed = true → L ed.on = true) (htc : X.xi.touch = true) {id : Nat} {ob : Obj} (hs : restr base X.anc (ms i) id = some ob) {j : Nat} {Y : XOp} (hY : xs[j]? = some Y) (hd : D j id) :
    (j < i → L j = true) ∧ (i < j → L j = false) := by
  have hjl : j < xs.length := (List.getElem?_eq_some_iff.1 hY).1
  have hil : i < xs.length := (List.getElem?_eq_some_iff.1 hX).1
  have hanc := anc_in hO hc i X o hX ho hr
  obtain ⟨hms, hvis⟩ := restr_some hs
  obtain ⟨hyt, hch⟩ := chg hO ht hY hd
  have back : ∀ (h : InA i Y.anc), i < j → L j = false := fun h hlt => by
    cases hh : L j with
    | false => rfl
    | true =>
      have hjo : j < ops.size := by rw [← hO.len]; exact hjl
      have := anc_in hO hc j Y ops[j] hY (by simp [hjo]) (hc j _ (by simp [hjo]) hh) i h
      rw [hL] at this; cases this
  rcases hch with h1 | ⟨hbar, oy, hoy⟩
  · refine ⟨fun hlt => ?_, fun hlt => ?_⟩
    · rcases hvis with h | h
      · omega
      · have : (id - base) / 8 = j := by omega
        exact hanc j (this ▸ h)
    · have := ms_fresh hO ht h0 i (by omega) id (by omega)
      rw [hms] at this; cases this
  · have two : i ≠ j → InA i Y.anc ∨ InA j X.anc := fun hne => tied hO ht h0 hX hY (Ne.symm hne) hyt htc hbar (o' := oy) hoy fun hle => hvis.resolve_left (by omega)
    refine ⟨fun hlt => ?_, fun hlt => ?_⟩
    · rcases two (by omega) with h | h
      · have := anc_lt hO j Y hY i h; omega
      · exact hanc j h
    · rcases two (by omega) with h | h
      · exact back h hlt
      · have := anc_lt hO i X hX j h; omega

theorem memL_same {m0 : Mem} {L : Nat → Bool} {id : Nat} : ∀ (k k0 : Nat), k0 ≤ k → (∀ j, k0 ≤ j → j < k → L j = true → ¬ D j id) → memL m0 D f L k id = memL m0 D f L k0 id
  | 0, k0, h, _ => by have : k0 = 0 := by omega
                      subst this; rfl
  | k + 1, k0, h, hd => by
    rcases Nat.lt_or_ge k0 (k + 1) with hlt | hge
    · simp only [memL]
      split
      · rename_i hl
        simp only [ov, if_neg (hd k (by omega) (by omega) hl)]
        exact memL_same k k0 (by omega) fun j h1 h2 => hd j h1 (by omega)
      · exact memL_same k k0 (by omega) fun j h1 h2 => hd j h1 (by omega)
    · have : k0 = k + 1 := by omega
      subst this; rfl

theorem memL_agree {m0 : Mem} {L L' : Nat → Bool} {id : Nat} : ∀ (k : Nat), (∀ j, j < k → D j id → L j = L' j) → memL m0 D f L k id = memL m0 D f L' k id
  | 0, _ => rfl
  | k + 1, h => by
    have ih := memL_agree (m0 := m0) (L := L) (L' := L') (id := id) k fun j hj => h j (by omega)
    simp only [memL]
    by_cases hd : D k id
    · rw [h k (by omega) hd]
      split
      · simp only [ov, if_pos hd]
      · exact ih
    · have e : ∀ (c : Bool) (M : Mem), (if c = true then ov (D k) (f k) M else M) id = M id := fun c M => by
        cases c
        · rfl
        · simp only [if_true, ov, if_neg hd]
      rw [e, e]; exact ih

/-- What an operation sees is there, in whatever order. -/
theorem mem_agree (hO : OrdOk ops xs) (ht : Tr P base 0 xs es ms pv D f) (h0 : ∀ id, base ≤ id → ms 0 id = none) {L : Nat → Bool} (hc : Closed ops L) {i : Nat} {X : XOp} {o : Oper} (hX : xs[i]? = some X) (ho : ops[i]? = some o) (hL : L i = false)
    (hr : ∀ ed ∈ o.after.toList, Region.binds .any ed = true → L ed.on = true) (htc : X.xi.touch = true) : Sub (restr base X.anc (ms i)) (memL (ms 0) D f L xs.length) := by
  intro id ob hs
  have hil : i < xs.length := (List.getElem?_eq_some_iff.1 hX).1
  have h1 := (restr_some hs).1
  rw [memL_same xs.length i (by omega) fun j hij hjl hLj hd => ?_]
  · rw [← h1, ms_eq ht i (by omega)]
    exact memL_agree i fun j hj hd => (sees hO ht h0 hc hX ho hL hr htc hs (by simp : xs[j]? = some (xs[j]'(by omega))) hd).1 hj
  · rcases Nat.lt_or_ge i j with h | h
    · have := (sees hO ht h0 hc hX ho hL hr htc hs (by simp : xs[j]? = some (xs[j]'hjl)) hd).2 h
      rw [hLj] at this; cases this
    · have : i = j := by omega
      subst this; rw [hL] at hLj; cases hLj

end
end Go.Vx
