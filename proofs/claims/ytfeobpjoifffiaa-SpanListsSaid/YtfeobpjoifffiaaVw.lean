/- The engine, part 23: slices.SortFunc at plain structs, by the shelf's contract. -/
import Derived.Test.YtfeobpjoifffiaaVv
import Derived.Shelf.SlSortCmp.NoneTotal
set_option linter.unusedVariables false
set_option linter.unusedSimpArgs false
namespace Go.Vx
open Go Go.RowKit Go.Shelf Go.Lib Go.Sort Go.Proofs

/-- Elements whose cells are plain: bools, numbers, strings. -/
structure Plain {α : Type} (encP : α → List PV) (enc : α → List Value) (k : Nat) : Prop where
  lenP : ∀ x, (encP x).length = k
  len : ∀ x, (enc x).length = k
  one : ∀ x, ∀ c ∈ encP x, c.one = true
  oneV : ∀ x, ∀ v ∈ enc x, v.oneCell' = true
  rep : ∀ (w : World) (ok : Nat → Prop) (β : Ids) x (j : Nat) c v, (encP x)[j]? = some c → (enc x)[j]? = some v → Rep w ok β c v
  unq : ∀ (w : World) (ok : Nat → Prop) (β : Ids) x (j : Nat) c v, (encP x)[j]? = some c → Rep w ok β c v → (enc x)[j]? = some v

theorem keeps_grow {W w' : World} {own : Nat → Prop} (h : Keeps W own w') (hn : ∀ b, ¬ own b) : ∃ q os', w' = grow (W.drewN q) os' := by
  refine ⟨w'.drawn - W.drawn, w'.heap.extract W.heap.size w'.heap.size, ?_⟩
  have h1 : w'.heap = W.heap ++ w'.heap.extract W.heap.size w'.heap.size := by
    apply Array.ext_getElem?
    intro i
    rw [Array.getElem?_append]
    split
    · rename_i hi; exact h.block i hi (hn i)
    · rename_i hi
      rw [Array.getElem?_extract]
      by_cases h2 : i < w'.heap.size
      · rw [if_pos (by omega)]; congr 1; omega
      · rw [if_neg (by omega), Array.getElem?_eq_none (by omega)]
  obtain ⟨hh, ht, hd, ho, hout⟩ := w'
  obtain ⟨Wh, Wt, Wd, Wo, Wout⟩ := W
  have e1 := h.os; have e2 := h.tape; have e3 := h.output; have e4 := h.drawn
  simp only at e1 e2 e3 e4 h1
  subst e1; subst e2; subst e3
  simp only [grow, World.drewN, World.mk.injEq, true_and, and_true]
  exact ⟨h1, by omega⟩

theorem flat_eq {α : Type} {encP : α → List PV} {enc : α → List Value} {k : Nat} (hp : Plain encP enc k) (xs : List α) {j : Nat} {c : PV} (h : (xs.map encP).flatten[j]? = some c) :
    ∃ x, xs[j / k]? = some x ∧ (encP x)[j % k]? = some c ∧ j / k < xs.length ∧ j % k < k := by
  have hk : ∀ y ∈ xs.map encP, y.length = k := by
    intro y hy
    obtain ⟨x, _, rfl⟩ := List.mem_map.1 hy
    exact hp.lenP x
  obtain ⟨i, q, y, h3, hq, h1, h2⟩ := flat_inv hk h
  simp only [List.getElem?_map, Option.map_eq_some_iff] at h1
  obtain ⟨x, hx, rfl⟩ := h1
  have e1 : j / k = i := by rw [h3, Nat.mul_comm i k, Nat.mul_add_div (by omega), Nat.div_eq_of_lt hq, Nat.add_zero]
  have e2 : j % k = q := by rw [h3, Nat.mul_comm i k, Nat.mul_add_mod, Nat.mod_eq_of_lt hq]
  exact ⟨x, by rw [e1]; exact hx, by rw [e2]; exact h2, by rw [e1]; exact (List.getElem?_eq_some_iff.1 hx).1, by rw [e2]; exact hq⟩

section
variable {P : Program} {ρ : Ren} {α : Type} [Inhabited α]

theorem cmp_lays {encP : α → List PV} {enc : α → List Value} {k : Nat} (hp : Plain encP enc k) {g : Nat} {cf : α → α → Int} (hg : ∀ x y b, V P g [.agg (encP x), .agg (encP y)] mt b (.int .i64 (cf x y)) mt) (blk off size : Nat) (w : World) :
    CmpLays P g #[] enc k cf blk off size w := by
  intro m os dk _ x y
  have hr : ∀ x : α, Rep (sortWorldK enc k w blk off m dk os) (fun _ => False) noIds (.agg (encP x)) (.agg (enc x).toArray) := fun x =>
    .agg _ _ (by rw [hp.len, hp.lenP]) (hp.one x) fun j c v hc hv => hp.rep _ _ _ x j c v hc hv
  have := (hg x y 0).2 (sortWorldK enc k w blk off m dk os) noIds (fun _ => False) [.agg (enc x).toArray, .agg (enc y).toArray] ⟨by simp [mt], by simp [mt]⟩ (by simp [noIds]) (by simp)
    ⟨rfl, fun j p v h1 h2 => by
      match j with
      | 0 => simp at h1 h2; subst h1; subst h2; exact hr x
      | 1 => simp at h1 h2; subst h1; subst h2; exact hr y
      | j + 2 => simp at h1⟩
  refine (show Calls P g #[.agg (enc x).toArray, .agg (enc y).toArray] _ _ from this).mono ?_
  rintro e w' ⟨v, β', ok', rfl, hrep, _, hk, _⟩
  cases hrep
  exact ⟨rfl, keeps_grow hk fun b => by rintro ⟨id, o, cap, h, _⟩; cases h⟩

/-- **slices.SortFunc over an own row of plain structs**, where cmp parts whatever two that are not one. -/
theorem V.sortFunc (L : SlLaysF0.n6 P ρ) {k : Nat} (hk0 : 0 < k) (aE : ∀ w, (isAgg (ρ.t 24)).run P w = .ok true w) (zE : ∀ w, (Go.sizeOf (ρ.t 24)).run P w = .ok k w) {encP : α → List PV} {enc : α → List Value} (hp : Plain encP enc k) {cf : α → α → Int} (hO : SWO (ltOf cf))
    (hT : ∀ x y, (ltOf cf) x y = false → (ltOf cf) y x = false → x = y) {g : Nat} (hg : ∀ x y b, V P g [.agg (encP x), .agg (encP y)] mt b (.int .i64 (cf x y)) mt) (xs : List α) (hsz : xs.length < 4611686018427387904) {id b T : Nat} (hid : id < b) :
    V P (ρ.f 6) [.osl id xs.length, .fn g []] (upd mt id (some (.row k (xs.map encP) T false))) b (.tup []) (upd mt id (some (.row k ((xs.mergeSort fun x y => !(ltOf cf) y x).map encP) T false))) := by
  refine ⟨L.f6.enters rfl, fun w β ok vs hm hf hok hr => ?_⟩
  have hlen := hr.1
  match vs, hlen with
  | [v1, v2], _ =>
  have r1 := hr.2 0 _ v1 rfl rfl
  have r2 := hr.2 1 _ v2 rfl rfl
  have hmid : (upd mt id (some (.row k (xs.map encP) T false))) id = some (.row k (xs.map encP) T false) := upd_same _ _ _
  have only : ∀ (X : Obj) i o, upd mt id (some X) i = some o → i = id ∧ o = X := fun X i o h => by
    by_cases he : i = id
    · subst he; simp [upd] at h; exact ⟨rfl, h.symm⟩
    · simp [upd, he, mt] at h
  cases r2 with
  | fn _ _ us hul _ =>
  have hus : us = [] := List.eq_nil_of_length_eq_zero (by simpa using hul)
  subst hus
  obtain ⟨l, hl, hor⟩ := hm.objs id _ hmid
  have fin0 : ∀ (w' : World), w' = w → xs = [] → ∃ (v : Value) (β' : Ids) (ok' : Nat → Prop), Ending.returned (.tuple #[]) = .returned v ∧ Rep w' ok' β' (.tup []) v ∧ MSat w' ok' β' (upd mt id (some (.row k ((xs.mergeSort fun x y => !(ltOf cf) y x).map encP) T false))) ∧ Keeps w (Owns β (upd mt id (some (.row k (xs.map encP) T false)))) w' ∧
      (∀ id, id < b → β' id = β id) ∧ (∀ id, b + 8 ≤ id → β' id = none) ∧ (∀ k, ok k → ok' k) ∧ (∀ k, ok' k → k < w'.heap.size) ∧
      (∀ k_1, ok' k_1 → ok k_1 ∨ Owns β (upd mt id (some (.row k (xs.map encP) T false))) k_1 ∨ w.heap.size ≤ k_1) ∧ ∀ k_1, Owns β' (upd mt id (some (.row k ((xs.mergeSort fun x y => !(ltOf cf) y x).map encP) T false))) k_1 → Owns β (upd mt id (some (.row k (xs.map encP) T false))) k_1 ∨ w.heap.size ≤ k_1 := by
    rintro w' rfl rfl
    exact ⟨_, β, ok, rfl, .tup [] [] rfl (by simp), by simpa using hm, Keeps.refl _ _, fun _ _ => rfl, fun i hi => hf i (by omega), fun _ h => h, hok, fun _ h => .inl h, fun _ h => .inl (by simpa using h)⟩
  by_cases hx0 : xs = []
  · have h1 : ∃ p cap, v1 = .slice p 0 cap := by
      subst hx0
      cases r1 with
      | osl0 _ h => exact ⟨_, _, rfl⟩
      | osl _ _ bl cap h hn => exact ⟨_, _, rfl⟩
    obtain ⟨p, cap, rfl⟩ := h1
    refine (AnyF.slices_SortFunc_none L p cap (.func (.func g) #[] #[]) w).mono ?_
    rintro e w' ⟨rfl, rfl⟩
    exact fin0 _ rfl hx0
  have hne : 0 < xs.length := List.length_pos_iff.2 hx0
  obtain ⟨bl, cap, rfl, hbl, hn⟩ : ∃ bl cap, v1 = .slice (some ⟨bl, 0, none⟩) xs.length cap ∧ β id = some (.at bl cap) ∧ xs.length ≤ cap := by
    generalize hq : xs.length = q at r1 hne
    cases r1 with
    | osl0 _ h => omega
    | osl _ _ bl cap h hn => exact ⟨bl, cap, rfl, h, hn⟩
  rw [hbl] at hl; injection hl with hl; subst hl
  obtain ⟨⟨cur, g1, g2, g3, g4, g5, g6, g7⟩, g8, g9⟩ := hor
  have hflen : (xs.map encP).flatten.length = xs.length * k := by rw [flat_len g5]; simp
  have hblk : bl < w.heap.size := (Array.getElem?_eq_some_iff.1 g1).1
  have hcurv : ∀ t, t < xs.length * k → ∃ v, cur[t]? = some v ∧ v = (flatK enc k xs.toArray)[t]! := fun t ht => by
    have hg : (xs.map encP).flatten[t]? = some (xs.map encP).flatten[t] := by simp [hflen, ht]
    obtain ⟨x, h1, h2, h3, h4⟩ := flat_eq hp xs hg
    obtain ⟨v, hv, hrep⟩ := g7 t _ hg
    have hu := hp.unq _ _ _ x _ _ _ h2 hrep
    refine ⟨v, hv, ?_⟩
    rw [get_flatK _ _ _ _ (by simpa using ht)]
    have : xs.toArray[t / k]! = x := by rw [getElem!_pos _ _ (by simpa using h3)]; simpa [h3] using h1
    rw [this, getElem!_pos _ _ (by rw [hp.len]; exact h4)]
    exact ((List.getElem?_eq_some_iff.1 hu).2).symm
  have hH : HoldsK enc k w bl 0 xs.toArray := by
    intro j hj
    simp at hj
    obtain ⟨v, hv, hve⟩ := hcurv j hj
    rw [Nat.zero_add]
    exact ⟨by rw [cell_of g1, hv, hve]; rfl, frozen_of g1 j⟩
  have hcall := AnyQ.slices_SortFunc_total L k aE zE enc hp.len hp.oneV cf hO g #[] bl 0 cap xs.toArray w (hg (default : α) default 0).1 (cmp_lays hp hg bl 0 xs.toArray.size w) hH hblk (by simpa using hsz) hT
  rw [show xs.toArray.size = xs.length from by simp] at hcall
  refine hcall.mono ?_
  rintro e w' ⟨rfl, n, os, rfl⟩
  simp only [List.toList_toArray]
  generalize hys : (xs.mergeSort fun x y => !(ltOf cf) y x) = ys
  have hyl : ys.length = xs.length := by rw [← hys]; exact List.length_mergeSort _
  have hheap : ∀ i, i < w.heap.size → (sortWorldK enc k w bl 0 n ys.toArray os).heap[i]? = (w.heap.modify bl (onCells (putCells (fun v : Value => v) 0 (flatK enc k ys.toArray))))[i]? := fun i hi => by
    simp only [sortWorldK, grow, putRowK, putRow, mapBlock, Sort.ahead]
    rw [Array.getElem?_append_left (by simpa using hi)]
    rfl
  have hother : ∀ i, i < w.heap.size → i ≠ bl → (sortWorldK enc k w bl 0 n ys.toArray os).heap[i]? = w.heap[i]? := fun i hi hne => by
    rw [hheap i hi, Array.getElem?_modify, if_neg (Ne.symm hne)]
  have hsize : w.heap.size ≤ (sortWorldK enc k w bl 0 n ys.toArray os).heap.size := by simp [sortWorldK, grow, putRowK, putRow, mapBlock, Sort.ahead]
  have hnew : (sortWorldK enc k w bl 0 n ys.toArray os).heap[bl]? = some (.cells (putCells (fun v : Value => v) 0 (flatK enc k ys.toArray) cur) T (0, 0)) := by
    rw [hheap bl hblk, Array.getElem?_modify, if_pos rfl, g1]; rfl
  refine ⟨_, β, ok, rfl, .tup [] [] rfl (by simp), ⟨fun i o ho => ?_, fun i j o o' bb c1 c2 h1 h2 _ _ _ _ => ?_⟩, ⟨rfl, rfl, rfl, hsize, fun i hi hno => hother i hi fun he => hno ?_, ?_⟩, fun _ _ => rfl, fun i hi => hf i (by omega), fun _ h => h, fun i hi => Nat.lt_of_lt_of_le (hok i hi) hsize, fun _ h => .inl h, fun i hi => .inl ?_⟩
  · obtain ⟨rfl, rfl⟩ := only _ i o ho
    refine ⟨_, hbl, ⟨_, hnew, by simp [putCells, g2], by simpa [hyl] using hn, g4, ?_, ?_, fun j c hj => ?_⟩, by simp, g9⟩
    · intro y hy
      obtain ⟨x, _, rfl⟩ := List.mem_map.1 hy
      exact hp.lenP x
    · intro c hc
      obtain ⟨y, hy, hcy⟩ := List.mem_flatten.1 hc
      obtain ⟨x, _, rfl⟩ := List.mem_map.1 hy
      exact hp.one x c hcy
    · obtain ⟨x, h1, h2, h3, h4⟩ := flat_eq hp ys hj
      have hjl : j < ys.length * k := by
        have : j < (ys.map encP).flatten.length := (List.getElem?_eq_some_iff.1 hj).1
        rw [flat_len (k := k) (by intro y hy; obtain ⟨x, _, rfl⟩ := List.mem_map.1 hy; exact hp.lenP x)] at this
        simpa using this
      have hjc : j < cur.size := by rw [g2]; exact Nat.lt_of_lt_of_le hjl (Nat.mul_le_mul_right k (by omega))
      have hv : (enc x)[j % k]? = some ((enc x)[j % k]'(by rw [hp.len]; exact h4)) := by simp
      refine ⟨_, ?_, hp.rep _ _ _ x _ _ _ h2 hv⟩
      simp only [putCells, Array.getElem?_mapIdx, Array.getElem?_eq_getElem hjc, Option.map_some, Nat.zero_le, true_and, Nat.zero_add, size_flatK, List.size_toArray, hjl, if_true, Nat.sub_zero]
      rw [get_flatK _ _ _ _ (by simpa using hjl)]
      have : ys.toArray[j / k]! = x := by rw [getElem!_pos _ _ (by simpa using h3)]; simpa [h3] using h1
      rw [this, getElem!_pos _ _ (by rw [hp.len]; exact h4)]
  · exact (only _ i o h1).1.trans (only _ j o' h2).1.symm
  · subst he; exact ⟨id, _, cap, hmid, rfl, hbl⟩
  · simp [sortWorldK, grow, putRowK, putRow, mapBlock, Sort.ahead]
  · obtain ⟨i', o, cap', h1, h2, h3⟩ := hi
    obtain ⟨rfl, rfl⟩ := only _ i' o h1
    exact ⟨i', _, cap', hmid, rfl, h3⟩

end
end Go.Vx
