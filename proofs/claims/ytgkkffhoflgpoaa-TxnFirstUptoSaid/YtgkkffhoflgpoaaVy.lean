/- The engine, part 25: what arguments read as. -/
import Derived.Test.YtgkkffhoflgpoaaVu
import GoSem.ClaimChange
set_option linter.unusedVariables false
set_option linter.unusedSimpArgs false
namespace Go.Vx
open Go Go.RowKit

/-- What a cell may hold. -/
inductive CT where
  | bool
  | int (k : IntKind)
  | str
  | sl (cs : List CT)

def cellsFs (rec : TypeId → Option (List CT)) : Nat → List Field → Option (List CT)
  | _, [] => some []
  | off, f :: fs => if f.offset = off then (rec f.type).bind fun c => (cellsFs rec (off + c.length) fs).map (c ++ ·) else none
/-- A type's cells. -/
def cellsTy (P : Program) : Nat → TypeId → Option (List CT)
  | 0, _ => none
  | n + 1, t =>
    ((match P.underlying t with
      | some .bool => some [.bool]
      | some (.int k) => some [.int k]
      | some .string => some [.str]
      | some (.slice e) => (cellsTy P n e).bind fun c => if 0 < c.length then some [.sl c] else none
      | some (.struct fs) => cellsFs (cellsTy P n) 0 fs.toList
      | some (.array len e) => (cellsTy P n e).map fun c => (List.replicate len c).flatten
      | _ => none) : Option (List CT)).bind fun c => if c.length = P.cellsOf t then some c else none

/-- N: how long a text or a slice may be. -/
inductive HasCT (N : Nat) : CT → PV → Prop
  | bool (b) : HasCT N .bool (.bool b)
  | int (k n) (h : (Lit.int k n).wf = true) : HasCT N (.int k) (.int k n)
  | str (s : List UInt8) (h : s.length ≤ N) : HasCT N .str (.str s)
  | sl (cs : List CT) (xs : List (List PV)) (hl : xs.length ≤ N) (h1 : ∀ x ∈ xs, x.length = cs.length) (h : ∀ x ∈ xs, ∀ (j : Nat) c p, cs[j]? = some c → x[j]? = some p → HasCT N c p) : HasCT N (.sl cs) (.sl xs)

theorem HasCT.one {N : Nat} {c : CT} {p : PV} (h : HasCT N c p) : p.one = true := by cases h <;> rfl

/-- What a reading says of lengths. -/
structure Small {H : Type} (sm : DataW H → Prop) (N : Nat) : Prop where
  str : ∀ s : List UInt8, s.length ≤ maxLen → sm (.lit (.string s)) → s.length ≤ N
  sl : ∀ xs ys, sm (.slice xs ys) → (xs.length ≤ maxLen → xs.length ≤ N) ∧ ∀ x ∈ xs, sm x
  agg : ∀ xs, sm (.agg xs) → ∀ x ∈ xs, sm x
theorem Small.any {H : Type} : Small (H := H) (fun _ => True) maxLen := ⟨fun _ h _ => h, fun _ _ _ => ⟨id, fun _ _ => trivial⟩, fun _ _ _ _ => trivial⟩

/-- Cells that hold what they may. -/
def Held1 (N : Nat) (W : World) (ts : List CT) (cs : List Value) : Prop :=
  cs.length = ts.length ∧ ∀ (j : Nat) v c, cs[j]? = some v → ts[j]? = some c → ∃ q, HasCT N c q ∧ Rep W (fun b => b < W.heap.size) noIds q v

theorem held_list {N : Nat} {W : World} {ts : List CT} {cs : List Value} (h : Held1 N W ts cs) : ∃ qs : List PV, qs.length = ts.length ∧ (∀ (j : Nat) c q, ts[j]? = some c → qs[j]? = some q → HasCT N c q) ∧ ∀ (j : Nat) q v, qs[j]? = some q → cs[j]? = some v → Rep W (fun b => b < W.heap.size) noIds q v := by
  obtain ⟨hl, hh⟩ := h
  obtain ⟨qs, hq, hR⟩ := exists_list (n := ts.length) (R := fun j q => ∀ v c, cs[j]? = some v → ts[j]? = some c → HasCT N c q ∧ Rep W (fun b => b < W.heap.size) noIds q v) (fun j hj => by
    have hj2 : j < cs.length := by omega
    obtain ⟨q, h1, h2⟩ := hh j cs[j] ts[j] (by simp [hj2]) (by simp [hj])
    refine ⟨q, fun v c hv hc => ?_⟩
    simp [hj2] at hv
    simp [hj] at hc
    subst hv; subst hc
    exact ⟨h1, h2⟩)
  refine ⟨qs, hq, fun j c q hc hqj => ?_, fun j q v hqj hv => ?_⟩
  · have hj : j < ts.length := (List.getElem?_eq_some_iff.1 hc).1
    have hj2 : j < cs.length := by omega
    exact (hR j q hqj cs[j] c (by simp [hj2]) hc).1
  · have hj2 : j < cs.length := (List.getElem?_eq_some_iff.1 hv).1
    have hj : j < ts.length := by omega
    exact (hR j q hqj v ts[j] hv (by simp [hj])).2

section
variable {H : Type} {enc : TypeId × Value → H} {P : Program} {W : World} {sp : Nat → Bool} {held : Bool} {N : Nat} {sm : DataW H → Prop}

theorem held_fs {n : Nat} {cs : List Value} (rec : TypeId → Option (List CT)) (hlen : ∀ t c, rec t = some c → c.length = P.cellsOf t)
    (ih : ∀ t ds d ps c, DataW.trod enc P W 0 sp held n t ds = some (d, ps) → sm d → rec t = some c → Held1 N W c ds) :
    ∀ (fs : List Field) (off : Nat) (c : List CT) xs, cellsFs rec off fs = some c → (fs.mapM fun f => DataW.trod enc P W 0 sp held n f.type ((cs.drop f.offset).take (P.cellsOf f.type))) = some xs → (∀ x ∈ xs, sm x.1) → off + c.length ≤ cs.length → Held1 N W c ((cs.drop off).take c.length)
  | [], off, c, xs, h1, _, _, _ => by
    simp [cellsFs] at h1; subst h1
    exact ⟨by simp, by simp⟩
  | f :: fs, off, c, xs, h1, h2, hsm, h3 => by
    simp only [cellsFs] at h1
    split at h1
    case isFalse => cases h1
    rename_i ho
    simp only [Option.bind_eq_some_iff, Option.map_eq_some_iff] at h1
    obtain ⟨c1, hc1, c2, hc2, rfl⟩ := h1
    simp only [List.mapM_cons, Option.bind_eq_bind, Option.bind_eq_some_iff, Option.pure_def, Option.some.injEq] at h2
    obtain ⟨x, hx, ys, hys, rfl⟩ := h2
    simp only [List.length_append] at h3
    have g1 := ih f.type _ x.1 x.2 c1 hx (hsm x List.mem_cons_self) hc1
    have g2 := held_fs rec hlen ih fs (off + c1.length) c2 ys hc2 hys (fun y hy => hsm y (List.mem_cons_of_mem _ hy)) (by omega)
    rw [ho, ← hlen _ _ hc1] at g1
    have hsplit : (cs.drop off).take (c1 ++ c2).length = (cs.drop off).take c1.length ++ (cs.drop (off + c1.length)).take c2.length := by
      rw [List.length_append, List.take_add, List.drop_drop]
    rw [hsplit]
    refine ⟨by simp [g1.1, g2.1], fun j v ct hv hc => ?_⟩
    by_cases hj : j < c1.length
    · rw [List.getElem?_append_left (by rw [g1.1]; exact hj)] at hv
      rw [List.getElem?_append_left hj] at hc
      exact g1.2 j v ct hv hc
    · rw [List.getElem?_append_right (by rw [g1.1]; omega), g1.1] at hv
      rw [List.getElem?_append_right (by omega)] at hc
      exact g2.2 _ v ct hv hc

theorem range_some {α : Type} {f : Nat → Option α} {n : Nat} {xs : List α} (h : (List.range n).mapM f = some xs) : xs.length = n ∧ ∀ (i : Nat) x, xs[i]? = some x → f i = some x := by
  obtain ⟨h1, h2⟩ := mapM_some h
  refine ⟨by simpa using h1, fun i x hx => ?_⟩
  have hi : i < n := by have := (List.getElem?_eq_some_iff.1 hx).1; simp at h1; omega
  exact h2 i i x (by simp [hi]) hx

theorem rep_flat {α : Type} {c : List α} {len j : Nat} {u : α} (h : (List.replicate len c).flatten[j]? = some u) : c[j % c.length]? = some u ∧ j / c.length < len ∧ 0 < c.length := by
  have hk : ∀ x ∈ List.replicate len c, x.length = c.length := fun x hx => by rw [(List.mem_replicate.1 hx).2]
  obtain ⟨i, q, y, h3, hq, h1, h2⟩ := flat_inv hk h
  have hi : i < len := by have := (List.getElem?_eq_some_iff.1 h1).1; simpa using this
  have hy : y = c := by simp [hi] at h1; exact h1.symm
  subst hy
  have hpos : 0 < y.length := by omega
  refine ⟨?_, ?_, hpos⟩
  · rw [h3, Nat.mul_comm, Nat.mul_add_mod, Nat.mod_eq_of_lt hq]; exact h2
  · rw [h3, Nat.mul_comm, Nat.mul_add_div hpos, Nat.div_eq_of_lt hq]; omega

/-- **What an argument reads as.** -/
theorem trod_held (hsm : Small sm N) : ∀ (n : Nat) (t : TypeId) (cs : List Value) (d : DataW H) (ps : List MemPlace) (m : Nat) (c : List CT), DataW.trod enc P W 0 sp held n t cs = some (d, ps) → sm d → cellsTy P m t = some c → Held1 N W c cs ∧ c.length = P.cellsOf t := by
  intro n
  induction n with
  | zero => intro t cs d ps m c h; simp [DataW.trod] at h
  | succ n ih =>
    intro t cs d ps m c h hd hc
    cases m with
    | zero => simp [cellsTy] at hc
    | succ m =>
    have hlen : ∀ t c, cellsTy P m t = some c → c.length = P.cellsOf t := fun t c h => by
      cases m with
      | zero => simp [cellsTy] at h
      | succ m =>
        simp only [cellsTy, Option.bind_eq_some_iff] at h
        obtain ⟨c', _, h⟩ := h
        split at h
        · rename_i hl; injection h with h; subst h; exact hl
        · cases h
    simp only [cellsTy, Option.bind_eq_some_iff] at hc
    obtain ⟨c', hc', hc⟩ := hc
    split at hc
    case isFalse => cases hc
    rename_i hcl
    injection hc with hc; subst hc
    refine ⟨?_, hcl⟩
    have single : ∀ (ct : CT) (v : Value), (∃ q, HasCT N ct q ∧ Rep W (fun b => b < W.heap.size) noIds q v) → Held1 N W [ct] [v] := fun ct v hq => by
      refine ⟨rfl, fun j v' c hv hc => ?_⟩
      cases j with
      | zero => simp at hv hc; subst hv; subst hc; exact hq
      | succ j => simp at hv
    cases hu : P.underlying t with
    | none => rw [hu] at hc'; cases hc'
    | some ty =>
    rw [hu] at hc'
    cases ty with
    | bool =>
      simp at hc'; subst hc'
      unfold DataW.trod at h
      rw [hu] at h
      split at h <;> simp_all
      exact single _ _ _ (.bool _) (.bool _)
    | int k =>
      simp at hc'; subst hc'
      unfold DataW.trod at h
      rw [hu] at h
      split at h <;> simp_all
      obtain ⟨⟨rfl, hwf⟩, _, _⟩ := h
      exact single _ _ _ (.int _ _ hwf) (.int _ _)
    | string =>
      simp at hc'; subst hc'
      have h2 : ∃ s, cs = [.string s] ∧ s.size ≤ maxLen ∧ d = .lit (.string s.data.toList) := by
        clear single
        rcases cs with _ | ⟨v, _ | ⟨v2, r⟩⟩
        · simp [DataW.trod, hu] at h
        · cases v <;> simp [DataW.trod, hu] at h
          rename_i s
          exact ⟨s, rfl, h.1, h.2.1.symm⟩
        · simp [DataW.trod, hu] at h
      obtain ⟨s, rfl, hs, rfl⟩ := h2
      refine single _ _ ⟨.str s.data.toList, .str _ (hsm.str _ (by simpa using hs) hd), ?_⟩
      have := Rep.str (w := W) (ok := fun b => b < W.heap.size) (β := noIds) s.data.toList
      simpa using this
    | struct fs =>
      have h2 : cs.length = P.cellsOf t ∧ ∃ xs, (fs.toList.mapM fun f => DataW.trod enc P W 0 sp held n f.type ((cs.drop f.offset).take (P.cellsOf f.type))) = some xs ∧ d = .agg (xs.map (·.1)) := by
        clear single
        simp only [DataW.trod, hu] at h
        split at h
        · rename_i h1
          simp only [Option.map_eq_some_iff] at h
          obtain ⟨xs, h2, h3⟩ := h
          injection h3 with h3 _
          exact ⟨h1, xs, h2, h3.symm⟩
        · cases h
      obtain ⟨hl, xs, hxs, rfl⟩ := h2
      have hds : ∀ x ∈ xs, sm x.1 := fun x hx => hsm.agg _ hd _ (List.mem_map_of_mem hx)
      have := held_fs (n := n) (cellsTy P m) hlen (fun t ds d ps c h1 h2 h3 => (ih t ds d ps m c h1 h2 h3).1) fs.toList 0 c' xs hc' hxs hds (by omega)
      simpa [hcl, ← hl] using this
    | array len e =>
      simp only [Option.map_eq_some_iff] at hc'
      obtain ⟨c, hce, rfl⟩ := hc'
      have h2 : cs.length = P.cellsOf t ∧ ∃ xs, ((List.range len).mapM fun i => DataW.trod enc P W 0 sp held n e ((cs.drop (i * P.cellsOf e)).take (P.cellsOf e))) = some xs ∧ d = .agg (xs.map (·.1)) := by
        clear single
        simp only [DataW.trod, hu] at h
        split at h
        · rename_i h1
          simp only [Option.map_eq_some_iff] at h
          obtain ⟨xs, h2, h3⟩ := h
          injection h3 with h3 _
          exact ⟨h1, xs, h2, h3.symm⟩
        · cases h
      obtain ⟨hl, xs, hxs, rfl⟩ := h2
      have hds : ∀ x ∈ xs, sm x.1 := fun x hx => hsm.agg _ hd _ (List.mem_map_of_mem hx)
      obtain ⟨hx1, hx2⟩ := range_some hxs
      refine ⟨by omega, fun j v ct hv hc => ?_⟩
      obtain ⟨g1, g2, g3⟩ := rep_flat hc
      have hi : (xs[j / c.length]?).isSome = true := by simp [hx1, g2]
      obtain ⟨x, hx⟩ := Option.isSome_iff_exists.1 hi
      have hk := ih e _ x.1 x.2 m c (hx2 _ x hx) (hds x (List.mem_of_getElem? hx)) hce
      refine hk.1.2 (j % c.length) v ct ?_ g1
      rw [← hk.2, List.getElem?_take, if_pos (Nat.mod_lt _ g3), List.getElem?_drop, Nat.mul_comm, Nat.div_add_mod]
      exact hv
    | slice e =>
      simp only [Option.bind_eq_some_iff] at hc'
      obtain ⟨c, hce, hc'⟩ := hc'
      split at hc'
      case isFalse => cases hc'
      rename_i hpos
      injection hc' with hc'; subst hc'
      have hke : c.length = P.cellsOf e := hlen _ _ hce
      have h2 : cs = [.slice none 0 0] ∨ ∃ A len cap, cs = [.slice (some A) len cap] ∧ len ≤ cap ∧ cap ≤ maxLen ∧ ∃ xs, ((List.range len).mapM fun i => (W.cells? 0 (A.add (i * P.cellsOf e)) (P.cellsOf e)).bind (DataW.trod enc P W 0 sp held n e)) = some xs ∧ ∃ ys, d = .slice (xs.map (·.1)) ys := by
        clear single
        rcases cs with _ | ⟨v, _ | ⟨v2, r⟩⟩
        · simp [DataW.trod, hu] at h
        · cases v
          case slice A len cap =>
            cases A with
            | none =>
              cases len with
              | zero =>
                cases cap with
                | zero => exact .inl rfl
                | succ cap => simp [DataW.trod, hu] at h
              | succ len => simp [DataW.trod, hu] at h
            | some A =>
              simp only [DataW.trod, hu] at h
              split at h
              · rename_i hle
                simp only [Option.bind_eq_some_iff] at h
                obtain ⟨xs, hxs, h3⟩ := h
                simp only [Option.map_eq_some_iff] at h3
                obtain ⟨rest, _, h3⟩ := h3
                injection h3 with h3 _
                exact .inr ⟨A, len, cap, rfl, hle.2.1, hle.2.2, xs, hxs, _, h3.symm⟩
              · cases h
          all_goals simp [DataW.trod, hu] at h
        · simp [DataW.trod, hu] at h
      rcases h2 with rfl | ⟨A, len, cap, rfl, hle, hcm, xs, hxs, zs, rfl⟩
      · exact single _ _ ⟨.sl [], .sl _ [] (by simp) (by simp) (by simp), .sl0 none 0 (by simp)⟩
      · obtain ⟨hx1, hx2⟩ := range_some hxs
        obtain ⟨hdl, hds⟩ := hsm.sl _ _ hd
        have hel : ∀ i, i < len → ∃ ds, W.cells? 0 (A.add (i * c.length)) c.length = some ds ∧ Held1 N W c ds := fun i hi => by
          have hs : (xs[i]?).isSome = true := by simp [hx1, hi]
          obtain ⟨x, hx⟩ := Option.isSome_iff_exists.1 hs
          have := hx2 i x hx
          simp only [Option.bind_eq_some_iff] at this
          obtain ⟨ds, h1, h2⟩ := this
          rw [hke]
          exact ⟨ds, h1, (ih e ds x.1 x.2 m c h2 (hds _ (List.mem_map_of_mem (List.mem_of_getElem? hx))) hce).1⟩
        have hcell : ∀ i, i < len → ∃ ds, Held1 N W c ds ∧ ∀ (q : Nat) v, ds[q]? = some v → W.cell? (A.add (i * c.length + q)) = some v := fun i hi => by
          obtain ⟨ds, h1, h2⟩ := hel i hi
          refine ⟨ds, h2, fun q v hv => ?_⟩
          unfold World.cells? at h1
          rw [if_pos (Nat.zero_le _)] at h1
          have := (range_some h1).2 q v hv
          rwa [add_add] at this
        obtain ⟨ys, hyl, hy⟩ := exists_list (n := len) (R := fun i (y : List PV) => y.length = c.length ∧ (∀ (j : Nat) ct q, c[j]? = some ct → y[j]? = some q → HasCT N ct q) ∧
            ∀ (j : Nat) q, y[j]? = some q → ∃ v, W.cell? (A.add (i * c.length + j)) = some v ∧ Rep W (fun b => b < W.heap.size) noIds q v) (fun i hi => by
          obtain ⟨ds, h1, h2⟩ := hcell i hi
          obtain ⟨qs, g1, g2, g3⟩ := held_list h1
          refine ⟨qs, g1, g2, fun j q hq => ?_⟩
          have hjl : j < ds.length := by rw [h1.1, ← g1]; exact (List.getElem?_eq_some_iff.1 hq).1
          exact ⟨ds[j], h2 j _ (by simp [hjl]), g3 j q _ hq (by simp [hjl])⟩)
        have hmem : ∀ y ∈ ys, ∃ i, ys[i]? = some y := fun y hy => List.getElem?_of_mem hy
        have hyk : ∀ y ∈ ys, y.length = c.length := fun y hym => by obtain ⟨i, hi⟩ := hmem y hym; exact (hy i y hi).1
        have hct : HasCT N (.sl c) (.sl ys) := .sl c ys (by have := hdl (by simp; omega); simp at this; omega) hyk fun y hym j ct q h1 h2 => by obtain ⟨i, hi⟩ := hmem y hym; exact (hy i y hi).2.1 j ct q h1 h2
        refine single _ _ ⟨.sl ys, hct, ?_⟩
        by_cases hy0 : ys = []
        · subst hy0
          have : len = 0 := by simpa using hyl.symm
          subst this
          exact .sl0 (some A) cap hcm
        · have hflat : ∀ (j : Nat) q, ys.flatten[j]? = some q → ∃ v, W.cell? (A.add j) = some v ∧ Rep W (fun b => b < W.heap.size) noIds q v := fun j q hq => by
            obtain ⟨i, r, y, h3, hr, h1, h2⟩ := flat_inv hyk hq
            rw [h3]
            exact (hy i y h1).2.2 r q h2
          have hlen0 : 0 < ys.flatten.length := by
            rw [flat_len hyk]
            exact Nat.mul_pos (List.length_pos_iff.2 hy0) hpos
          obtain ⟨v0, hv0, _⟩ := hflat 0 ys.flatten[0] (by simp [hlen0])
          have hA0 : A.add 0 = A := by simp [Addr.add]
          rw [hA0] at hv0
          have hspot : A.spot = none ∧ A.block < W.heap.size := by
            unfold World.cell? at hv0
            split at hv0
            · rename_i hb
              split at hv0
              · cases hv0
              · rename_i hs
                exact ⟨by simpa using hs, (Array.getElem?_eq_some_iff.1 hb).1⟩
            · cases hv0
          rw [← hyl]
          refine .sl c.length ys A cap (fun j => (W.cell? (A.add j)).getD undef) hy0 (by omega) hcm hyk hspot.1 hspot.2 (fun q hq => ?_) (fun j q hq => ?_) fun j q hq => ?_
          · obtain ⟨y, hym, hqy⟩ := List.mem_flatten.1 hq
            obtain ⟨i, hi⟩ := hmem y hym
            obtain ⟨r, hr⟩ := List.getElem?_of_mem hqy
            have hrl : r < c.length := by rw [← (hy i y hi).1]; exact (List.getElem?_eq_some_iff.1 hr).1
            exact ((hy i y hi).2.1 r c[r] q (by simp [hrl]) hr).one
          · obtain ⟨v, hv, _⟩ := hflat j q hq
            simp [hv]
          · obtain ⟨v, hv, hr⟩ := hflat j q hq
            simpa [hv] using hr
    | _ => simp at hc'

end
end Go.Vx
