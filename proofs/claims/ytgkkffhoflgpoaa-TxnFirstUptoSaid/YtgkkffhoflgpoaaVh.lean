/- The engine, part 8: literals, stores, append, slices of slices. -/
import Derived.Test.YtgkkffhoflgpoaaVg
set_option linter.unusedVariables false
set_option linter.unusedSimpArgs false
namespace Go.Vx
open Go Go.RowKit

section lists
variable {α : Type}

theorem splice_len {cs ps : List PV} {j : Nat} (h : j + ps.length ≤ cs.length) : (splice cs j ps).length = cs.length := by simp [splice]; omega

theorem splice_get {cs ps : List PV} {j : Nat} (h : j + ps.length ≤ cs.length) (q : Nat) : (splice cs j ps)[q]? = if j ≤ q ∧ q < j + ps.length then ps[q - j]? else cs[q]? := by
  unfold splice
  by_cases h1 : q < j
  · rw [if_neg (by omega), List.append_assoc, List.getElem?_append_left (by simp; omega), List.getElem?_take_of_lt h1]
  · by_cases h2 : q < j + ps.length
    · rw [if_pos (by omega), List.append_assoc, List.getElem?_append_right (by simp; omega), List.getElem?_append_left (by simp; omega)]
      congr 1
      simp; omega
    · rw [if_neg (by omega), List.getElem?_append_right (by simp; omega), List.getElem?_drop]
      congr 1
      simp; omega

theorem splice_mem {cs ps : List PV} {j : Nat} {c : PV} (h : c ∈ splice cs j ps) : c ∈ cs ∨ c ∈ ps := by
  simp only [splice, List.mem_append] at h
  rcases h with (h | h) | h
  · exact .inl (List.mem_of_mem_take h)
  · exact .inr h
  · exact .inl (List.mem_of_mem_drop h)

theorem set_len {k : Nat} {xs : List (List α)} {i : Nat} {y : List α} (hk : ∀ x ∈ xs, x.length = k) (hy : y.length = k) : ∀ x ∈ xs.set i y, x.length = k := by
  intro x hx
  rcases List.mem_or_eq_of_mem_set hx with h | h
  · exact hk x h
  · exact h ▸ hy

theorem flat_set {k : Nat} {xs : List (List α)} {i : Nat} {y : List α} (hk : ∀ x ∈ xs, x.length = k) (hy : y.length = k) (hi : i < xs.length) (q : Nat) (u : α) (h : (xs.set i y).flatten[q]? = some u) :
    if i * k ≤ q ∧ q < i * k + k then y[q - i * k]? = some u else xs.flatten[q]? = some u := by
  obtain ⟨i', j, c, rfl, hj, hc, hu⟩ := flat_inv (set_len hk hy) h
  by_cases he : i' = i
  · subst he
    rw [List.getElem?_set_self hi] at hc
    injection hc with hc; subst hc
    rw [if_pos (by omega)]
    rw [show i' * k + j - i' * k = j by omega]; exact hu
  · rw [List.getElem?_set_ne (by omega)] at hc
    rw [if_neg]
    · exact flat_get hk hc hu
    · intro ⟨h1, h2⟩
      rcases Nat.lt_or_gt_of_ne he with hlt | hgt
      · have := Nat.mul_le_mul_right k (show i' + 1 ≤ i from hlt)
        rw [Nat.add_mul] at this; omega
      · have := Nat.mul_le_mul_right k (show i + 1 ≤ i' from hgt)
        rw [Nat.add_mul] at this; omega
end lists

section
variable {P : Program} {F : Fr} {β : Ids} {ok : Nat → Prop} {e : Nat → Option PV} {m : Mem} {a : Act} {w : World} {b : Nat} {o : Oper} {p : PV} {d : Delta}

theorem foldl_set (vs : List Value) : ∀ (i off : Nat) (cs : Array Value), off + i + vs.length ≤ cs.size →
    ((vs.zipIdx i).foldl (fun cs (c, j) => cs.setIfInBounds (off + j) c) cs).size = cs.size ∧
    ∀ q : Nat, ((vs.zipIdx i).foldl (fun cs (c, j) => cs.setIfInBounds (off + j) c) cs)[q]? = if off + i ≤ q ∧ q < off + i + vs.length then vs[q - (off + i)]? else cs[q]? := by
  induction vs with
  | nil => intro i off cs h; refine ⟨rfl, fun q => ?_⟩; rw [if_neg (by simp only [List.length_nil]; omega)]; rfl
  | cons v vs ih =>
    intro i off cs h
    simp only [List.zipIdx_cons, List.foldl_cons]
    obtain ⟨h1, h2⟩ := ih (i + 1) off (cs.setIfInBounds (off + i) v) (by simp at h ⊢; omega)
    refine ⟨by rw [h1]; simp, fun q => ?_⟩
    rw [h2 q]
    by_cases hq : q = off + i
    · subst hq
      rw [if_neg (by omega), if_pos (by simp)]
      have : off + i < cs.size := by simp at h; omega
      simp [this]
    · by_cases hq2 : off + (i + 1) ≤ q ∧ q < off + (i + 1) + vs.length
      · rw [if_pos hq2, if_pos (by simp; omega), show q - (off + i) = (q - (off + (i + 1))) + 1 by omega]
        simp
      · rw [if_neg hq2, if_neg (by simp; omega), Array.getElem?_setIfInBounds_ne (by omega)]

theorem foldl_setA (vs : Array Value) (off : Nat) (cs : Array Value) (h : off + vs.size ≤ cs.size) :
    (vs.zipIdx.foldl (fun cs (c, j) => cs.setIfInBounds (off + j) c) cs).size = cs.size ∧
    ∀ q : Nat, (vs.zipIdx.foldl (fun cs (c, j) => cs.setIfInBounds (off + j) c) cs)[q]? = if off ≤ q ∧ q < off + vs.size then vs.toList[q - off]? else cs[q]? := by
  have := foldl_set vs.toList 0 off cs (by simpa using h)
  rw [← Array.foldl_toList, Array.toList_zipIdx]
  simpa using this

/-- The cells of a literal, pointwise. -/
def Like (w : World) (ok : Nat → Prop) (β : Ids) (vs : Array Value) (cs : List PV) : Prop :=
  vs.size = cs.length ∧ (∀ c ∈ cs, c.one = true) ∧ ∀ (j : Nat) c, cs[j]? = some c → ∃ u, vs[j]? = some u ∧ Rep w ok β c u

theorem fill_build (hs : Sat0 F β ok e m a w) (pl : Nat → Option (Nat × Nat)) : ∀ (parts : List (Nat × Operand)) (ps : List (Nat × Nat × XA)) (vs : Array Value) (cs r : List PV), cParts parts pl = some ps → Like w ok β vs cs →
    fillP e cs ps = some r → ∃ vr, Instr.fill pl vs (parts.map fun (i, x) => (i, a.eval x)) = some vr ∧ Like w ok β vr r
  | [], ps, vs, cs, r, hp, hl, h => by
    simp [cParts] at hp; subst hp
    simp [fillP] at h; subst h
    exact ⟨vs, rfl, hl⟩
  | (i, X) :: parts, ps, vs, cs, r, hp, hl, h => by
    simp only [cParts, List.mapM_cons, Option.bind_eq_bind, Option.bind_eq_some_iff, Option.map_eq_some_iff] at hp
    obtain ⟨y, ⟨q, hq, x, hx, rfl⟩, ys, hys, hpp⟩ := hp
    simp at hpp; subst hpp
    obtain ⟨off, n⟩ := q
    simp only [fillP, Option.bind_eq_some_iff] at h
    obtain ⟨p, hp, h⟩ := h
    split at h
    case isFalse => cases h
    rename_i hc
    obtain ⟨hc1, hc2, hc3⟩ := hc
    obtain ⟨g1, g2, g3⟩ := (ev_rep hs hx hp).cells hc3
    have hsz : (a.eval X).cells.size = n := by simpa [hc1] using g1
    have hle : off + (a.eval X).cells.size ≤ vs.size := by rw [hsz, hl.1]; exact hc2
    obtain ⟨s1, s2⟩ := foldl_setA (a.eval X).cells off vs hle
    have hl' : Like w ok β ((a.eval X).cells.zipIdx.foldl (fun cs (c, j) => cs.setIfInBounds (off + j) c) vs) (splice cs off p.cells) := by
      refine ⟨by rw [s1, splice_len (by omega)]; exact hl.1, fun c hcm => ?_, fun j c hj => ?_⟩
      · rcases splice_mem hcm with h' | h'
        · exact hl.2.1 c h'
        · exact g2 c h'
      · rw [s2 j]
        rw [splice_get (by omega)] at hj
        rw [hsz]
        rw [hc1] at hj
        split
        · rename_i hr
          rw [if_pos hr] at hj
          have hlt : j - off < (a.eval X).cells.toList.length := by simp; omega
          exact ⟨_, List.getElem?_eq_getElem hlt, g3 _ c _ hj (List.getElem?_eq_getElem hlt)⟩
        · rename_i hr
          rw [if_neg hr] at hj
          exact hl.2.2 j c hj
    obtain ⟨vr, hvr, hlr⟩ := fill_build hs pl parts ys _ _ r hys hl' h
    refine ⟨vr, ?_, hlr⟩
    simp only [List.map_cons, Instr.fill, hq]
    rw [if_neg (by simp; exact ⟨hsz, hle⟩)]
    exact hvr

theorem like_zero {T : TypeId} {z : List PV} (hz : tyZero P T = some z) : ∃ v, (zeroValue T).run P w = .ok v w ∧ Like w ok β v.cells z := by
  obtain ⟨v, hv, hm⟩ := run_zero (w := w) hz
  obtain ⟨h1, h2, h3⟩ := ofVals_rep (w := w) (ok := ok) (β := β) hm
  have hsz : v.cells.size = z.length := by simpa using h1
  exact ⟨v, hv, hsz, h2, fun j c hj => by
    have hlt : j < v.cells.size := by have := (List.getElem?_eq_some_iff.1 hj).1; omega
    exact ⟨v.cells[j], by simp [hlt], h3 j c _ hj (by simp [hlt])⟩⟩

theorem Like.agg {vs : Array Value} {cs : List PV} (h : Like w ok β vs cs) : Rep w ok β (.agg cs) (.agg vs) := by
  have := Rep.agg (w := w) (ok := ok) (β := β) cs vs.toList (by simpa using h.1) h.2.1 (fun j c v hc hv => by
    obtain ⟨u, hu, hr⟩ := h.2.2 j c hc
    simp at hv
    rw [hv] at hu; injection hu with hu; exact hu ▸ hr)
  simpa using this

theorem mapM_places {fs : Array Field} : ∃ r, (fs.mapM fun f => do pure (f.offset, ← sizeOf f.type) : Sem (Array (Nat × Nat))).run P w = .ok r w → True := ⟨#[], fun _ => trivial⟩

theorem run_mapM_arr {α γ : Type} (f : α → Sem γ) (g : α → Option γ) (hf : ∀ x y, g x = some y → (f x).run P w = .ok y w) :
    ∀ (l : List α) (r : List γ), l.mapM g = some r → (l.mapM f).run P w = .ok r w
  | [], r, h => by simp at h; subst h; simp
  | x :: l, r, h => by
    simp only [List.mapM_cons, Option.bind_eq_bind, Option.bind_eq_some_iff] at h
    obtain ⟨y, hy, ys, hys, hr⟩ := h
    simp at hr; subst hr
    simp [List.mapM_cons, hf x y hy, run_mapM_arr f g hf l ys hys]

theorem op_buildS (hs : Sat0 F β ok e m a w) {t : TypeId} {fs : Array Field} {parts : Array (Nat × Operand)} {z : List PV} {ps : List (Nat × Nat × XA)} {pls : List (Nat × Nat)}
    (ho : o.op = .build t parts) (hu : P.underlying t = some (.struct fs)) (hz : tyZero P t = some z) (hpl : fs.toList.mapM (fun f => (tySize P f.type).map fun k => (f.offset, k)) = some pls)
    (hp : cParts parts.toList (fun (i : Nat) => pls[i]?) = some ps)
    (h : vopF (.build z ps) e m b = some (p, d)) : OpOk P F β ok e m a w b o p d := by
  simp only [vopF, Option.bind_eq_some_iff] at h
  obtain ⟨r, hr, h⟩ := h
  simp at h
  obtain ⟨rfl, rfl⟩ := h
  obtain ⟨v, hv, hl⟩ := like_zero (P := P) (w := w) (ok := ok) (β := β) hz
  have hpe : (fun (i : Nat) => pls[i]?) = (pls.toArray[·]?) := by funext i; simp
  rw [hpe] at hp
  obtain ⟨vr, hvr, hlr⟩ := fill_build hs (pls.toArray[·]?) parts.toList ps v.cells z r hp hl hr
  refine .value hs (v := .agg vr) ?_ hlr.agg
  have hrun : (fs.mapM fun f => do pure (f.offset, ← sizeOf f.type) : Sem (Array (Nat × Nat))).run P w = .ok pls.toArray w := by
    have := run_mapM_arr (P := P) (w := w) (fun f : Field => (do pure (f.offset, ← sizeOf f.type) : Sem (Nat × Nat))) (fun f => (tySize P f.type).map fun k => (f.offset, k)) (fun x y hxy => by
      simp only [Option.map_eq_some_iff] at hxy
      obtain ⟨k, hk, rfl⟩ := hxy
      simp [run_sizeOf hk]) fs.toList pls hpl
    rw [← Array.toArray_toList (xs := fs), List.mapM_toArray]
    simp only [Sem.run_map, this, Result.andThen_ok]
  simp only [execOp, ho]
  refine exec_value ?_
  simp only [Instr.build, Sem.run_bind, hv, Result.andThen_ok, run_und hu, hrun]
  have : (parts.map fun (i, x) => (i, a.eval x)).toList = parts.toList.map fun (i, x) => (i, a.eval x) := by simp
  rw [this, hvr]
  rfl

theorem op_buildA (hs : Sat0 F β ok e m a w) {t el : TypeId} {len k : Nat} {parts : Array (Nat × Operand)} {z : List PV} {ps : List (Nat × Nat × XA)}
    (ho : o.op = .build t parts) (hu : P.underlying t = some (.array len el)) (hz : tyZero P t = some z) (hk : tySize P el = some k)
    (hp : cParts parts.toList (fun i => some (i * k, k)) = some ps) (h : vopF (.build z ps) e m b = some (p, d)) : OpOk P F β ok e m a w b o p d := by
  simp only [vopF, Option.bind_eq_some_iff] at h
  obtain ⟨r, hr, h⟩ := h
  simp at h
  obtain ⟨rfl, rfl⟩ := h
  obtain ⟨v, hv, hl⟩ := like_zero (P := P) (w := w) (ok := ok) (β := β) hz
  obtain ⟨vr, hvr, hlr⟩ := fill_build hs (fun i => some (i * k, k)) parts.toList ps v.cells z r hp hl hr
  refine .value hs (v := .agg vr) ?_ hlr.agg
  simp only [execOp, ho]
  refine exec_value ?_
  simp only [Instr.build, Sem.run_bind, hv, Result.andThen_ok, run_und hu, run_sizeOf hk]
  have : (parts.map fun (i, x) => (i, a.eval x)).toList = parts.toList.map fun (i, x) => (i, a.eval x) := by simp
  rw [this, hvr]
  rfl

end
end Go.Vx
