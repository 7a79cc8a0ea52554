/- The engine, part 8: literals, stores, append, slices of slices. -/
import Derived.Test.YtfeobpjoifffiaaGA
import Derived.IntWalk
import Derived.Laws.StructEq
import Derived.MapKept
set_option linter.unusedVariables false
set_option linter.unusedSimpArgs false
namespace Go.Vx
open Go Go.RowKit

section lists
variable {α : Type}

theorem splice_len {cs ps : List PV} {j : Nat} (h : j + ps.length ≤ cs.length) : (splice cs j ps).length = cs.length := by simp [splice]; omega

theorem splice_get {cs ps : List PV} {j : Nat} (h : j + ps.length ≤ cs.length) (q : Nat) : (splice cs j ps)[q]? = if j ≤ q ∧ q < j + ps.length then ps[q - j]? else cs[q]? := by
  unfold splice
  by_cases h1 : q < j
  · rw [if_neg (by omega), List.append_assoc, List.getElem?_append_left (by simp; omega), List.getElem?_take_of_lt h1]
  · by_cases h2 : q < j + ps.length
    · rw [if_pos (by omega), List.append_assoc, List.getElem?_append_right (by simp; omega), List.getElem?_append_left (by simp; omega)]
      congr 1
      simp; omega
    · rw [if_neg (by omega), List.getElem?_append_right (by simp; omega), List.getElem?_drop]
      congr 1
      simp; omega

theorem splice_mem {cs ps : List PV} {j : Nat} {c : PV} (h : c ∈ splice cs j ps) : c ∈ cs ∨ c ∈ ps := by
  simp only [splice, List.mem_append] at h
  rcases h with (h | h) | h
  · exact .inl (List.mem_of_mem_take h)
  · exact .inr h
  · exact .inl (List.mem_of_mem_drop h)

theorem set_len {k : Nat} {xs : List (List α)} {i : Nat} {y : List α} (hk : ∀ x ∈ xs, x.length = k) (hy : y.length = k) : ∀ x ∈ xs.set i y, x.length = k := by
  intro x hx
  rcases List.mem_or_eq_of_mem_set hx with h | h
  · exact hk x h
  · exact h ▸ hy

theorem flat_set {k : Nat} {xs : List (List α)} {i : Nat} {y : List α} (hk : ∀ x ∈ xs, x.length = k) (hy : y.length = k) (hi : i < xs.length) (q : Nat) (u : α) (h : (xs.set i y).flatten[q]? = some u) :
    if i * k ≤ q ∧ q < i * k + k then y[q - i * k]? = some u else xs.flatten[q]? = some u := by
  obtain ⟨i', j, c, rfl, hj, hc, hu⟩ := flat_inv (set_len hk hy) h
  by_cases he : i' = i
  · subst he
    rw [List.getElem?_set_self hi] at hc
    injection hc with hc; subst hc
    rw [if_pos (by omega)]
    rw [show i' * k + j - i' * k = j by omega]; exact hu
  · rw [List.getElem?_set_ne (by omega)] at hc
    rw [if_neg]
    · exact flat_get hk hc hu
    · intro ⟨h1, h2⟩
      rcases Nat.lt_or_gt_of_ne he with hlt | hgt
      · have := Nat.mul_le_mul_right k (show i' + 1 ≤ i from hlt)
        rw [Nat.add_mul] at this; omega
      · have := Nat.mul_le_mul_right k (show i + 1 ≤ i' from hgt)
        rw [Nat.add_mul] at this; omega
end lists

section
variable {P : Program} {F : Fr} {β : Ids} {ok : Nat → Prop} {e : Nat → Option PV} {m : Mem} {a : Act} {w : World} {b : Nat} {o : Oper} {p : PV} {d : Delta}

theorem foldl_set (vs : List Value) : ∀ (i off : Nat) (cs : Array Value), off + i + vs.length ≤ cs.size →
    ((vs.zipIdx i).foldl (fun cs (c, j) => cs.setIfInBounds (off + j) c) cs).size = cs.size ∧
    ∀ q : Nat, ((vs.zipIdx i).foldl (fun cs (c, j) => cs.setIfInBounds (off + j) c) cs)[q]? = if off + i ≤ q ∧ q < off + i + vs.length then vs[q - (off + i)]? else cs[q]? := by
  induction vs with
  | nil => intro i off cs h; refine ⟨rfl, fun q => ?_⟩; rw [if_neg (by simp only [List.length_nil]; omega)]; rfl
  | cons v vs ih =>
    intro i off cs h
    simp only [List.zipIdx_cons, List.foldl_cons]
    obtain ⟨h1, h2⟩ := ih (i + 1) off (cs.setIfInBounds (off + i) v) (by simp at h ⊢; omega)
    refine ⟨by rw [h1]; simp, fun q => ?_⟩
    rw [h2 q]
    by_cases hq : q = off + i
    · subst hq
      rw [if_neg (by omega), if_pos (by simp)]
      have : off + i < cs.size := by simp at h; omega
      simp [this]
    · by_cases hq2 : off + (i + 1) ≤ q ∧ q < off + (i + 1) + vs.length
      · rw [if_pos hq2, if_pos (by simp; omega), show q - (off + i) = (q - (off + (i + 1))) + 1 by omega]
        simp
      · rw [if_neg hq2, if_neg (by simp; omega), Array.getElem?_setIfInBounds_ne (by omega)]

theorem foldl_setA (vs : Array Value) (off : Nat) (cs : Array Value) (h : off + vs.size ≤ cs.size) :
    (vs.zipIdx.foldl (fun cs (c, j) => cs.setIfInBounds (off + j) c) cs).size = cs.size ∧
    ∀ q : Nat, (vs.zipIdx.foldl (fun cs (c, j) => cs.setIfInBounds (off + j) c) cs)[q]? = if off ≤ q ∧ q < off + vs.size then vs.toList[q - off]? else cs[q]? := by
  have := foldl_set vs.toList 0 off cs (by simpa using h)
  rw [← Array.foldl_toList, Array.toList_zipIdx]
  simpa using this

/-- The cells of a literal, pointwise. -/
def Like (w : World) (ok : Nat → Prop) (β : Ids) (vs : Array Value) (cs : List PV) : Prop :=
  vs.size = cs.length ∧ (∀ c ∈ cs, c.one = true) ∧ ∀ (j : Nat) c, cs[j]? = some c → ∃ u, vs[j]? = some u ∧ Rep w ok β c u

theorem fill_build (hs : Sat0 F β ok e m a w) (pl : Nat → Option (Nat × Nat)) : ∀ (parts : List (Nat × Operand)) (ps : List (Nat × Nat × XA)) (vs : Array Value) (cs r : List PV), cParts parts pl = some ps → Like w ok β vs cs →
    fillP e cs ps = some r → ∃ vr, Instr.fill pl vs (parts.map fun (i, x) => (i, a.eval x)) = some vr ∧ Like w ok β vr r
  | [], ps, vs, cs, r, hp, hl, h => by
    simp [cParts] at hp; subst hp
    simp [fillP] at h; subst h
    exact ⟨vs, rfl, hl⟩
  | (i, X) :: parts, ps, vs, cs, r, hp, hl, h => by
    simp only [cParts, List.mapM_cons, Option.bind_eq_bind, Option.bind_eq_some_iff, Option.map_eq_some_iff] at hp
    obtain ⟨y, ⟨q, hq, x, hx, rfl⟩, ys, hys, hpp⟩ := hp
    simp at hpp; subst hpp
    obtain ⟨off, n⟩ := q
    simp only [fillP, Option.bind_eq_some_iff] at h
    obtain ⟨p, hp, h⟩ := h
    split at h
    case isFalse => cases h
    rename_i hc
    obtain ⟨hc1, hc2, hc3⟩ := hc
    obtain ⟨g1, g2, g3⟩ := (ev_rep hs hx hp).cells hc3
    have hsz : (a.eval X).cells.size = n := by simpa [hc1] using g1
    have hle : off + (a.eval X).cells.size ≤ vs.size := by rw [hsz, hl.1]; exact hc2
    obtain ⟨s1, s2⟩ := foldl_setA (a.eval X).cells off vs hle
    have hl' : Like w ok β ((a.eval X).cells.zipIdx.foldl (fun cs (c, j) => cs.setIfInBounds (off + j) c) vs) (splice cs off p.cells) := by
      refine ⟨by rw [s1, splice_len (by omega)]; exact hl.1, fun c hcm => ?_, fun j c hj => ?_⟩
      · rcases splice_mem hcm with h' | h'
        · exact hl.2.1 c h'
        · exact g2 c h'
      · rw [s2 j]
        rw [splice_get (by omega)] at hj
        rw [hsz]
        rw [hc1] at hj
        split
        · rename_i hr
          rw [if_pos hr] at hj
          have hlt : j - off < (a.eval X).cells.toList.length := by simp; omega
          exact ⟨_, List.getElem?_eq_getElem hlt, g3 _ c _ hj (List.getElem?_eq_getElem hlt)⟩
        · rename_i hr
          rw [if_neg hr] at hj
          exact hl.2.2 j c hj
    obtain ⟨vr, hvr, hlr⟩ := fill_build hs pl parts ys _ _ r hys hl' h
    refine ⟨vr, ?_, hlr⟩
    simp only [List.map_cons, Instr.fill, hq]
    rw [if_neg (by simp; exact ⟨hsz, hle⟩)]
    exact hvr

theorem like_zero {T : TypeId} {z : List PV} (hz : tyZero P T = some z) : ∃ v, (zeroValue T).run P w = .ok v w ∧ Like w ok β v.cells z := by
  obtain ⟨v, hv, hm⟩ := run_zero (w := w) hz
  obtain ⟨h1, h2, h3⟩ := ofVals_rep (w := w) (ok := ok) (β := β) hm
  have hsz : v.cells.size = z.length := by simpa using h1
  exact ⟨v, hv, hsz, h2, fun j c hj => by
    have hlt : j < v.cells.size := by have := (List.getElem?_eq_some_iff.1 hj).1; omega
    exact ⟨v.cells[j], by simp [hlt], h3 j c _ hj (by simp [hlt])⟩⟩

theorem Like.agg {vs : Array Value} {cs : List PV} (h : Like w ok β vs cs) : Rep w ok β (.agg cs) (.agg vs) := by
  have := Rep.agg (w := w) (ok := ok) (β := β) cs vs.toList (by simpa using h.1) h.2.1 (fun j c v hc hv => by
    obtain ⟨u, hu, hr⟩ := h.2.2 j c hc
    simp at hv
    rw [hv] at hu; injection hu with hu; exact hu ▸ hr)
  simpa using this

theorem mapM_places {fs : Array Field} : ∃ r, (fs.mapM fun f => do pure (f.offset, ← sizeOf f.type) : Sem (Array (Nat × Nat))).run P w = .ok r w → True := ⟨#[], fun _ => trivial⟩

theorem run_mapM_arr {α γ : Type} (f : α → Sem γ) (g : α → Option γ) (hf : ∀ x y, g x = some y → (f x).run P w = .ok y w) :
    ∀ (l : List α) (r : List γ), l.mapM g = some r → (l.mapM f).run P w = .ok r w
  | [], r, h => by simp at h; subst h; simp
  | x :: l, r, h => by
    simp only [List.mapM_cons, Option.bind_eq_bind, Option.bind_eq_some_iff] at h
    obtain ⟨y, hy, ys, hys, hr⟩ := h
    simp at hr; subst hr
    simp [List.mapM_cons, hf x y hy, run_mapM_arr f g hf l ys hys]

theorem op_buildS (hs : Sat0 F β ok e m a w) {t : TypeId} {fs : Array Field} {parts : Array (Nat × Operand)} {z : List PV} {ps : List (Nat × Nat × XA)} {pls : List (Nat × Nat)}
    (ho : o.op = .build t parts) (hu : P.underlying t = some (.struct fs)) (hz : tyZero P t = some z) (hpl : fs.toList.mapM (fun f => (tySize P f.type).map fun k => (f.offset, k)) = some pls)
    (hp : cParts parts.toList (fun (i : Nat) => pls[i]?) = some ps)
    (h : vopF (.build z ps) e m b = some (p, d)) : OpOk P F β ok e m a w b o p d := by
  simp only [vopF, Option.bind_eq_some_iff] at h
  obtain ⟨r, hr, h⟩ := h
  simp at h
  obtain ⟨rfl, rfl⟩ := h
  obtain ⟨v, hv, hl⟩ := like_zero (P := P) (w := w) (ok := ok) (β := β) hz
  have hpe : (fun (i : Nat) => pls[i]?) = (pls.toArray[·]?) := by funext i; simp
  rw [hpe] at hp
  obtain ⟨vr, hvr, hlr⟩ := fill_build hs (pls.toArray[·]?) parts.toList ps v.cells z r hp hl hr
  refine .value hs (v := .agg vr) ?_ hlr.agg
  have hrun : (fs.mapM fun f => do pure (f.offset, ← sizeOf f.type) : Sem (Array (Nat × Nat))).run P w = .ok pls.toArray w := by
    have := run_mapM_arr (P := P) (w := w) (fun f : Field => (do pure (f.offset, ← sizeOf f.type) : Sem (Nat × Nat))) (fun f => (tySize P f.type).map fun k => (f.offset, k)) (fun x y hxy => by
      simp only [Option.map_eq_some_iff] at hxy
      obtain ⟨k, hk, rfl⟩ := hxy
      simp [run_sizeOf hk]) fs.toList pls hpl
    rw [← Array.toArray_toList (xs := fs), List.mapM_toArray]
    simp only [Sem.run_map, this, Result.andThen_ok]
  simp only [execOp, ho]
  refine exec_value ?_
  simp only [Instr.build, Sem.run_bind, hv, Result.andThen_ok, run_und hu, hrun]
  have : (parts.map fun (i, x) => (i, a.eval x)).toList = parts.toList.map fun (i, x) => (i, a.eval x) := by simp
  rw [this, hvr]
  rfl

theorem op_buildA (hs : Sat0 F β ok e m a w) {t el : TypeId} {len k : Nat} {parts : Array (Nat × Operand)} {z : List PV} {ps : List (Nat × Nat × XA)}
    (ho : o.op = .build t parts) (hu : P.underlying t = some (.array len el)) (hz : tyZero P t = some z) (hk : tySize P el = some k)
    (hp : cParts parts.toList (fun i => some (i * k, k)) = some ps) (h : vopF (.build z ps) e m b = some (p, d)) : OpOk P F β ok e m a w b o p d := by
  simp only [vopF, Option.bind_eq_some_iff] at h
  obtain ⟨r, hr, h⟩ := h
  simp at h
  obtain ⟨rfl, rfl⟩ := h
  obtain ⟨v, hv, hl⟩ := like_zero (P := P) (w := w) (ok := ok) (β := β) hz
  obtain ⟨vr, hvr, hlr⟩ := fill_build hs (fun i => some (i * k, k)) parts.toList ps v.cells z r hp hl hr
  refine .value hs (v := .agg vr) ?_ hlr.agg
  simp only [execOp, ho]
  refine exec_value ?_
  simp only [Instr.build, Sem.run_bind, hv, Result.andThen_ok, run_und hu, run_sizeOf hk]
  have : (parts.map fun (i, x) => (i, a.eval x)).toList = parts.toList.map fun (i, x) => (i, a.eval x) := by simp
  rw [this, hvr]
  rfl

end
end Go.Vx
/- The engine, part 9: rows: literals, make, stores, append; parts of slices; struct equality. -/
set_option linter.unusedVariables false
set_option linter.unusedSimpArgs false
namespace Go.Vx
open Go Go.RowKit

section
variable {P : Program} {F : Fr} {β : Ids} {ok : Nat → Prop} {e : Nat → Option PV} {m : Mem} {a : Act} {w : World} {b : Nat} {o : Oper} {p : PV} {d : Delta}

/-- A row's cells, pointwise. -/
def LikeR (w : World) (ok : Nat → Prop) (k : Nat) (vs : Array Value) (xs : List (List PV)) : Prop :=
  vs.size = xs.length * k ∧ (∀ x ∈ xs, x.length = k) ∧ (∀ c ∈ xs.flatten, c.one = true) ∧ ∀ (j : Nat) c, xs.flatten[j]? = some c → ∃ u, vs[j]? = some u ∧ Rep w ok noIds c u

theorem likeR_zero {T : TypeId} {z : List PV} {k : Nat} (hz : tyZero P T = some z) (hk : z.length = k) (hk0 : 0 < k) (n : Nat) : ∃ v, (zeroValue T).run P w = .ok v w ∧
    LikeR w ok k ((Array.range (n * k)).map (v.cells[· % v.cells.size]!)) (List.replicate n z) := by
  obtain ⟨v, hv, hl1, hl2, hl3⟩ := like_zero (P := P) (w := w) (ok := ok) (β := noIds) hz
  refine ⟨v, hv, by simp, fun x hx => by rw [List.eq_of_mem_replicate hx, hk], fun c hc => ?_, fun j c hj => ?_⟩
  · obtain ⟨x, hx, hc⟩ := List.mem_flatten.1 hc
    rw [List.eq_of_mem_replicate hx] at hc
    exact hl2 c hc
  · have hkk : ∀ x ∈ List.replicate n z, x.length = k := fun x hx => by rw [List.eq_of_mem_replicate hx, hk]
    have hlt := (List.getElem?_eq_some_iff.1 hj).1
    rw [flat_len hkk] at hlt
    obtain ⟨i, t, x, rfl, ht, hx, hxt⟩ := flat_inv hkk hj
    have hxz : x = z := List.eq_of_mem_replicate (List.mem_of_getElem? hx)
    subst hxz
    obtain ⟨u, hu, hr⟩ := hl3 t c hxt
    refine ⟨u, ?_, hr⟩
    simp at hlt
    have hsz : v.cells.size = k := by omega
    rw [Array.getElem?_map]
    simp [hlt]
    rw [hsz, show (i * k + t) % k = t by rw [Nat.mul_comm, Nat.mul_add_mod]; exact Nat.mod_eq_of_lt ht]
    simp [getElem!_def, hu]

theorem fill_row (hs : Sat0 F β ok e m a w) {k : Nat} : ∀ (parts : List (Nat × Operand)) (ps : List (Nat × XA)) (vs : Array Value) (xs r : List (List PV)), cParts1 parts = some ps → LikeR w ok k vs xs →
    fillR e m k xs ps = some r → r.length = xs.length ∧ ∃ vr, Instr.fill (fun i => some (i * k, k)) vs (parts.map fun (i, x) => (i, a.eval x)) = some vr ∧ LikeR w ok k vr r
  | [], ps, vs, xs, r, hp, hl, h => by
    simp [cParts1] at hp; subst hp
    simp [fillR] at h; subst h
    exact ⟨rfl, vs, rfl, hl⟩
  | (i, X) :: parts, ps, vs, xs, r, hp, hl, h => by
    simp only [cParts1, List.mapM_cons, Option.bind_eq_bind, Option.bind_eq_some_iff, Option.map_eq_some_iff] at hp
    obtain ⟨y, ⟨x, hx, rfl⟩, ys, hys, hpp⟩ := hp
    simp at hpp; subst hpp
    simp only [fillR, Option.bind_eq_some_iff] at h
    obtain ⟨p, hp, q, hq, h⟩ := h
    split at h
    case isFalse => cases h
    rename_i hc
    obtain ⟨hc1, hc2⟩ := hc
    obtain ⟨hrq, hqt⟩ := purA_rep hs.mem hq (ev_rep hs hx hp)
    obtain ⟨g1, g2, g3⟩ := hrq.cells hqt
    have hsz : (a.eval X).cells.size = k := by simpa [hc1] using g1
    have hmul : i * k + k ≤ xs.length * k := by
      have := Nat.mul_le_mul_right k (show i + 1 ≤ xs.length from hc2)
      rw [Nat.add_mul] at this; omega
    have hle : i * k + (a.eval X).cells.size ≤ vs.size := by rw [hsz, hl.1]; exact hmul
    obtain ⟨s1, s2⟩ := foldl_setA (a.eval X).cells (i * k) vs hle
    have hl' : LikeR w ok k ((a.eval X).cells.zipIdx.foldl (fun cs (c, j) => cs.setIfInBounds (i * k + j) c) vs) (xs.set i q.cells) := by
      refine ⟨by rw [s1]; simpa using hl.1, set_len hl.2.1 hc1, fun c hcm => ?_, fun j c hj => ?_⟩
      · obtain ⟨x', hx', hcx⟩ := List.mem_flatten.1 hcm
        rcases List.mem_or_eq_of_mem_set hx' with h' | h'
        · exact hl.2.2.1 c (mem_flat h' hcx)
        · exact g2 c (h' ▸ hcx)
      · have hj' := flat_set hl.2.1 hc1 hc2 j c hj
        rw [s2 j, hsz]
        split at hj'
        · rename_i hr
          rw [if_pos hr]
          have hlt : j - i * k < (a.eval X).cells.toList.length := by simp; omega
          exact ⟨_, List.getElem?_eq_getElem hlt, g3 _ c _ hj' (List.getElem?_eq_getElem hlt)⟩
        · rename_i hr
          rw [if_neg hr]
          exact hl.2.2.2 j c hj'
    obtain ⟨hrl, vr, hvr, hlr⟩ := fill_row hs parts ys _ _ r hys hl' h
    refine ⟨by rw [hrl]; simp, vr, ?_, hlr⟩
    simp only [List.map_cons, Instr.fill]
    rw [if_neg (by simp; exact ⟨hsz, hle⟩)]
    exact hvr

theorem slElem_some {t : TypeId} {T k bytes : Nat} (h : slElem P t = some (T, k, bytes)) : P.underlying t = some (.slice T) ∧ 0 < k ∧ tySize P T = some k ∧ ∃ i, P.info? T = some i ∧ i.size = k ∧ i.bytes = bytes ∧ 0 < bytes := by
  unfold slElem at h
  split at h
  case h_2 => cases h
  rename_i el hu
  cases hi : P.info? el with
  | none => simp [hi] at h
  | some i =>
    simp [hi] at h
    obtain ⟨⟨h0, hb0⟩, rfl, rfl, rfl⟩ := h
    exact ⟨hu, h0, by simp [tySize, hi], i, hi, rfl, rfl, hb0⟩

theorem op_mkrow (hs : Sat0 F β ok e m a w) (hb : β b = none) {t : TypeId} {T k bytes len : Nat} {parts : Array (Nat × Operand)} {z : List PV} {ps : List (Nat × XA)} (ho : o.op = .buildSlice t len parts)
    (hu : slElem P t = some (T, k, bytes)) (hz : tyZero P T = some z) (hlen : len * k ≤ 2 ^ 24) (hp : cParts1 parts.toList = some ps) (h : vopF (.mkrow T k len z ps) e m b = some (p, d)) :
    OpOk P F β ok e m a w b o p d := by
  obtain ⟨hu1, hk0, hsz, i, hi, hi1, hi2, hb0⟩ := slElem_some hu
  simp only [vopF] at h
  split at h
  case isFalse => cases h
  rename_i hzk
  simp only [Option.bind_eq_some_iff] at h
  obtain ⟨r, hr, h⟩ := h
  simp at h
  obtain ⟨rfl, rfl⟩ := h
  obtain ⟨v, hv, hl⟩ := likeR_zero (P := P) (w := w) (ok := ok) hz hzk hk0 len
  obtain ⟨hrl, vr, hvr, hlr⟩ := fill_row hs parts.toList ps _ _ r hp hl hr
  have hrl' : r.length = len := by simpa using hrl
  subst hrl'
  refine .newRow hs hb (vs := vr) (cap := r.length) ?_ hlr.1 (Nat.le_refl _) (by simp only [maxLen]; have := Nat.le_mul_of_pos_right r.length hk0; omega) hlr.2.1 hlr.2.2.1 hlr.2.2.2
  have hpt : (parts.map fun x => (x.1, a.eval x.2)).toList = parts.toList.map fun (i, x) => (i, a.eval x) := by simp
  simp only [execOp, ho, Instr.buildSlice, Sem.run_bind, run_und hu1, Result.andThen_ok, run_sizeOf hsz]
  rw [if_neg (by omega)]
  by_cases h0 : r.length * k = 0
  · simp only [h0, if_true, Sem.run_bind, Sem.run_pure, Result.andThen_ok]
    have hvr' : vr = #[] := by
      have := hlr.1
      rw [h0] at this
      exact Array.eq_empty_of_size_eq_zero this
    have hr0 : ∀ f : Nat → Value, (Array.range 0).map f = #[] := fun f => Array.eq_empty_of_size_eq_zero (by simp)
    have hvr2 := hvr
    rw [h0, hr0] at hvr2
    rw [hr0, hpt, hvr2]
    rfl
  · simp only [h0, if_false, Sem.run_bind, hv, Result.andThen_ok, Sem.run_pure]
    rw [hpt, hvr]
    rfl

theorem op_mkslice (hs : Sat0 F β ok e m a w) (hb : β b = none) {t : TypeId} {T k bytes : Nat} {L C : Operand} {l c : XA} {z : List PV} (ho : o.op = .makeSlice t L C)
    (hu : slElem P t = some (T, k, bytes)) (hz : tyZero P T = some z) (hL : cA L = some l) (hC : cA C = some c) (h : vopF (.mkslice T k bytes z l c) e m b = some (p, d)) :
    OpOk P F β ok e m a w b o p d := by
  obtain ⟨hu1, hk0, hsz, i, hi, hi1, hi2, hb0⟩ := slElem_some hu
  simp only [vopF, Option.bind_eq_some_iff] at h
  obtain ⟨pl, hpl, pc, hpc, n, hn, cap, hcap, h⟩ := h
  split at h
  case isFalse => cases h
  rename_i hc
  obtain ⟨hzk, hle, hby, hmax⟩ := hc
  simp at h
  obtain ⟨rfl, rfl⟩ := h
  obtain ⟨k1, hv1⟩ := idx_rep hn (ev_rep hs hL hpl)
  obtain ⟨k2, hv2⟩ := idx_rep hcap (ev_rep hs hC hpc)
  obtain ⟨v, hv, hl⟩ := likeR_zero (P := P) (w := w) (ok := ok) hz hzk hk0 cap
  have hsplit : List.replicate cap z = List.replicate n z ++ List.replicate (cap - n) z := by rw [List.replicate_append_replicate]; congr 1; omega
  have hlen : (List.replicate n z).length = n := by simp
  have hw : ∀ q : Nat, q ≤ maxLen → IntKind.i64.wrap (q : Int) = (q : Int) := fun q hq => by
    simp only [maxLen] at hq
    exact IntWalk.i64_in _ (by omega)
  have key := OpOk.newRow (P := P) (o := o) hs hb (T := T) (xs := List.replicate n z) (vs := (Array.range (cap * k)).map (v.cells[· % v.cells.size]!)) (k := k) (cap := cap) ?_ (by simp) (by simpa using hle) hmax
    (fun x hx => by rw [List.eq_of_mem_replicate hx, hzk]) (fun c hc => hl.2.2.1 c (by rw [hsplit, List.flatten_append]; exact List.mem_append_left _ hc)) (fun j c hj => hl.2.2.2 j c (by
      rw [hsplit, List.flatten_append, List.getElem?_append_left (List.getElem?_eq_some_iff.1 hj).1]; exact hj))
  · rw [hlen] at key; exact key
  · rw [hlen]
    have hby' : (bytes : Int) * (cap : Int) ≤ 281474976710656 := by rw [Int.mul_comm, ← Int.natCast_mul]; omega
    have hnt : (decide ((cap : Int) < 0) || decide ((bytes : Int) * (cap : Int) > 2 ^ 48) || decide ((n : Int) < 0) || decide ((n : Int) > (cap : Int))) = false := by
      have g1 : ¬ ((cap : Int) < 0) := by omega
      have g2 : ¬ ((bytes : Int) * (cap : Int) > 2 ^ 48) := by rw [show ((2 : Int) ^ 48) = 281474976710656 from rfl]; omega
      have g3 : ¬ ((n : Int) < 0) := by omega
      have g4 : ¬ ((n : Int) > (cap : Int)) := by omega
      rw [decide_eq_false g1, decide_eq_false g2, decide_eq_false g3, decide_eq_false g4]
      rfl
    simp only [execOp, ho, Instr.makeSlice, Sem.run_bind, run_und hu1, Result.andThen_ok, hv1, hv2, asInt, asIntOf, Sem.run_pure, run_info hi, hw n (by omega), hw cap hmax, hi2, hnt, Bool.false_eq_true, if_false]
    simp only [Sem.run_bind, Sem.run_pure, run_askRoom, Result.andThen_ok, run_sizeOf hsz, Int.toNat_natCast]
    by_cases h0 : cap * k = 0
    · have hr0 : ∀ f : Nat → Value, (Array.range 0).map f = #[] := fun f => Array.eq_empty_of_size_eq_zero (by simp)
      simp only [h0, if_true, Sem.run_bind, Sem.run_pure, Result.andThen_ok, hr0]
      rfl
    · simp only [h0, if_false, Sem.run_bind, hv, Result.andThen_ok, Sem.run_pure]
      rfl

end
end Go.Vx
/- The engine, part 10: stores, append, parts of values, struct equality. -/
set_option linter.unusedVariables false
set_option linter.unusedSimpArgs false
namespace Go.Vx
open Go Go.RowKit

section
variable {P : Program} {F : Fr} {β : Ids} {ok : Nat → Prop} {e : Nat → Option PV} {m : Mem} {a : Act} {w : World} {b : Nat} {o : Oper} {p : PV} {d : Delta}

theorem op_store (hs : Sat0 F β ok e m a w) {t : TypeId} {n : Nat} {X Y : Operand} {x y : XA} (ho : o.op = .store t X Y) (hn : tySize P t = some n) (hx : cA X = some x) (hy : cA Y = some y)
    (h : vopF (.store n x y) e m b = some (p, d)) : OpOk P F β ok e m a w b o p d := by
  simp only [vopF, Option.bind_eq_some_iff] at h
  obtain ⟨px, hpx, py, hpy, h⟩ := h
  have hrx := ev_rep hs hx hpx
  have hry := ev_rep hs hy hpy
  cases px <;> simp only [reduceCtorEq] at h
  rename_i id k i j
  generalize hv : a.eval X = vx at hrx
  generalize hu : a.eval Y = vy at hry
  cases hrx with
  | ptr _ _ _ _ bl cap hb =>
    cases hid : m id with
    | none => simp [hid] at h
    | some ob =>
      rw [hid] at h
      obtain ⟨l, hl, hob⟩ := hs.mem.objs id ob hid
      rw [hb] at hl; injection hl with hl; subst hl
      cases ob with
      | map es => simp at h
      | iter => simp at h
      | loop => simp at h
      | box cs T =>
        dsimp only at h
        split at h
        case isFalse => cases h
        rename_i hc
        obtain ⟨hc1, hc2, hc3, hc4⟩ := hc
        subst hc2
        simp at h
        obtain ⟨rfl, rfl⟩ := h
        obtain ⟨⟨cur, g1, g2, g3, g4⟩, g5⟩ := hob
        obtain ⟨q1, q2, q3⟩ := hry.cells hc4
        have hsz : vy.cells.size = n := by simpa [hc1] using q1
        obtain ⟨w', cur', hrun, st⟩ := run_storeVar (P := P) bl (0 * k + j) T w cur vy hn hsz g1 (fun u hu => by
          obtain ⟨t, ht, rfl⟩ := List.getElem_of_mem hu
          exact (q3 t _ _ (List.getElem?_eq_getElem (by omega)) (List.getElem?_eq_getElem ht)).one_of (q2 _ (List.getElem_mem (by omega)))) (by omega)
        refine ⟨undef, w', β, .inr ⟨?_, rfl⟩, .tup [] [] rfl (by simp), ?_, fun _ _ => rfl⟩
        · simp only [execOp, ho, Instr.storeAt, hv, hu, Instr.sureAddr, Sem.run_bind, Sem.run_pure, Result.andThen_ok, hrun]
        · refine hs.change hid rfl rfl hb st.os st.tape st.output st.size st.drawn st.other fun hmono _ => ⟨⟨cur', st.block, ?_, fun c hcm => ?_, fun q c hq => ?_⟩, g5⟩
          · rw [st.csize, g2, splice_len (by omega)]
          · rcases splice_mem hcm with h' | h'
            · exact g3 c h'
            · exact q2 c h'
          · rw [splice_get (by omega)] at hq
            rw [st.cell q]
            have hlen : vy.cells.toList.length = n := by simpa using hsz
            split at hq
            · rename_i hr
              rw [if_pos (by omega)]
              have hlt : q - (0 * k + j) < vy.cells.toList.length := by omega
              refine ⟨_, List.getElem?_eq_getElem hlt, hmono _ _ (q3 _ c _ ?_ (List.getElem?_eq_getElem hlt))⟩
              rw [← hq]; congr 1; omega
            · rename_i hr
              rw [if_neg (by omega)]
              obtain ⟨u, hu1, hu2⟩ := g4 q c hq
              exact ⟨u, hu1, hmono _ _ hu2⟩
      | row k' xs T fz =>
        cases fz with
        | true => simp at h
        | false =>
          simp only [Option.bind_eq_some_iff] at h
          obtain ⟨q, hq, r, hr, h⟩ := h
          split at h
          case isFalse => cases h
          rename_i hc
          obtain ⟨hc1, rfl, hc3⟩ := hc
          simp at h
          obtain ⟨rfl, rfl⟩ := h
          obtain ⟨⟨cur, g1, g2, g3, g4, g5, g6, g7⟩, g8, g9⟩ := hob
          obtain ⟨hrq, hqt⟩ := purA_rep hs.mem hq hry
          obtain ⟨q1, q2, q3⟩ := hrq.cells hqt
          have hsz : vy.cells.size = n := by simpa [hc1] using q1
          have hi : i < xs.length := (List.getElem?_eq_some_iff.1 hr).1
          have hrl : r.length = k' := g5 r (List.mem_of_getElem? hr)
          have hmul : i * k' + k' ≤ cap * k' := by
            have := Nat.mul_le_mul_right k' (show i + 1 ≤ cap by omega)
            rw [Nat.add_mul] at this; omega
          obtain ⟨w', cur', hrun, st⟩ := run_storeVar (P := P) bl (i * k' + j) T w cur vy hn hsz g1 (fun u hu => by
            obtain ⟨t, ht, rfl⟩ := List.getElem_of_mem hu
            exact (q3 t _ _ (List.getElem?_eq_getElem (by omega)) (List.getElem?_eq_getElem ht)).one_of (q2 _ (List.getElem_mem (by omega)))) (by omega)
          have hsl : (splice r j q.cells).length = k' := by rw [splice_len (by omega), hrl]
          refine ⟨undef, w', β, .inr ⟨?_, rfl⟩, .tup [] [] rfl (by simp), ?_, fun _ _ => rfl⟩
          · simp [execOp, ho, Instr.storeAt, hv, hu, Instr.sureAddr, hrun]
          · refine hs.change hid rfl rfl hb st.os st.tape st.output st.size st.drawn st.other fun _ hmono => ⟨⟨cur', st.block, by rw [st.csize, g2], by simpa using g3, g4, set_len g5 hsl, fun c hcm => ?_, fun t c ht => ?_⟩, by simp, g9⟩
            · obtain ⟨x', hx', hcx⟩ := List.mem_flatten.1 hcm
              rcases List.mem_or_eq_of_mem_set hx' with h' | h'
              · exact g6 c (mem_flat h' hcx)
              · subst h'
                rcases splice_mem hcx with h'' | h''
                · exact g6 c (mem_flat (List.mem_of_getElem? hr) h'')
                · exact q2 c h''
            · have ht' := flat_set g5 hsl hi t c ht
              rw [st.cell t]
              have hlen : vy.cells.toList.length = n := by simpa using hsz
              split at ht'
              · rename_i hin
                rw [splice_get (by omega)] at ht'
                split at ht'
                · rename_i hin2
                  rw [if_pos (by omega)]
                  have hlt : t - (i * k' + j) < vy.cells.toList.length := by omega
                  refine ⟨_, List.getElem?_eq_getElem hlt, hmono _ _ (q3 _ c _ ?_ (List.getElem?_eq_getElem hlt))⟩
                  rw [← ht']; congr 1; omega
                · rename_i hin2
                  rw [if_neg (by omega)]
                  have := flat_get g5 hr ht'
                  rw [show i * k' + (t - i * k') = t by omega] at this
                  obtain ⟨u, hu1, hu2⟩ := g7 t c this
                  exact ⟨u, hu1, hmono _ _ hu2⟩
              · rename_i hin
                rw [if_neg (by omega)]
                obtain ⟨u, hu1, hu2⟩ := g7 t c ht'
                exact ⟨u, hu1, hmono _ _ hu2⟩

theorem part_agg {t : TypeId} {cs : Array Value} {off n : Nat} (hg : tyAgg P t = some true) (hn : tySize P t = some n) : (part t cs off).run P w = .ok (.agg (cs.extract off (off + n))) w := by
  simp [part, run_isAgg hg, run_sizeOf hn]
theorem part_one {t : TypeId} {cs : Array Value} {off : Nat} {v : Value} (hg : tyAgg P t = some false) (hv : cs[off]? = some v) : (part t cs off).run P w = .ok v w := by
  simp [part, run_isAgg hg, hv]

theorem op_field1 (hs : Sat0 F β ok e m a w) {t : TypeId} {fs : Array Field} {f : Field} {i : Nat} {X : Operand} {x : XA} (ho : o.op = .field t X i) (hu : P.underlying t = some (.struct fs)) (hf : fs[i]? = some f)
    (hg : tyAgg P f.type = some false) (hx : cA X = some x) (h : vopF (.field1 f.offset x) e m b = some (p, d)) : OpOk P F β ok e m a w b o p d := by
  simp only [vopF, Option.bind_eq_some_iff] at h
  obtain ⟨q, hq, h⟩ := h
  have hr := ev_rep hs hx hq
  generalize hv : a.eval X = vx at hr
  cases q <;> simp only [reduceCtorEq] at h
  simp only [Option.bind_eq_some_iff] at h
  obtain ⟨c, hc, h⟩ := h
  simp at h
  obtain ⟨rfl, rfl⟩ := h
  cases hr with
  | agg cs vs hl h1 hr =>
    have hlt : f.offset < vs.length := by have := (List.getElem?_eq_some_iff.1 hc).1; omega
    refine .value hs (v := vs[f.offset]) ?_ (hr _ _ _ hc (by simp [hlt]))
    simp only [execOp, ho]
    refine exec_value ?_
    simp only [Instr.field, Sem.run_bind, run_und hu, Result.andThen_ok, hf, hv, asAgg, Sem.run_pure]
    rw [part_one (v := vs[f.offset]) hg (by simp [hlt])]

theorem op_fieldn (hs : Sat0 F β ok e m a w) {t : TypeId} {fs : Array Field} {f : Field} {i n : Nat} {X : Operand} {x : XA} (ho : o.op = .field t X i) (hu : P.underlying t = some (.struct fs)) (hf : fs[i]? = some f)
    (hg : tyAgg P f.type = some true) (hn : tySize P f.type = some n) (hx : cA X = some x) (h : vopF (.fieldn f.offset n x) e m b = some (p, d)) : OpOk P F β ok e m a w b o p d := by
  simp only [vopF, Option.bind_eq_some_iff] at h
  obtain ⟨q, hq, h⟩ := h
  have hr := ev_rep hs hx hq
  generalize hv : a.eval X = vx at hr
  cases q <;> simp only [reduceCtorEq] at h
  split at h
  case isFalse => cases h
  rename_i hle
  simp at h
  obtain ⟨rfl, rfl⟩ := h
  cases hr with
  | agg cs vs hl h1 hr =>
    refine .value hs (v := .agg ((vs.drop f.offset).take n).toArray) ?_ ?_
    · simp only [execOp, ho]
      refine exec_value ?_
      simp only [Instr.field, Sem.run_bind, run_und hu, Result.andThen_ok, hf, hv, asAgg, Sem.run_pure]
      rw [part_agg hg hn]
      congr 2
      simp [List.extract_eq_take_drop]
    · refine .agg _ _ (by simp; omega) (fun c hc => h1 c (List.mem_of_mem_drop (List.mem_of_mem_take hc))) fun j c v hc hv => ?_
      have hj : j < n := by have := (List.getElem?_eq_some_iff.1 hc).1; simp at this; omega
      rw [List.getElem?_take_of_lt hj, List.getElem?_drop] at hc hv
      exact hr _ c v hc hv

theorem idxo_rep (hs : Sat0 F β ok e m a w) {n i : Nat} {X : Option Operand} {x : Option XA} (hx : cAo X = some x) (h : idxo n e x = some i) :
    (X = none ∧ i = n) ∨ ∃ Y k, X = some Y ∧ a.eval Y = .int k (i : Int) := by
  cases X with
  | none => simp [cAo] at hx; subst hx; simp [idxo] at h; exact .inl ⟨rfl, h.symm⟩
  | some Y =>
    simp [cAo] at hx
    obtain ⟨y, hy, rfl⟩ := hx
    simp only [idxo, Option.bind_eq_some_iff] at h
    obtain ⟨q, hq, hi⟩ := h
    obtain ⟨k, hk⟩ := idx_rep hi (ev_rep hs hy hq)
    exact .inr ⟨Y, k, rfl, hk⟩

theorem run_sliceBound {k : IntKind} {i y : Nat} (h : i ≤ y) (code : BoundsCode) : (Instr.sliceBound (.int k (i : Int)) y code).run P w = .ok i w := by
  simp [Instr.sliceBound, asIntOf, show (i : Int) ≤ (y : Int) by omega]

theorem run_bounds (hs : Sat0 F β ok e m a w) {isS : Bool} {n cap l h : Nat} {L H : Option Operand} {lo hi : Option XA} (hL : cAo L = some lo) (hH : cAo H = some hi) (hl : idxo 0 e lo = some l) (hh : idxo n e hi = some h)
    (h1 : l ≤ h) (h2 : h ≤ cap) : (Instr.sliceBounds isS n cap (L.map a.eval) (H.map a.eval) none).run P w = .ok (l, h, cap) w := by
  rcases idxo_rep hs hL hl with ⟨rfl, rfl⟩ | ⟨Y, k, rfl, hy⟩ <;> rcases idxo_rep hs hH hh with ⟨rfl, rfl⟩ | ⟨Z, k', rfl, hz⟩
  · simp [Instr.sliceBounds]
  · simp [Instr.sliceBounds, hz, run_sliceBound h2]
  · simp [Instr.sliceBounds, hy, run_sliceBound h1]
  · simp [Instr.sliceBounds, hy, hz, run_sliceBound h1, run_sliceBound h2]

theorem op_sliceT (hs : Sat0 F β ok e m a w) {t : TypeId} {X : Operand} {L H : Option Operand} {x : XA} {lo hi : Option XA} (ho : o.op = .slice t X L H none) (hu : P.underlying t = some .string)
    (hx : cA X = some x) (hL : cAo L = some lo) (hH : cAo H = some hi) (h : vopF (.sliceT x lo hi) e m b = some (p, d)) : OpOk P F β ok e m a w b o p d := by
  simp only [vopF, Option.bind_eq_some_iff] at h
  obtain ⟨q, hq, h⟩ := h
  have hr := ev_rep hs hx hq
  generalize hv : a.eval X = vx at hr
  cases q <;> simp only [reduceCtorEq] at h
  rename_i s
  simp only [Option.bind_eq_some_iff] at h
  obtain ⟨hh, hhi, ll, hlo, h⟩ := h
  split at h
  case isFalse => cases h
  rename_i hc
  simp at h
  obtain ⟨rfl, rfl⟩ := h
  cases hr
  have hsz : (ByteArray.mk s.toArray).size = s.length := by simp [ByteArray.size]
  refine .value hs (v := .string ⟨((s.take hh).drop ll).toArray⟩) ?_ (.str _)
  simp only [execOp, ho]
  refine exec_value ?_
  simp only [Instr.sliceAt, Sem.run_bind, run_und hu, Result.andThen_ok, Instr.slice, hv, Option.map_none, Option.isSome_none, Bool.false_eq_true, if_false, hsz,
    run_bounds hs hL hH hlo hhi hc.1 hc.2, Sem.run_pure]
  congr 2
  apply ByteArray.ext
  simp only [ByteArray.data_extract]
  apply Array.ext'
  simp only [Array.toList_extract, List.extract_eq_take_drop, List.drop_take]

theorem op_sliceS (hs : Sat0 F β ok e m a w) {t el : TypeId} {k : Nat} {X : Operand} {L H : Option Operand} {x : XA} {lo hi : Option XA} (ho : o.op = .slice t X L H none) (hu : P.underlying t = some (.slice el)) (hk : tySize P el = some k)
    (hx : cA X = some x) (hL : cAo L = some lo) (hH : cAo H = some hi) (h : vopF (.sliceS k x lo hi) e m b = some (p, d)) : OpOk P F β ok e m a w b o p d := by
  simp only [vopF, Option.bind_eq_some_iff] at h
  obtain ⟨q, hq, h⟩ := h
  have hr := ev_rep hs hx hq
  generalize hv : a.eval X = vx at hr
  have hrun : ∀ A n cap l hh, vx = .slice A n cap → idxo 0 e lo = some l → idxo n e hi = some hh → l ≤ hh → hh ≤ cap →
      (execOp a.eval o).run P w = .ok (.value (.slice (if cap = l then A else A.map (·.add (l * k))) (hh - l) (cap - l))) w := by
    intro A n cap l hh hvx h1 h2 h3 h4
    simp only [execOp, ho]
    refine exec_value ?_
    simp only [Instr.sliceAt, Sem.run_bind, run_und hu, Result.andThen_ok, Instr.slice, hv, hvx, Option.map_none, run_bounds hs hL hH h1 h2 h3 h4, run_sizeOf hk, Sem.run_pure]
  -- what a slice that stays gives
  have stays : ∀ (xs : List (List PV)) (A : Option Addr) (n cap l hh : Nat), Rep w ok β (.sl xs) (.slice A xs.length cap) → hh ≤ xs.length → l ≤ hh → (l = 0 ∨ ∀ x ∈ xs, x.length = k) →
      Rep w ok β (.sl ((xs.take hh).drop l)) (.slice (if cap = l then A else A.map (·.add (l * k))) (hh - l) (cap - l)) := by
    intro xs A n cap l hh hrep h1 h2 h3
    have hlen : ((xs.take hh).drop l).length = hh - l := by simp; omega
    generalize hn : xs.length = N at hrep h1
    cases hrep with
    | sl0 _ _ hcap =>
      have : hh = 0 := by simp at hn; omega
      subst this
      simp
      exact .sl0 _ _ (by omega)
    | sl k' _ A' _ f hne hl hcap hk' hsp hok h1' hc hr =>
      by_cases hz : hh - l = 0
      · have : (xs.take hh).drop l = [] := List.eq_nil_of_length_eq_zero (by omega)
        rw [this, hz]
        exact .sl0 _ _ (by omega)
      · have hkk : l = 0 ∨ k' = k := by
          rcases h3 with h3 | h3
          · exact .inl h3
          · obtain ⟨x0, hx0⟩ := List.exists_mem_of_ne_nil xs hne
            exact .inr ((hk' x0 hx0).symm.trans (h3 x0 hx0))
        have hlk : l * k' = l * k := by rcases hkk with h | h <;> simp [h]
        rw [if_neg (by omega)]
        have hkk' : ∀ x ∈ xs.take hh, x.length = k' := fun x hx => hk' x (List.mem_of_mem_take hx)
        have hfl : ∀ (j : Nat) c, ((xs.take hh).drop l).flatten[j]? = some c → xs.flatten[l * k + j]? = some c := fun j c hj => by
          rw [flat_drop hkk', flat_take hk', List.getElem?_drop, List.getElem?_take] at hj
          split at hj
          · rw [← hlk]; exact hj
          · cases hj
        have := Rep.sl (w := w) (ok := ok) (β := β) k' ((xs.take hh).drop l) (A'.add (l * k)) (cap - l) (fun j => f (l * k + j)) (fun e => by rw [e] at hlen; simp at hlen; omega) (by omega) (by omega)
          (fun x hx => hkk' x (List.mem_of_mem_drop hx)) (add_spot A' hsp _) (by rw [add_block]; exact hok) (fun c hcm => by
            obtain ⟨x, hx, hcx⟩ := List.mem_flatten.1 hcm
            exact h1' c (mem_flat (List.mem_of_mem_take (List.mem_of_mem_drop hx)) hcx))
          (fun j c hj => by rw [add_add]; exact hc _ c (hfl j c hj)) (fun j c hj => hr _ c (hfl j c hj))
        rw [hlen] at this
        exact this
  cases q <;> simp only [reduceCtorEq] at h
  · rename_i xs
    simp only [Option.bind_eq_some_iff] at h
    obtain ⟨hh, hhi, ll, hlo, h⟩ := h
    have hform : ∃ A cap, vx = .slice A xs.length cap ∧ xs.length ≤ cap := by
      cases hr with
      | sl0 A cap h => exact ⟨A, cap, rfl, by simp⟩
      | sl k' _ A cap f hne hl => exact ⟨some A, cap, rfl, hl⟩
    obtain ⟨A, cap, rfl, hcap⟩ := hform
    split at h
    · rename_i hc
      simp at h
      obtain ⟨rfl, rfl⟩ := h
      have := stays xs A 0 cap ll hh hr hc.2 (by omega) (.inl hc.1)
      rw [show (xs.take hh).drop ll = xs.take hh by rw [hc.1]; rfl] at this
      exact .value hs (hrun A xs.length cap ll hh rfl hlo hhi (by omega) (by omega)) this
    · split at h
      case isFalse => cases h
      rename_i hc
      simp at h
      obtain ⟨rfl, rfl⟩ := h
      exact .value hs (hrun A xs.length cap ll hh rfl hlo hhi hc.1 (by omega)) (stays xs A 0 cap ll hh hr hc.2.1 hc.1 (.inr hc.2.2))
  · rename_i id n
    simp only [Option.bind_eq_some_iff] at h
    obtain ⟨hh, hhi, ll, hlo, h⟩ := h
    split at h
    · rename_i hc
      simp at h
      obtain ⟨rfl, rfl⟩ := h
      obtain ⟨rfl, hle⟩ := hc
      cases hr with
      | osl0 _ A0 hb =>
        have : hh = 0 := by omega
        subst this
        have := hrun A0 0 0 0 0 rfl hlo hhi (by omega) (by omega)
        exact .value hs this (.osl0 _ _ hb)
      | osl _ _ bl cap hb hn =>
        have := hrun (some ⟨bl, 0, none⟩) n cap 0 hh rfl hlo hhi (by omega) (by omega)
        refine .value hs (v := .slice (some ⟨bl, 0, none⟩) hh cap) ?_ (.osl _ _ bl cap hb (by omega))
        rw [this]
        simp [Addr.add]
    · simp only [Option.bind_eq_some_iff] at h
      obtain ⟨q, hq, h⟩ := h
      have hrq := (pur_rep hs.mem hq hr).1
      cases q <;> simp only [reduceCtorEq] at h
      rename_i xs
      split at h
      case isFalse => cases h
      rename_i hc
      simp at h
      obtain ⟨rfl, rfl⟩ := h
      have hnl : xs.length = n := by
        simp only [pur] at hq
        cases hid : m id with
        | none => simp [hid] at hq
        | some ob => rw [hid] at hq; cases ob <;> simp at hq; obtain ⟨⟨h1, _⟩, rfl⟩ := hq; simp; omega
      have hform : ∃ A cap, vx = .slice A n cap ∧ n ≤ cap := by
        cases hr with
        | osl0 _ A0 hb => exact ⟨A0, 0, rfl, Nat.le_refl _⟩
        | osl _ _ bl cap hb hn => exact ⟨_, cap, rfl, hn⟩
      obtain ⟨A, cap, rfl, hcap⟩ := hform
      refine .value hs (hrun A n cap ll hh rfl hlo hhi hc.1 (by omega)) (stays xs A 0 cap ll hh ?_ hc.2.1 hc.1 (.inr hc.2.2))
      rw [hnl]; exact hrq.any

theorem op_mkfn (hs : Sat0 F β ok e m a w) {f : Nat} {caps : Array Operand} {cs : List XA} (ho : o.op = .makeFunc (.func f) #[] caps) (hc : caps.toList.mapM cA = some cs)
    (h : vopF (.mkfn f cs) e m b = some (p, d)) : OpOk P F β ok e m a w b o p d := by
  simp only [vopF, Option.bind_eq_some_iff] at h
  obtain ⟨ps, hps, h⟩ := h
  simp at h
  obtain ⟨rfl, rfl⟩ := h
  obtain ⟨h1, h2⟩ := evs_rep hs hc hps
  refine .value hs (v := .func (.func f) #[] (caps.toList.map a.eval).toArray) ?_ (.fn f ps _ h1 h2)
  simp only [execOp, ho]
  refine exec_value ?_
  simp only [Instr.makeFunc, Sem.run_pure]
  congr 2
  · simp
  · apply Array.ext'; simp

end
end Go.Vx
/- The engine, part 11: struct equality, append. -/
set_option linter.unusedVariables false
set_option linter.unusedSimpArgs false
namespace Go.Vx
open Go Go.RowKit

section
variable {P : Program} {F : Fr} {β : Ids} {ok : Nat → Prop} {e : Nat → Option PV} {m : Mem} {a : Act} {w : World} {b : Nat} {o : Oper} {p : PV} {d : Delta}

theorem eqCells_len : ∀ {ks cs ds : List PV} {r : Bool}, eqCells ks cs ds = some r → cs.length = ks.length ∧ ds.length = ks.length
  | [], [], [], r, _ => ⟨rfl, rfl⟩
  | k :: ks, c :: cs, d :: ds, r, h => by
    simp only [eqCells, Option.bind_eq_some_iff] at h
    obtain ⟨_, _, r', h', _⟩ := h
    obtain ⟨h1, h2⟩ := eqCells_len h'
    simp [h1, h2]
  | [], [], _ :: _, r, h => by simp [eqCells] at h
  | [], _ :: _, _, r, h => by simp [eqCells] at h
  | k :: _, [], _, r, h => by simp [eqCells] at h
  | k :: _, c :: _, [], r, h => by simp [eqCells] at h

theorem eqCells_append : ∀ {ks ks' cs ds : List PV} {r : Bool}, eqCells (ks ++ ks') cs ds = some r →
    ∃ r1 r2, eqCells ks (cs.take ks.length) (ds.take ks.length) = some r1 ∧ eqCells ks' (cs.drop ks.length) (ds.drop ks.length) = some r2 ∧ r = (r1 && r2)
  | [], ks', cs, ds, r, h => ⟨true, r, by simp [eqCells], by simpa using h, by simp⟩
  | k :: ks, ks', [], ds, r, h => by simp [eqCells] at h
  | k :: ks, ks', c :: cs, [], r, h => by simp [eqCells] at h
  | k :: ks, ks', c :: cs, d :: ds, r, h => by
    simp only [List.cons_append, eqCells, Option.bind_eq_some_iff] at h
    obtain ⟨x, hx, r', h, hr⟩ := h
    obtain ⟨r1, r2, h1, h2, rfl⟩ := eqCells_append h
    refine ⟨x && r1, r2, ?_, by simpa using h2, ?_⟩
    · simp only [List.length_cons, List.take_succ_cons, eqCells, hx, h1, Option.bind_some]
    · simp at hr; rw [← hr, Bool.and_assoc]

theorem eqCells_one {k : PV} {cs ds : List PV} {r : Bool} (h : eqCells [k] cs ds = some r) : ∃ c d, cs = [c] ∧ ds = [d] ∧ eq1 k c d = some r := by
  obtain ⟨h1, h2⟩ := eqCells_len h
  match cs, ds, h1, h2 with
  | [c], [d], _, _ =>
    simp only [eqCells, Option.bind_eq_some_iff] at h
    obtain ⟨x, hx, r', hr', h⟩ := h
    simp at hr' h
    subst hr'
    simp at h
    subst h
    exact ⟨c, d, rfl, rfl, hx⟩

theorem eq1_bool {z : Bool} {c d : PV} {r : Bool} (h : eq1 (.bool z) c d = some r) : ∃ x y, c = .bool x ∧ d = .bool y ∧ r = decide (x = y) := by
  cases c <;> first | (simp [eq1] at h; done) | (cases d <;> first | (simp [eq1] at h; done) | (simp only [eq1, Option.some.injEq] at h; exact ⟨_, _, rfl, rfl, h.symm⟩))
theorem eq1_str {z : List UInt8} {c d : PV} {r : Bool} (h : eq1 (.str z) c d = some r) : ∃ x y, c = .str x ∧ d = .str y ∧ r = decide (x = y) := by
  cases c <;> first | (simp [eq1] at h; done) | (cases d <;> first | (simp [eq1] at h; done) | (simp only [eq1, Option.some.injEq] at h; exact ⟨_, _, rfl, rfl, h.symm⟩))
theorem eq1_int {k : IntKind} {z : Int} {c d : PV} {r : Bool} (h : eq1 (.int k z) c d = some r) : ∃ x y, c = .int k x ∧ d = .int k y ∧ r = decide (x = y) := by
  cases c <;> first | (simp [eq1] at h; done) | skip
  cases d <;> first | (simp [eq1] at h; done) | skip
  simp only [eq1] at h
  split at h
  · rename_i hk
    obtain ⟨rfl, rfl⟩ := hk
    simp only [Option.some.injEq] at h
    exact ⟨_, _, rfl, rfl, h.symm⟩
  · cases h

/-- The value of a type over its cells. -/
def valOf (P : Program) (t : TypeId) (vs : List Value) : Value := if tyAgg P t = some true then .agg vs.toArray else vs.headD undef

theorem part_val {t : TypeId} {vs : List Value} {off n : Nat} (hn : tySize P t = some n) (hle : off + n ≤ vs.length) (h1 : tyAgg P t = some true ∨ (tyAgg P t = some false ∧ n = 1)) :
    (part t vs.toArray off).run P w = .ok (valOf P t ((vs.drop off).take n)) w := by
  rcases h1 with h1 | ⟨h1, rfl⟩
  · rw [part_agg h1 hn]
    simp [valOf, h1, List.extract_eq_take_drop]
  · have hlt : off < vs.length := by omega
    rw [part_one (v := vs[off]) h1 (by simp [hlt])]
    congr 1
    simp only [valOf, h1]
    rw [if_neg (by simp), List.drop_eq_getElem_cons hlt]
    rfl

theorem scal_kind {dd : Nat} {t : TypeId} {ks : List PV} (h : scal P dd t = some ks) : tyAgg P t = some true ∨ (tyAgg P t = some false ∧ ks.length = 1) := by
  cases dd with
  | zero => simp [scal] at h
  | succ dd =>
    simp only [scal] at h
    unfold tyAgg
    split at h <;> rename_i hu <;> simp_all
    all_goals (subst h; rfl)

theorem eq_scal : ∀ (dd : Nat) (t : TypeId) (ks : List PV), scal P dd t = some ks → ∀ (n : Nat), dd ≤ n → ∀ (cs ds : List PV) (vs us : List Value) (r : Bool), vs.length = cs.length → us.length = ds.length →
    (∀ (j : Nat) c v, cs[j]? = some c → vs[j]? = some v → Rep w ok β c v) → (∀ (j : Nat) c v, ds[j]? = some c → us[j]? = some v → Rep w ok β c v) → eqCells ks cs ds = some r →
    (Op.equalIn n t (valOf P t vs) (valOf P t us)).run P w = .ok r w
  | 0, t, ks, h, _, _, _, _, _, _, _, _, _, _, _, _ => by simp [scal] at h
  | dd + 1, t, ks, h, n, hn, cs, ds, vs, us, r, hl1, hl2, hr1, hr2, he => by
    obtain ⟨n, rfl⟩ : ∃ q, n = q + 1 := ⟨n - 1, by omega⟩
    simp only [scal] at h
    split at h <;> rename_i hu
    · simp at h; subst h
      obtain ⟨c, d, rfl, rfl, he1⟩ := eqCells_one he
      obtain ⟨x, y, rfl, rfl, rfl⟩ := eq1_bool he1
      match vs, us, hl1, hl2 with
      | [v], [u], _, _ =>
        have h1 := hr1 0 _ v rfl rfl
        have h2 := hr2 0 _ u rfl rfl
        have hvv : ∀ v, valOf P t [v] = v := fun v => by simp [valOf, tyAgg, hu]
        rw [hvv, hvv]
        cases h1
        cases h2
        rw [run_equalIn_bool' w n t x y hu]
        cases x <;> cases y <;> rfl
    · rename_i k
      simp at h; subst h
      obtain ⟨c, d, rfl, rfl, he1⟩ := eqCells_one he
      obtain ⟨x, y, rfl, rfl, rfl⟩ := eq1_int he1
      match vs, us, hl1, hl2 with
      | [v], [u], _, _ =>
        have h1 := hr1 0 _ v rfl rfl
        have h2 := hr2 0 _ u rfl rfl
        have hvv : ∀ v, valOf P t [v] = v := fun v => by simp [valOf, tyAgg, hu]
        rw [hvv, hvv]
        cases h1
        cases h2
        rw [run_equalIn_int w n t _ _ _ _ hu]
        rfl
    · simp at h; subst h
      obtain ⟨c, d, rfl, rfl, he1⟩ := eqCells_one he
      obtain ⟨x, y, rfl, rfl, rfl⟩ := eq1_str he1
      match vs, us, hl1, hl2 with
      | [v], [u], _, _ =>
        have h1 := hr1 0 _ v rfl rfl
        have h2 := hr2 0 _ u rfl rfl
        have hvv : ∀ v, valOf P t [v] = v := fun v => by simp [valOf, tyAgg, hu]
        rw [hvv, hvv]
        cases h1
        cases h2
        rw [run_equalIn_string w n t _ _ hu, ByteArray.toList_mk, ByteArray.toList_mk, beqL]
    · rename_i fs
      split at h
      case isTrue => cases h
      rename_i hg
      have hp : P.stoodInHeld t = false := by
        cases hh : P.stoodInHeld t
        · rfl
        · exact absurd (.inl hh) hg
      have hfo : P.fieldsOf t = fs := by simp [Program.fieldsOf, hu]
      simp only [valOf, tyAgg, hu, if_true]
      rw [run_equalIn_struct (P := P) w n t _ _ (by rw [hfo]; exact hu) hp, hfo]
      have key : ∀ (l : List Field) (off : Nat) (ks : List PV) (r : Bool), scalFs P (scal P dd) off l = some ks → off ≤ cs.length → off ≤ ds.length → eqCells ks (cs.drop off) (ds.drop off) = some r →
          (Op.eqFields n vs.toArray us.toArray l).run P w = .ok r w := by
        intro l
        induction l with
        | nil =>
          intro off ks r hk _ _ he
          simp [scalFs] at hk; subst hk
          obtain ⟨h1, h2⟩ := eqCells_len he
          have e1 : cs.drop off = [] := List.eq_nil_of_length_eq_zero (by simpa using h1)
          have e2 : ds.drop off = [] := List.eq_nil_of_length_eq_zero (by simpa using h2)
          rw [e1, e2] at he
          simp [eqCells] at he; subst he
          simp [Op.eqFields]
        | cons f l ih =>
          intro off ks r hk ho1 ho2 he
          simp only [scalFs] at hk
          split at hk
          case isTrue => cases hk
          rename_i hno
          simp only [Option.bind_eq_some_iff] at hk
          obtain ⟨kf, hkf, hk⟩ := hk
          split at hk
          case isFalse => cases hk
          rename_i hsz
          simp only [Option.map_eq_some_iff] at hk
          obtain ⟨kr, hkr, rfl⟩ := hk
          obtain ⟨r1, r2, e1, e2, rfl⟩ := eqCells_append he
          obtain ⟨l1, l2⟩ := eqCells_len e1
          simp only [List.length_take, List.length_drop] at l1 l2
          have hoff : f.offset = off := by
            rcases Nat.decEq f.offset off with h | h
            · exact absurd (.inr h) hno
            · exact h
          have hne : f.name ≠ "_" := fun h => hno (.inl h)
          have hkind := scal_kind hkf
          have q1 : (Op.equalIn n f.type (valOf P f.type ((vs.drop off).take kf.length)) (valOf P f.type ((us.drop off).take kf.length))).run P w = .ok r1 w := by
            refine eq_scal dd f.type kf hkf n (by omega) ((cs.drop off).take kf.length) ((ds.drop off).take kf.length) _ _ r1 (by simp; omega) (by simp; omega) (fun j c v hc hv => ?_) (fun j c v hc hv => ?_) e1
            · have hj : j < kf.length := by have := (List.getElem?_eq_some_iff.1 hc).1; simp at this; omega
              rw [List.getElem?_take_of_lt hj, List.getElem?_drop] at hc hv
              exact hr1 _ c v hc hv
            · have hj : j < kf.length := by have := (List.getElem?_eq_some_iff.1 hc).1; simp at this; omega
              rw [List.getElem?_take_of_lt hj, List.getElem?_drop] at hc hv
              exact hr2 _ c v hc hv
          have p1 := part_val (P := P) (w := w) (vs := vs) (off := off) hsz (by omega) hkind
          have p2 := part_val (P := P) (w := w) (vs := us) (off := off) hsz (by omega) hkind
          have hrest := ih (off + kf.length) kr r2 hkr (by omega) (by omega) (by rw [← List.drop_drop, ← List.drop_drop]; exact e2)
          rw [Op.eqFields]
          simp only [if_pos hne, hoff, Sem.run_bind, p1, p2, q1, Result.andThen_ok]
          cases r1
          · simp
          · simpa using hrest
      exact key fs.toList 0 ks r h (Nat.zero_le _) (Nat.zero_le _) (by simpa using he)
    · cases h

theorem scal_guard {dd : Nat} {t : TypeId} {ks : List PV} {fs : Array Field} (hu : P.underlying t = some (.struct fs)) (hk : scal P dd t = some ks) : P.eqGuardType P.depth t = false := by
  cases dd with
  | zero => simp [scal] at hk
  | succ dd =>
    simp only [scal, hu] at hk
    split at hk
    case isTrue => cases hk
    rename_i hg
    cases hh : P.eqGuardType P.depth t
    · rfl
    · exact absurd (.inr hh) hg

theorem op_eqs (hs : Sat0 F β ok e m a w) {X Y : Operand} {x y : XA} {neg : Bool} {t u : TypeId} {fs : Array Field} {ks : List PV} (ho : o.op = .binOp (if neg then .neq else .eql) t X Y u) (hu : P.underlying t = some (.struct fs)) (hk : scal P 20 t = some ks)
    (hx : cA X = some x) (hy : cA Y = some y) (h : vopF (.eqs neg ks x y) e m b = some (p, d)) : OpOk P F β ok e m a w b o p d := by
  simp only [vopF, Option.bind_eq_some_iff] at h
  obtain ⟨q, hq, r, hr, h⟩ := h
  have h1 := ev_rep hs hx hq
  have h2 := ev_rep hs hy hr
  generalize hv : a.eval X = vx at h1
  generalize hw : a.eval Y = vy at h2
  unfold vopEqs at h
  split at h
  case h_2 => cases h
  rename_i cs ds
  simp only [Option.bind_eq_some_iff] at h
  obtain ⟨r, hr', h⟩ := h
  simp only [Option.some.injEq, Prod.mk.injEq] at h
  obtain ⟨rfl, rfl⟩ := h
  cases h1 with
  | agg _ vs hl1 h11 hr1 =>
    cases h2 with
    | agg _ us hl2 h22 hr2 =>
      have hgt := scal_guard hu hk
      have heq := eq_scal 20 t ks hk 10000 (by omega) cs ds vs us r hl1 hl2 hr1 hr2 hr'
      simp only [valOf, tyAgg, hu, if_true] at heq
      refine .value hs (v := .bool _) ?_ (.bool _)
      simp only [execOp, ho]
      refine exec_value ?_
      cases neg
      · simp only [Bool.false_eq_true, if_false, hv, hw, Sem.run_bind, run_eqGuard_agg w _ t X Y _ _ hgt, Result.andThen_ok, run_eql_struct w t, heq]
      · simp only [if_true, hv, hw, Sem.run_bind, run_eqGuard_agg w _ t X Y _ _ hgt, Result.andThen_ok, run_neq_struct w t, heq]

end
end Go.Vx
/- The engine, part 12: append. -/
set_option linter.unusedVariables false
set_option linter.unusedSimpArgs false
namespace Go.Vx
open Go Go.RowKit

section
variable {P : Program} {F : Fr} {β : Ids} {ok : Nat → Prop} {e : Nat → Option PV} {m : Mem} {a : Act} {w : World} {b : Nat} {o : Oper} {p : PV} {d : Delta}

theorem run_append_nothing (base : Nat) (t ty e : TypeId) (i : TypeInfo) (size : Nat) (ht : P.underlying t = some (.slice e)) (hi : P.info? e = some i)
    (v : Value) (n : Nat) (xs : List Value) (hown : w.ownsRow base e size v n xs) (A : Option Addr) (c : Nat) : (Builtin.append_ #[t, t] ty #[v, .slice A 0 c]).run P w = .ok v w := by
  rcases hown.2 with ⟨rfl, rfl⟩ | ⟨g, cap, cur, rfl, _, _, hnc, _⟩
  · cases A <;> simp [Builtin.append_, run_underlying ht, sizeOf, typeInfo, hi, Builtin.lenOf, Builtin.firstCells, loadCells, loadCellsFrom]
  · cases A <;> simp [Builtin.append_, run_underlying ht, sizeOf, typeInfo, hi, Builtin.lenOf, Builtin.firstCells, hnc, storeCells, loadCells, loadCellsFrom]

/-- An empty slice without room is appended to as the nil slice is. -/
theorem run_append_zero (t ty e : TypeId) (i : TypeInfo) (ht : P.underlying t = some (.slice e)) (hi : P.info? e = some i) (A B : Option Addr) (n c : Nat) (hn : 0 < n) (hby : n * i.bytes ≤ 281474976710656) :
    (Builtin.append_ #[t, t] ty #[.slice A 0 0, .slice B n c]).run P w = (Builtin.append_ #[t, t] ty #[.slice none 0 0, .slice B n c]).run P w := by
  have h1 : ¬ n = 0 := by omega
  have h2 : Builtin.nextslicecap n 0 = n := by simp [Builtin.nextslicecap, hn]
  have h3 : ¬ (281474976710656 < n * i.bytes) := by omega
  cases A <;> simp [Builtin.append_, run_underlying ht, sizeOf, typeInfo, hi, Builtin.lenOf, Builtin.firstCells, h1, h2, h3, loadCells, loadCellsFrom]

/-- The row behind an object. -/
theorem ORep.owns {l : Loc} {k : Nat} {xs : List (List PV)} {T : TypeId} {fz : Bool} {v : Value} {id : Nat} (h : ORep w ok β l (.row k xs T fz)) (hb : β id = some l) (hv : Rep w ok β (.osl id xs.length) v) :
    ∃ (vs : List Value) (v' : Value), (v = v' ∨ (v' = .slice none 0 0 ∧ xs = [] ∧ ∃ A, v = .slice A 0 0)) ∧ w.ownsRow 0 T k v' xs.length vs ∧ vs.length = xs.length * k ∧ (∀ x ∈ xs, x.length = k) ∧ (∀ c ∈ xs.flatten, c.one = true) ∧ (∀ (j : Nat) c, xs.flatten[j]? = some c → ∃ u, vs[j]? = some u ∧ Rep w ok noIds c u) ∧
      (v' = .slice none 0 0 ∧ l = .nil ∨ ∃ g cap, v' = .slice (some ⟨g, 0, none⟩) xs.length cap ∧ l = .at g cap) := by
  generalize hn : xs.length = n at hv
  cases hv with
  | osl0 _ A hb' =>
    rw [hb] at hb'; injection hb' with hb'; subst hb'
    have : xs = [] := h
    subst this
    exact ⟨[], .slice none 0 0, .inr ⟨rfl, rfl, A, rfl⟩, World.ownsRow_nil w 0 T k, by simp, by simp, by simp, by simp, .inl ⟨rfl, rfl⟩⟩
  | osl _ _ g cap hb' hle =>
    rw [hb] at hb'; injection hb' with hb'; subst hb'
    obtain ⟨⟨cur, h1, h2, h3, h4, h5, h6, h7⟩, _⟩ := h
    have hlen : (cur.toList.take (n * k)).length = n * k := by
      rw [List.length_take, Array.length_toList, h2, Nat.min_eq_left (Nat.mul_le_mul_right k hle)]
    refine ⟨cur.toList.take (n * k), _, .inl rfl, ⟨hlen, .inr ⟨g, cap, cur, rfl, Nat.zero_le _, h1, hle, h4, h2, rfl⟩⟩, hlen, h5, h6, fun j c hj => ?_, .inr ⟨g, cap, rfl, rfl⟩⟩
    obtain ⟨u, hu, hr⟩ := h7 j c hj
    have hlt : j < n * k := by have := (List.getElem?_eq_some_iff.1 hj).1; rw [flat_len h5, hn] at this; exact this
    exact ⟨u, by rw [List.getElem?_take_of_lt hlt]; simpa using hu, hr⟩

theorem elems_rep (hm : MSat w ok β m) {q : PV} {ys : List (List PV)} {v : Value} (h : elems m q = some ys) (hr : Rep w ok β q v) :
    ∃ A c, v = .slice A ys.length c ∧ (ys = [] ∨ ∃ ad k, A = some ad ∧ (∀ y ∈ ys, y.length = k) ∧ (∀ c ∈ ys.flatten, c.one = true) ∧
      ∀ (j : Nat) c, ys.flatten[j]? = some c → ∃ u, w.cell? (ad.add j) = some u ∧ Rep w ok noIds c u) := by
  cases q <;> unfold elems at h <;> dsimp only at h <;> try (simp only [reduceCtorEq] at h; done)
  · rename_i xs
    simp at h; subst h
    cases hr with
    | sl0 A c => exact ⟨A, c, rfl, .inl rfl⟩
    | sl k _ A cap f hne hl hcap hk hsp hok h1 hc hr => exact ⟨some A, cap, rfl, .inr ⟨A, k, rfl, hk, h1, fun j c hj => ⟨f j, hc j c hj, hr j c hj⟩⟩⟩
  rotate_left
  · injection h with h; subst h; cases hr; exact ⟨none, 0, rfl, .inl rfl⟩
  · rename_i id n
    cases hid : m id with
    | none => simp [hid] at h
    | some ob =>
      rw [hid] at h
      obtain ⟨l, hl, ho⟩ := hm.objs id ob hid
      cases ob <;> simp at h
      rename_i k xs T fz
      obtain ⟨hle, rfl⟩ := h
      cases hr with
      | osl0 _ A hb => exact ⟨A, 0, by simp, .inl (by simp)⟩
      | osl _ _ g cap hb hcap =>
        rw [hb] at hl; injection hl with hl; subst hl
        obtain ⟨⟨cur, h1, h2, h3, h4, h5, h6, h7⟩, _⟩ := ho
        have hlen : (xs.take n).length = n := by simp; omega
        refine ⟨some ⟨g, 0, none⟩, cap, by rw [hlen], .inr ⟨⟨g, 0, none⟩, k, rfl, fun y hy => h5 y (List.mem_of_mem_take hy), fun c hc => ?_, fun j c hj => ?_⟩⟩
        · obtain ⟨x, hx, hcx⟩ := List.mem_flatten.1 hc
          exact h6 c (mem_flat (List.mem_of_mem_take hx) hcx)
        · rw [flat_take h5, List.getElem?_take] at hj
          split at hj
          · obtain ⟨u, hu, hru⟩ := h7 j c hj
            exact ⟨u, by rw [add_mk, cell_of h1, Nat.zero_add]; exact hu, hru⟩
          · cases hj

theorem upds_two (m : Mem) (i j : Nat) (x y : Option Obj) : m.upds [(i, x), (j, y)] = upd (upd m i x) j y := rfl

theorem append_core (hs : Sat0 F β ok e m a w) (hb : β b = none) {t : TypeId} {T' k' bytes : Nat} {S X : Operand} (ho : o.op = .call { callee := .builtin .append, args := #[S, X], argTypes := #[t, t] })
    {i : TypeInfo} {zv : Value} (hu1 : P.underlying t = some (.slice T')) (hi : P.info? T' = some i) (hzv : i.zero = some zv) (hi1 : i.size = k') (hi2 : i.bytes = bytes) (hzl : zv.cells.size = k') (hk0 : 0 < k') (hb0 : 0 < bytes)
    {xs ys : List (List PV)} {vs : List Value} {sv sv' : Value} {A : Option Addr} {c : Nat} {id : Nat} (hsv : a.eval S = sv) (hxv : a.eval X = .slice A ys.length c) (hsv' : sv = sv' ∨ (sv' = .slice none 0 0 ∧ xs = [] ∧ ∃ A, sv = .slice A 0 0))
    (hown : w.ownsRow 0 T' k' sv' xs.length vs) (hvl : vs.length = xs.length * k') (g5 : ∀ x ∈ xs, x.length = k') (g6 : ∀ c ∈ xs.flatten, c.one = true) (g7 : ∀ (j : Nat) c, xs.flatten[j]? = some c → ∃ u, vs[j]? = some u ∧ Rep w ok noIds c u)
    (hel : ys = [] ∨ ∃ ad k, A = some ad ∧ (∀ y ∈ ys, y.length = k) ∧ (∀ c ∈ ys.flatten, c.one = true) ∧ ∀ (j : Nat) c, ys.flatten[j]? = some c → ∃ u, w.cell? (ad.add j) = some u ∧ Rep w ok noIds c u)
    (hyk : ∀ y ∈ ys, y.length = k') (hby : (xs.length + ys.length) * bytes ≤ 140737488355328) (hownB : ∀ g, sv'.ownBlock = some g → Owns β m g)
    (hcl : ∀ i o1 bb cc, m i = some o1 → i ≠ id → β i = some (.at bb cc) → sv'.ownBlock = some bb → False) :
    OpOk P F β ok e m a w b o (.osl b (xs.length + ys.length)) [(id, none), (b, some (.row k' (xs ++ ys) T' false))] := by
  have hlen63 : xs.length + ys.length ≤ maxLen := by
    have := Nat.le_mul_of_pos_right (xs.length + ys.length) hb0
    simp only [maxLen]; omega
  have hres : ∃ v1 v' w' news, (Builtin.append_ #[t, t] o.type #[sv, .slice A ys.length c]).run P w = .ok v1 w' ∧ (v1 = v' ∨ (v' = .slice none 0 0 ∧ ∃ A, v1 = .slice A 0 0)) ∧ w'.ownsRow 0 T' k' v' (xs.length + ys.length) (vs ++ news) ∧ w.grownBy w' sv'.ownBlock ∧
      (v'.ownBlock = sv'.ownBlock ∨ v'.ownBlock = some w.heap.size) ∧ (∀ c ∈ ys.flatten, c.one = true) ∧ ∀ (j : Nat) c, ys.flatten[j]? = some c → ∃ u, news[j]? = some u ∧ Rep w ok noIds c u := by
    have hel' : ys = [] ∨ 0 < ys.length ∧ ∃ ad k, A = some ad ∧ (∀ y ∈ ys, y.length = k) ∧ (∀ c ∈ ys.flatten, c.one = true) ∧ ∀ (j : Nat) c, ys.flatten[j]? = some c → ∃ u, w.cell? (ad.add j) = some u ∧ Rep w ok noIds c u := by
      rcases hel with h | h
      · exact .inl h
      · rcases Nat.eq_zero_or_pos ys.length with h0 | h0
        · exact .inl (List.eq_nil_of_length_eq_zero h0)
        · exact .inr ⟨h0, h⟩
    rcases hel' with rfl | ⟨h0, ad, k2, rfl, hk2, hy1, hyr⟩
    · rcases hsv' with rfl | ⟨rfl, rfl, A', rfl⟩
      · exact ⟨sv, sv, w, [], run_append_nothing 0 t o.type T' i k' hu1 hi sv xs.length vs hown A c, .inl rfl, by simpa using hown, World.grownBy.refl w _, .inl rfl, by simp, by simp⟩
      · have hvs : vs = [] := List.eq_nil_of_length_eq_zero (by simpa using hvl)
        subst hvs
        refine ⟨.slice A' 0 0, .slice none 0 0, w, [], ?_, .inr ⟨rfl, A', rfl⟩, by simpa using hown, World.grownBy.refl w _, .inl rfl, by simp, by simp⟩
        cases A <;> cases A' <;> simp [Builtin.append_, run_underlying hu1, sizeOf, typeInfo, hi, Builtin.lenOf, Builtin.firstCells, storeCells, loadCells, loadCellsFrom]
    · obtain ⟨news, hnl, hnv⟩ := exists_list (n := ys.flatten.length) (R := fun j u => w.cell? (ad.add j) = some u ∧ ∀ c, ys.flatten[j]? = some c → Rep w ok noIds c u) (fun j hj => by
        obtain ⟨u, h1, h2⟩ := hyr j (ys.flatten[j]) (by simp [hj])
        exact ⟨u, h1, fun c hc => by rw [List.getElem?_eq_getElem hj] at hc; injection hc with hc; exact hc ▸ h2⟩)
      have hrn : ∀ (j : Nat) c, ys.flatten[j]? = some c → ∃ u, news[j]? = some u ∧ Rep w ok noIds c u := fun j c hj => by
        have hlt : j < news.length := by rw [hnl]; exact (List.getElem?_eq_some_iff.1 hj).1
        exact ⟨news[j], by simp [hlt], (hnv j _ (by simp [hlt])).2 c hj⟩
      obtain ⟨v', w', hr, h1, h2, _, h3⟩ := run_append_own_at (P := P) w 0 t o.type T' i zv k' bytes hu1 hi hzv hi1 hi2 hzl hk0 sv' xs.length vs hown ad ys.length c news (by rw [hnl, flat_len hyk]) (fun j u hu => (hnv j u hu).1)
        (fun u hu => by
          obtain ⟨j, hj, rfl⟩ := List.getElem_of_mem hu
          have hlt : j < ys.flatten.length := by rw [← hnl]; exact hj
          exact ((hnv j _ (List.getElem?_eq_getElem hj)).2 _ (List.getElem?_eq_getElem hlt)).one_of (hy1 _ (List.getElem_mem hlt))) hlen63 hby (Nat.zero_le _)
      refine ⟨v', v', w', news, ?_, .inl rfl, h1, h2, h3, hy1, hrn⟩
      rcases hsv' with rfl | ⟨rfl, rfl, A', rfl⟩
      · exact hr
      · rw [run_append_zero t o.type T' i hu1 hi _ _ _ _ h0 (by rw [hi2]; simp at hby; omega)]; exact hr
  obtain ⟨v1, v', w', news, hrun, hv1, hown', hgr, hat, hy1, hnr⟩ := hres
  have hrun' : (execOp a.eval o).run P w = .ok (.value v1) w' := by
    simp only [execOp, ho, resolve, invoke, builtin, Sem.run_bind, Sem.run_pure, Result.andThen_ok, List.map_toArray, List.map_cons, List.map_nil, hsv, hxv, hrun]
  have hoth : ∀ k, k < w.heap.size → ¬ (sv'.ownBlock = some k) → w'.heap[k]? = w.heap[k]? := fun k hk hn => hgr.block k hk fun h => hn h.symm
  have hch : ∀ k, k < w.heap.size → sv'.ownBlock = some k → Owns β m k := fun k _ hk => hownB k hk
  have hokw := hs.okw hoth hch
  -- where the new row lies
  obtain ⟨loc, hor, hrep, hlocb⟩ : ∃ loc, ORep w' ok (upd β b (some loc)) loc (.row k' (xs ++ ys) T' false) ∧ Rep w' ok (upd β b (some loc)) (.osl b (xs.length + ys.length)) v1 ∧
      ∀ g cap, loc = .at g cap → (sv'.ownBlock = some g ∨ g = w.heap.size) := by
    rcases hown'.2 with ⟨rfl, hn0⟩ | ⟨g, cap, cur, rfl, _, hg, hnc, hcm, hcs, htake⟩
    · have e1 : xs = [] := List.eq_nil_of_length_eq_zero (by omega)
      have e2 : ys = [] := List.eq_nil_of_length_eq_zero (by omega)
      subst e1; subst e2
      have : ∃ A, v1 = .slice A 0 0 := by
        rcases hv1 with h | ⟨_, h⟩
        · exact ⟨none, h⟩
        · exact h
      obtain ⟨A1, rfl⟩ := this
      exact ⟨.nil, rfl, .osl0 b A1 (by simp [upd]), fun g cap h => by cases h⟩
    · have : v1 = .slice (some ⟨g, 0, none⟩) (xs.length + ys.length) cap := by
        rcases hv1 with h | ⟨h, _⟩
        · exact h
        · cases h
      subst this
      have hgg : sv'.ownBlock = some g ∨ g = w.heap.size := by
        rcases hat with h | h
        · exact .inl (by rw [← h]; rfl)
        · simp [Value.ownBlock] at h; exact .inr h
      refine ⟨.at g cap, ⟨⟨cur, hg, hcs, by simpa using hnc, hcm, fun x hx => ?_, fun c hc => ?_, fun j c hj => ?_⟩, by simp, fun _ hokg => ?_⟩, .osl b _ g cap (by simp [upd]) hnc, fun g' cap' h => by injection h with h1 h2; exact h1 ▸ hgg⟩
      · rcases List.mem_append.1 hx with h | h
        · exact g5 x h
        · exact hyk x h
      · rw [List.flatten_append] at hc
        rcases List.mem_append.1 hc with h | h
        · exact g6 c h
        · exact hy1 c h
      · have hcur : ∀ (j : Nat) u, (vs ++ news)[j]? = some u → cur[j]? = some u := fun j u hu => by
          have hjl : j < (xs.length + ys.length) * k' := by rw [← hown'.1]; exact (List.getElem?_eq_some_iff.1 hu).1
          rw [← htake, List.getElem?_take_of_lt hjl] at hu
          simpa using hu
        rw [List.flatten_append] at hj
        by_cases hjx : j < xs.flatten.length
        · rw [List.getElem?_append_left hjx] at hj
          obtain ⟨u, hu, hr⟩ := g7 j c hj
          refine ⟨u, hcur j u ?_, hr.mono hokw (fun _ h => h) _ (fun _ _ h => h)⟩
          rw [List.getElem?_append_left (by rw [hvl, ← flat_len g5]; exact hjx)]; exact hu
        · rw [List.getElem?_append_right (by omega)] at hj
          obtain ⟨u, hu, hr⟩ := hnr _ c hj
          refine ⟨u, hcur j u ?_, hr.mono hokw (fun _ h => h) _ (fun _ _ h => h)⟩
          have hxl : xs.flatten.length = vs.length := by rw [flat_len g5, hvl]
          rw [List.getElem?_append_right (by omega), ← hxl]; exact hu
      · rcases hgg with h | h
        · exact hs.mem.not_ok (hownB g h) hokg
        · exact not_ok_new hs (h ▸ hokg)
  have hbm := beta_upd (l := loc) hb
  refine ⟨v1, w', upd β b (some loc), .inl hrun', hrep, ?_, fun id' h => by simp [upd, h]⟩
  rw [upds_two]
  refine hs.step (fun k => sv'.ownBlock = some k) hoth hch hgr.os hgr.tape hgr.output hgr.size (run_drawn hrun) hbm ⟨?_, ?_⟩ ?_
  · intro id' o' hid'
    by_cases he : id' = b
    · subst he
      rw [upd_same] at hid'; injection hid' with hid'; subst hid'
      exact ⟨loc, by rw [upd_same], hor⟩
    · rw [upd_other _ _ he] at hid'
      by_cases he2 : id' = id
      · subst he2; rw [upd_same] at hid'; cases hid'
      · rw [upd_other _ _ he2] at hid'
        obtain ⟨l', hl', hr'⟩ := hs.mem.objs id' o' hid'
        refine ⟨l', hbm _ _ hl', hr'.mono hokw (fun _ h => h) hbm fun bb cap' hll => ?_⟩
        subst hll
        refine ⟨hoth bb hr'.lt fun hbb => ?_, fun h => h⟩
        exact hcl id' o' bb cap' hid' he2 hl' hbb
  · have look : ∀ i o1 bb cc, upd (upd m id none) b (some (Obj.row k' (xs ++ ys) T' false)) i = some o1 → upd β b (some loc) i = some (.at bb cc) →
        (i = b ∧ loc = .at bb cc) ∨ (i ≠ b ∧ i ≠ id ∧ m i = some o1 ∧ β i = some (.at bb cc)) := by
      intro i o1 bb cc h1 h2
      by_cases he : i = b
      · subst he; rw [upd_same] at h2; injection h2 with h2; exact .inl ⟨rfl, h2⟩
      · rw [upd_other _ _ he] at h1 h2
        by_cases he2 : i = id
        · subst he2; rw [upd_same] at h1; cases h1
        · rw [upd_other _ _ he2] at h1
          exact .inr ⟨he, he2, h1, h2⟩
    have clash : ∀ i o1 bb cc, m i = some o1 → i ≠ id → β i = some (.at bb cc) → ∀ cc', loc = .at bb cc' → False := by
      intro i o1 bb cc h1 h2 h3 cc' h4
      rcases hlocb bb cc' h4 with h | h
      · exact hcl i o1 bb cc h1 h2 h3 h
      · have := hs.mem.lt h1 h3; omega
    intro i1 i2 o1 o2 bb c1 c2 h1 h2 h3 h4 f1 f2
    rcases look i1 o1 bb c1 h1 h3 with ⟨rfl, q1⟩ | ⟨q1, q2, q3, q4⟩ <;> rcases look i2 o2 bb c2 h2 h4 with ⟨rfl, r1⟩ | ⟨r1, r2, r3, r4⟩
    · rfl
    · exact (clash i2 o2 bb c2 r3 r2 r4 c1 q1).elim
    · exact (clash i1 o1 bb c1 q3 q2 q4 c2 r1).elim
    · exact hs.mem.disj i1 i2 o1 o2 bb c1 c2 q3 r3 q4 r4 f1 f2
  · rintro bb ⟨i, o1, cc, h1, hf, h2⟩
    by_cases he : i = b
    · subst he; rw [upd_same] at h2; injection h2 with h2
      rcases hlocb bb cc h2 with h | h
      · exact .inl (hownB bb h)
      · exact .inr (by omega)
    · rw [upd_other _ _ he] at h1 h2
      by_cases he2 : i = id
      · subst he2; rw [upd_same] at h1; cases h1
      · rw [upd_other _ _ he2] at h1
        exact .inl ⟨i, o1, cc, h1, hf, h2⟩


theorem op_append (hs : Sat0 F β ok e m a w) (hb : β b = none) {t : TypeId} {T k bytes : Nat} {S X : Operand} {s x : XA} (ho : o.op = .call { callee := .builtin .append, args := #[S, X], argTypes := #[t, t] })
    (hu : slElem P t = some (T, k, bytes)) (hz : ∃ z, tyZero P T = some z ∧ z.length = k) (hS : cA S = some s) (hX : cA X = some x) (h : vopF (.append T k bytes s x) e m b = some (p, d)) :
    OpOk P F β ok e m a w b o p d := by
  obtain ⟨hu1, hk0, hsz, i, hi, hi1, hi2, hb0⟩ := slElem_some hu
  obtain ⟨z, hz, hzk⟩ := hz
  obtain ⟨zv, hzv, hzl, _⟩ : ∃ v, i.zero = some v ∧ v.cells.size = k ∧ True := by
    unfold tyZero at hz
    cases hz0 : i.zero with
    | none => simp [hi, hz0] at hz
    | some v =>
      simp [hi, hz0] at hz
      have := (mapM_some hz).1
      exact ⟨v, rfl, by rw [← hzk]; simpa using this.symm, trivial⟩
  simp only [vopF, Option.bind_eq_some_iff] at h
  obtain ⟨ps, hps, q, hq, ys, hys, h⟩ := h
  have hrs := ev_rep hs hS hps
  have hrx := ev_rep hs hX hq
  cases ps <;> simp only [reduceCtorEq] at h
  rotate_left
  · split at h
    case isFalse => cases h
    rename_i hc
    simp only [Option.some.injEq, Prod.mk.injEq] at h
    obtain ⟨rfl, rfl⟩ := h
    generalize hsv : a.eval S = sv at *
    cases hrs
    obtain ⟨A, c, hv, hel⟩ := elems_rep hs.mem hys hrx
    have := append_core (id := b) (xs := []) (vs := []) hs hb ho hu1 hi hzv hi1 hi2 hzl hk0 hb0 hsv hv (.inl rfl) (World.ownsRow_nil w 0 T k) (by simp) (by simp) (by simp) (by simp) hel hc.1 (by simpa using hc.2) (fun g hg => by simp [Value.ownBlock] at hg) (fun _ _ _ _ _ _ _ h4 => by simp [Value.ownBlock] at h4)
    simp only [List.length_nil, Nat.zero_add, List.nil_append] at this
    obtain ⟨v, w', β', h1, h2, h3, h4⟩ := this
    refine ⟨v, w', β', h1, h2, ?_, h4⟩
    have e : m.upds [(b, none), (b, some (.row k ys T false))] = m.upds [(b, some (.row k ys T false))] := by
      funext id'; simp only [Mem.upds, List.foldl_cons, List.foldl_nil, upd]; split <;> simp_all
    rw [e] at h3
    exact h3
  rename_i id n
  cases hid : m id with
  | none => simp [hid] at h
  | some ob =>
    rw [hid] at h
    cases ob with
    | box => simp at h
    | map => simp at h
    | iter => simp at h
    | loop => simp at h
    | row k' xs T' fz =>
      cases fz with
      | true => simp at h
      | false =>
        dsimp only at h
        split at h
        case isFalse => cases h
        rename_i hc
        obtain ⟨rfl, rfl, rfl, hyk, hby⟩ := hc
        simp only [Option.some.injEq, Prod.mk.injEq] at h
        obtain ⟨rfl, rfl⟩ := h
        obtain ⟨l, hl, hob⟩ := hs.mem.objs id _ hid
        obtain ⟨vs, sv', hsv', hown, hvl, g5, g6, g7, hloc⟩ := hob.owns hl hrs
        obtain ⟨A, c, hv, hel⟩ := elems_rep hs.mem hys hrx
        generalize hsv : a.eval S = sv at *
        generalize hxv : a.eval X = xv at *
        subst hv
        refine append_core hs hb ho hu1 hi hzv hi1 hi2 hzl hk0 hb0 hsv hxv hsv' hown hvl g5 g6 g7 hel hyk hby (fun g hg => ?_) fun i' o1 bb cc h1 h2 h3 h4 => ?_
        · rcases hloc with ⟨rfl, _⟩ | ⟨g', cap, rfl, rfl⟩
          · simp [Value.ownBlock] at hg
          · simp [Value.ownBlock] at hg
            subst hg
            exact ⟨id, _, cap, hid, rfl, hl⟩
        · rcases hloc with ⟨rfl, _⟩ | ⟨g', cap, rfl, rfl⟩
          · simp [Value.ownBlock] at h4
          · simp [Value.ownBlock] at h4
            subst h4
            exact h2 (hs.mem.disj' h1 hid h3 hl rfl)

end
end Go.Vx
/- The engine, part 13a: maps. -/
set_option linter.unusedVariables false
set_option linter.unusedSimpArgs false
namespace Go.Vx
open Go Go.RowKit

def isCells : Go.Obj → Bool
  | .cells .. => true
  | _ => false
theorem run_getObj {P : Program} {w : World} {r : Nat} {o : Go.Obj} (hb : w.heap[r]? = some o) (ho : isCells o = false) : (getObj r).run P w = .ok o w := by
  cases o <;> simp_all [isCells, getObj, Sem.run]
/-- A block that is turned. -/
def setB (w : World) (r : Nat) (o : Go.Obj) : World := { w with heap := w.heap.setIfInBounds r o }
theorem run_setObj {P : Program} {w : World} {r : Nat} {o : Go.Obj} (o' : Go.Obj) (hb : w.heap[r]? = some o) (ho : isCells o = false) : (setObj r o').run P w = .ok () (setB w r o') := by
  cases o <;> simp_all [isCells, setObj, Sem.run, setB]
theorem setB_same {w : World} {r : Nat} {o : Go.Obj} (h : r < w.heap.size) : (setB w r o).heap[r]? = some o := by simp [setB, h]
theorem setB_other {w : World} {r : Nat} {o : Go.Obj} (k : Nat) (h : k ≠ r) : (setB w r o).heap[k]? = w.heap[k]? := by
  simp [setB, Array.getElem?_setIfInBounds_ne (Ne.symm h)]
theorem setB_size {w : World} {r : Nat} {o : Go.Obj} : (setB w r o).heap.size = w.heap.size := by simp [setB]

section
variable {P : Program} {F : Fr} {β : Ids} {ok : Nat → Prop} {e : Nat → Option PV} {m : Mem} {a : Act} {w : World} {b : Nat} {o : Oper} {p : PV} {d : Delta} {g : Bool} {ks : List PV} {t : TypeId}

theorem keyKs_inv (h : keyKs P t = some (g, ks)) : (g = false ∧ ∃ k, ks = [k] ∧ ((P.underlying t = some .bool ∧ k = .bool false) ∨ (∃ K, P.underlying t = some (.int K) ∧ k = .int K 0) ∨ (P.underlying t = some .string ∧ k = .str []))) ∨
    (g = true ∧ ∃ fs, P.underlying t = some (.struct fs) ∧ scal P 20 t = some ks) := by
  unfold keyKs at h
  split at h <;> rename_i hu
  · injection h with h; injection h with h1 h2; subst h1; subst h2; exact .inl ⟨rfl, _, rfl, .inl ⟨hu, rfl⟩⟩
  · injection h with h; injection h with h1 h2; subst h1; subst h2; exact .inl ⟨rfl, _, rfl, .inr (.inl ⟨_, hu, rfl⟩)⟩
  · injection h with h; injection h with h1 h2; subst h1; subst h2; exact .inl ⟨rfl, _, rfl, .inr (.inr ⟨hu, rfl⟩)⟩
  · simp only [Option.map_eq_some_iff] at h
    obtain ⟨ks', hk, h⟩ := h
    injection h with h1 h2; subst h1; subst h2
    exact .inr ⟨rfl, _, hu, hk⟩
  · cases h

theorem keq_false {k p q : PV} {r : Bool} (h : keq false [k] p q = some r) : eq1 k p q = some r := by
  unfold keq at h
  split at h
  · simp at h
  · simpa using h
theorem keq_true {p q : PV} {r : Bool} (h : keq true ks p q = some r) : ∃ cs ds, p = .agg cs ∧ q = .agg ds ∧ eqCells ks cs ds = some r := by
  unfold keq at h
  split at h
  · exact ⟨_, _, rfl, rfl, by simpa using h⟩
  · simp at h

/-- Two keys are held against each other. -/
theorem key_same (hk : keyKs P t = some (g, ks)) {q q' : PV} {u v : Value} {r : Bool} (h : keq g ks q q' = some r) (h1 : Rep w ok β q u) (h2 : Rep w ok β q' v) :
    ∃ d, P.underlying t = some d ∧ ((g = false ∧ Instr.sameNow d u v = some r) ∨ (g = true ∧ Instr.sameNow d u v = none ∧ (Op.equal t u v).run P w = .ok r w)) := by
  rcases keyKs_inv hk with ⟨rfl, k, rfl, hh⟩ | ⟨rfl, fs, hu, hs⟩
  · have h := keq_false h
    rcases hh with ⟨hu, rfl⟩ | ⟨K, hu, rfl⟩ | ⟨hu, rfl⟩
    · obtain ⟨x, y, rfl, rfl, rfl⟩ := eq1_bool h
      cases h1; cases h2
      exact ⟨_, hu, .inl ⟨rfl, by cases x <;> cases y <;> rfl⟩⟩
    · obtain ⟨x, y, rfl, rfl, rfl⟩ := eq1_int h
      cases h1; cases h2
      exact ⟨_, hu, .inl ⟨rfl, by simp [Instr.sameNow]; rfl⟩⟩
    · obtain ⟨x, y, rfl, rfl, rfl⟩ := eq1_str h
      cases h1; cases h2
      refine ⟨_, hu, .inl ⟨rfl, ?_⟩⟩
      simp only [Instr.sameNow, Option.some.injEq]
      rw [← beqL, beq_toListBytes, ByteArray.toList_mk, ByteArray.toList_mk]
  · obtain ⟨cs, ds, rfl, rfl, h⟩ := keq_true h
    cases h1 with
    | agg _ vs hl1 h11 hr1 =>
      cases h2 with
      | agg _ us hl2 h22 hr2 =>
        have heq := eq_scal 20 t ks hs 10000 (by omega) cs ds vs us r hl1 hl2 hr1 hr2 h
        simp only [valOf, tyAgg, hu, if_true] at heq
        exact ⟨_, hu, .inr ⟨rfl, by simp [Instr.sameNow], heq⟩⟩

/-- How entries lie. -/
def Ents (w : World) (ok : Nat → Prop) (β : Ids) (es : List (PV × PV)) (ents : List MapEntry) : Prop :=
  ents.length = es.length ∧ ∀ (j : Nat) e x, es[j]? = some e → ents[j]? = some x → Rep w ok noIds e.1 x.key ∧ Rep w ok β e.2 x.val ∧ x.born = j

def Found (w : World) (ok : Nat → Prop) (β : Ids) : Option (Nat × PV) → Option (Nat × Value) → Prop
  | none, none => True
  | some (i, p), some (j, v) => i = j ∧ Rep w ok β p v
  | _, _ => False

theorem find_now {d : TypeDesc} (hk : keyKs P t = some (g, ks)) (hd : P.underlying t = some d) (hg : g = false) {q : PV} {u : Value} (hq : Rep w ok β q u) : ∀ (es : List (PV × PV)) (ents : List MapEntry) (i : Nat) (r : Option (Nat × PV)), ents.length = es.length →
    (∀ (j : Nat) e x, es[j]? = some e → ents[j]? = some x → Rep w ok noIds e.1 x.key ∧ Rep w ok β e.2 x.val) → mfind g ks q es i = some r → ∃ r', Instr.findNow d u ents i = some r' ∧ Found w ok β r r'
  | [], [], i, r, _, _, h => by simp [mfind] at h; subst h; exact ⟨none, rfl, trivial⟩
  | e :: es, x :: ents, i, r, hl, hr, h => by
    simp only [mfind, Option.bind_eq_some_iff] at h
    obtain ⟨c, hc, h⟩ := h
    obtain ⟨h1, h2⟩ := hr 0 e x rfl rfl
    obtain ⟨d', hd', hh⟩ := key_same hk hc hq h1.any
    rw [hd] at hd'; injection hd' with hd'; subst hd'
    rcases hh with ⟨_, hsn⟩ | ⟨hg', _⟩
    · simp only [Instr.findNow, hsn]
      cases c with
      | true => simp at h; subst h; exact ⟨_, rfl, rfl, h2⟩
      | false => exact find_now hk hd hg hq es ents (i + 1) r (by simpa using hl) (fun j e x h1 h2 => hr (j + 1) e x (by simpa using h1) (by simpa using h2)) (by simpa using h)
    · rw [hg] at hg'; cases hg'
  | [], _ :: _, _, _, h, _, _ => by simp at h
  | _ :: _, [], _, _, h, _, _ => by simp at h

theorem find_asking (hk : keyKs P t = some (g, ks)) (hg : g = true) {q : PV} {u : Value} (hq : Rep w ok β q u) : ∀ (es : List (PV × PV)) (ents : List MapEntry) (i : Nat) (r : Option (Nat × PV)), ents.length = es.length →
    (∀ (j : Nat) e x, es[j]? = some e → ents[j]? = some x → Rep w ok noIds e.1 x.key ∧ Rep w ok β e.2 x.val) → mfind g ks q es i = some r → ∃ r', (Instr.findAsking t u ents i).run P w = .ok r' w ∧ Found w ok β r r'
  | [], [], i, r, _, _, h => by simp [mfind] at h; subst h; exact ⟨none, rfl, trivial⟩
  | e :: es, x :: ents, i, r, hl, hr, h => by
    simp only [mfind, Option.bind_eq_some_iff] at h
    obtain ⟨c, hc, h⟩ := h
    obtain ⟨h1, h2⟩ := hr 0 e x rfl rfl
    obtain ⟨d', hd', hh⟩ := key_same hk hc hq h1.any
    rcases hh with ⟨hg', _⟩ | ⟨_, _, hrun⟩
    · rw [hg] at hg'; cases hg'
    · simp only [Instr.findAsking, Sem.run_bind, hrun, Result.andThen_ok]
      cases c with
      | true => simp at h; subst h; exact ⟨_, rfl, rfl, h2⟩
      | false => exact find_asking hk hg hq es ents (i + 1) r (by simpa using hl) (fun j e x h1 h2 => hr (j + 1) e x (by simpa using h1) (by simpa using h2)) (by simpa using h)
  | [], _ :: _, _, _, h, _, _ => by simp at h
  | _ :: _, [], _, _, h, _, _ => by simp at h

theorem run_find (hk : keyKs P t = some (g, ks)) {q : PV} {u : Value} (hq : Rep w ok β q u) {es : List (PV × PV)} {ents : List MapEntry} {r : Option (Nat × PV)} (he : Ents w ok β es ents) (h : mfind g ks q es 0 = some r) :
    ∃ r', (Instr.findKey t u ents).run P w = .ok r' w ∧ Found w ok β r r' := by
  have hr : ∀ (j : Nat) e x, es[j]? = some e → ents[j]? = some x → Rep w ok noIds e.1 x.key ∧ Rep w ok β e.2 x.val := fun j e x h1 h2 => ⟨(he.2 j e x h1 h2).1, (he.2 j e x h1 h2).2.1⟩
  obtain ⟨d, hd⟩ : ∃ d, P.underlying t = some d := by
    rcases keyKs_inv hk with ⟨_, k, _, ⟨hu, _⟩ | ⟨K, hu, _⟩ | ⟨hu, _⟩⟩ | ⟨_, fs, hu, _⟩ <;> exact ⟨_, hu⟩
  cases g with
  | false =>
    obtain ⟨r', h1, h2⟩ := find_now hk hd rfl hq es ents 0 r he.1 hr h
    exact ⟨r', by simp [Instr.findKey, run_und hd, h1], h2⟩
  | true =>
    cases ents with
    | nil =>
      have : es = [] := List.eq_nil_of_length_eq_zero (by rw [← he.1]; rfl)
      subst this
      simp [mfind] at h; subst h
      exact ⟨none, by simp [Instr.findKey, run_und hd, Instr.findNow], trivial⟩
    | cons x ents =>
      cases es with
      | nil => simp [Ents] at he
      | cons e es =>
        obtain ⟨r', h1, h2⟩ := find_asking hk rfl hq (e :: es) (x :: ents) 0 r he.1 hr h
        refine ⟨r', ?_, h2⟩
        simp only [mfind, Option.bind_eq_some_iff] at h
        obtain ⟨c, hc, _⟩ := h
        obtain ⟨d', hd', hh⟩ := key_same hk hc hq (hr 0 e x rfl rfl).1.any
        rw [hd] at hd'; injection hd' with hd'; subst hd'
        rcases hh with ⟨hg', _⟩ | ⟨_, hsn, _⟩
        · cases hg'
        · simp only [Instr.findKey, Sem.run_bind, run_und hd, Result.andThen_ok, Instr.findNow, hsn]
          exact h1

theorem check_scal {em : Bool} : ∀ (dd : Nat) (t : TypeId) (ks : List PV), scal P dd t = some ks → ∀ (n : Nat), dd ≤ n → ∀ (cs : List PV) (vs : List Value), vs.length = cs.length → cs.length = ks.length →
    (Instr.checkKey em n t (valOf P t vs)).run P w = .ok () w
  | 0, t, ks, h, _, _, _, _, _, _ => by simp [scal] at h
  | dd + 1, t, ks, h, n, hn, cs, vs, hl1, hl2 => by
    obtain ⟨n, rfl⟩ : ∃ q, n = q + 1 := ⟨n - 1, by omega⟩
    simp only [scal] at h
    split at h <;> rename_i hu
    · simp [Instr.checkKey, run_und hu]
    · simp [Instr.checkKey, run_und hu]
    · simp [Instr.checkKey, run_und hu]
    · rename_i fs
      split at h
      case isTrue => cases h
      rename_i hg
      simp only [valOf, tyAgg, hu, if_true]
      have key : ∀ (l : List Field) (off : Nat) (ks : List PV), scalFs P (scal P dd) off l = some ks → off + ks.length ≤ vs.length →
          (forIn l PUnit.unit fun f (_ : PUnit) => do
            if f.name ≠ "_" then do
              let x ← part f.type vs.toArray f.offset
              Instr.checkKey em n f.type x
              pure (ForInStep.yield PUnit.unit)
            else pure (ForInStep.yield PUnit.unit) : Sem PUnit).run P w = .ok PUnit.unit w := by
        intro l
        induction l with
        | nil => intro off ks _ _; simp
        | cons f l ih =>
          intro off ks hk ho1
          simp only [scalFs] at hk
          split at hk
          case isTrue => cases hk
          rename_i hno
          simp only [Option.bind_eq_some_iff] at hk
          obtain ⟨kf, hkf, hk⟩ := hk
          split at hk
          case isFalse => cases hk
          rename_i hsz
          simp only [Option.map_eq_some_iff] at hk
          obtain ⟨kr, hkr, rfl⟩ := hk
          simp only [List.length_append] at ho1
          have hoff : f.offset = off := by
            rcases Nat.decEq f.offset off with h | h
            · exact absurd (.inr h) hno
            · exact h
          have hne : f.name ≠ "_" := fun h => hno (.inl h)
          have p1 := part_val (P := P) (w := w) (vs := vs) (off := off) hsz (by omega) (scal_kind hkf)
          have q1 := check_scal (em := em) dd f.type kf hkf n (by omega) kf ((vs.drop off).take kf.length) (by simp; omega) rfl
          have hrest := ih (off + kf.length) kr hkr (by omega)
          rw [List.forIn_cons]
          simp only [if_pos hne, hoff, Sem.run_bind, p1, q1, Result.andThen_ok, Sem.run_pure]
          exact hrest
      have h0 := key fs.toList 0 ks h (by omega)
      simp only [Instr.checkKey, Sem.run_bind, run_und hu, Result.andThen_ok]
      rw [← Array.forIn_toList, h0]
      simp
    · cases h

theorem eqCells_true : ∀ {ks cs ds : List PV}, eqCells ks cs ds = some true → ∀ (j : Nat) c d, cs[j]? = some c → ds[j]? = some d → ∃ k, eq1 k c d = some true
  | [], [], [], _, j, c, d, h, _ => by simp at h
  | k :: ks, c :: cs, d :: ds, h, j, c', d', h1, h2 => by
    simp only [eqCells, Option.bind_eq_some_iff] at h
    obtain ⟨x, hx, r, hr, h⟩ := h
    simp at h
    obtain ⟨rfl, rfl⟩ := h
    cases j with
    | zero => simp at h1 h2; subst h1; subst h2; exact ⟨k, hx⟩
    | succ j => exact eqCells_true hr j c' d' (by simpa using h1) (by simpa using h2)
  | [], _ :: _, _, h, _, _, _, _, _ => by simp [eqCells] at h
  | [], [], _ :: _, h, _, _, _, _, _ => by simp [eqCells] at h
  | _ :: _, [], _, h, _, _, _, _, _ => by simp [eqCells] at h
  | _ :: _, _ :: _, [], h, _, _, _, _, _ => by simp [eqCells] at h

theorem eq1_inv {k c d : PV} {r : Bool} (h : eq1 k c d = some r) : (∃ x y, c = .bool x ∧ d = .bool y ∧ r = decide (x = y)) ∨ (∃ K x y, c = .int K x ∧ d = .int K y ∧ r = decide (x = y)) ∨ (∃ x y, c = .str x ∧ d = .str y ∧ r = decide (x = y)) := by
  cases k with
  | bool z => exact .inl (eq1_bool h)
  | int K z => obtain ⟨x, y, h⟩ := eq1_int h; exact .inr (.inl ⟨K, x, y, h⟩)
  | str z => exact .inr (.inr (eq1_str h))
  | _ => simp [eq1] at h

theorem cell_bits {k c d : PV} {u v : Value} (h : eq1 k c d = some true) (h1 : Rep w ok β c u) (h2 : Rep w ok noIds d v) (n : Nat) : Instr.sameBits n v u = true := by
  rcases eq1_inv h with ⟨x, y, rfl, rfl, h'⟩ | ⟨K, x, y, rfl, rfl, h'⟩ | ⟨x, y, rfl, rfl, h'⟩ <;> have h' := of_decide_eq_true h'.symm <;> subst h' <;> cases h1 <;> cases h2 <;> simp only [Instr.sameBits, beq_self_eq_true, Bool.and_self, Bool.and_true]
  rw [beq_toListBytes, beq_self_eq_true]

theorem key_bits {q q' : PV} {u v : Value} (h : keq g ks q q' = some true) (h1 : Rep w ok β q u) (h2 : Rep w ok noIds q' v) : Instr.sameBits 10000 v u = true := by
  unfold keq at h
  split at h
  · rename_i cs ds
    split at h
    case isFalse => cases h
    obtain ⟨l1, l2⟩ := eqCells_len h
    cases h1 with
    | agg _ vs hl1 h11 hr1 =>
      cases h2 with
      | agg _ us hl2 h22 hr2 =>
        have : ∀ n, Instr.sameBits (n + 1) (.agg us.toArray) (.agg vs.toArray) = true := fun n => by
          simp only [Instr.sameBits, Bool.and_eq_true, List.all_eq_true, beq_iff_eq]
          refine ⟨by simp; omega, fun x hx => ?_⟩
          obtain ⟨j, hj⟩ := List.mem_iff_getElem?.1 hx
          rw [List.getElem?_zip_eq_some] at hj
          have hj1 : j < ds.length := by have := (List.getElem?_eq_some_iff.1 hj.1).1; omega
          have hj2 : j < cs.length := by omega
          obtain ⟨k, hk⟩ := eqCells_true h j cs[j] ds[j] (by simp [hj2]) (by simp [hj1])
          exact cell_bits hk (hr1 j _ _ (by simp [hj2]) hj.2) (hr2 j _ _ (by simp [hj1]) hj.1) n
        exact this 9999
  · split at h
    case isTrue => cases h
    split at h
    · exact cell_bits h h1 h2 10000
    · cases h

theorem mfind_inv {q : PV} : ∀ {es : List (PV × PV)} {i0 j : Nat} {p : PV}, mfind g ks q es i0 = some (some (j, p)) → ∃ k q', j = i0 + k ∧ es[k]? = some (q', p) ∧ keq g ks q q' = some true
  | [], _, _, _, h => by simp [mfind] at h
  | e :: es, i0, j, p, h => by
    simp only [mfind, Option.bind_eq_some_iff] at h
    obtain ⟨c, hc, h⟩ := h
    cases c with
    | true =>
      simp only [if_true, Option.some.injEq, Prod.mk.injEq] at h
      exact ⟨0, e.1, by omega, by rw [← h.2]; rfl, hc⟩
    | false =>
      obtain ⟨k, q', h1, h2, h3⟩ := mfind_inv (es := es) (i0 := i0 + 1) (by simpa only [Bool.false_eq_true, if_false] using h)
      exact ⟨k + 1, q', by omega, by simpa using h2, h3⟩

theorem key_check {em : Bool} (hk : keyKs P t = some (g, ks)) {q : PV} {u : Value} (h : keq g ks q q = some true) (h1 : Rep w ok β q u) : (Instr.checkKey em 10000 t u).run P w = .ok () w := by
  rcases keyKs_inv hk with ⟨rfl, k, rfl, hh⟩ | ⟨rfl, fs, hu, hs⟩
  · have this : ∀ n, (Instr.checkKey em (n + 1) t u).run P w = .ok () w := fun n => by
      rcases hh with ⟨hu, rfl⟩ | ⟨K, hu, rfl⟩ | ⟨hu, rfl⟩ <;> simp [Instr.checkKey, run_und hu]
    exact this 9999
  · obtain ⟨cs, ds, rfl, he, h⟩ := keq_true h
    cases h1 with
    | agg _ vs hl1 h11 hr1 =>
      have := check_scal (P := P) (w := w) (em := em) 20 t ks hs 10000 (by omega) cs vs hl1 (eqCells_len h).1
      simpa only [valOf, tyAgg, hu, if_true] using this

/-- A key lies the same wherever it lies. -/
theorem key_any {q : PV} {u : Value} {β' : Ids} (h : keq g ks q q = some true) (h1 : Rep w ok β q u) : Rep w ok β' q u := by
  have one : ∀ {k c : PV} {u : Value}, eq1 k c c = some true → Rep w ok β c u → Rep w ok β' c u := fun {k c u} h h1 => by
    rcases eq1_inv h with ⟨x, y, rfl, _, h⟩ | ⟨K, x, y, rfl, _, h⟩ | ⟨x, y, rfl, _, h⟩ <;> cases h1
    · exact .bool _
    · exact .int _ _
    · exact .str _
  cases g with
  | true =>
    obtain ⟨cs, ds, rfl, he, h⟩ := keq_true h
    injection he with he; subst he
    cases h1 with
    | agg _ vs hl1 h11 hr1 =>
      refine .agg _ vs hl1 h11 fun j c v hc hv => ?_
      obtain ⟨k, hk⟩ := eqCells_true h j c c hc hc
      exact one hk (hr1 j c v hc hv)
  | false =>
    unfold keq at h
    split at h
    · simp at h
    · split at h
      · rename_i hh; cases hh
      split at h
      · exact one h h1
      · cases h

theorem zero_rep {z : PV} (h : tyZ P t = some z) : ∃ v, (zeroValue t).run P w = .ok v w ∧ Rep w ok β z v := by
  unfold tyZ at h
  cases hi : P.info? t with
  | none => simp [hi] at h
  | some i =>
    cases hz : i.zero with
    | none => simp [hi, hz] at h
    | some v => simp [hi, hz] at h; exact ⟨v, by simp [zeroValue, run_info hi, hz], ofVal_rep h⟩

theorem ents_of {cap bb : Nat} {es : List (PV × PV)} (h : ORep w ok β (.at bb cap) (.map es)) : ∃ ents : Array MapEntry, w.heap[bb]? = some (.map ents es.length) ∧ Ents w ok β es ents.toList := by
  obtain ⟨⟨ents, h1, h2, h3⟩, _⟩ := h
  refine ⟨ents, h1, by simpa using h2, fun j e x he hx => ?_⟩
  obtain ⟨y, hy, g1, g2, g3⟩ := h3 j e he
  rw [Array.getElem?_toList] at hx
  rw [hx] at hy; injection hy with hy; subst hy
  exact ⟨g1, g2, g3⟩
theorem of_ents {cap bb : Nat} {es : List (PV × PV)} {ents : Array MapEntry} (h1 : w.heap[bb]? = some (.map ents es.length)) (h2 : Ents w ok β es ents.toList) (h3 : ¬ ok bb) : ORep w ok β (.at bb cap) (.map es) := by
  refine ⟨⟨ents, h1, by simpa using h2.1, fun j e he => ?_⟩, h3⟩
  have hj : j < ents.size := by
    have h5 : ents.size = es.length := by simpa using h2.1
    rw [h5]; exact (List.getElem?_eq_some_iff.1 he).1
  exact ⟨ents[j], by simp [hj], h2.2 j e _ he (by simp [hj])⟩

theorem keyKs_of {Z : Bool → List PV → PV → Option XI} {x : XI} {td : TypeDesc} (hx : compMap P Z td = some x) : ∃ key elem g ks z, td = .map key elem ∧ keyKs P key = some (g, ks) ∧ tyZ P elem = some z ∧ Z g ks z = some x := by
  cases td <;> simp only [compMap, reduceCtorEq, Option.bind_eq_some_iff] at hx
  rename_i key elem
  obtain ⟨⟨g, ks⟩, h1, z, h2, h3⟩ := hx
  exact ⟨key, elem, g, ks, z, rfl, h1, h2, h3⟩

theorem mget_some {q : PV} {es : List (PV × PV)} {r : Option (Nat × PV)} (h : mget g ks q es = some r) : keq g ks q q = some true ∧ mfind g ks q es 0 = some r := by
  unfold mget at h
  split at h
  · rename_i hc; exact ⟨hc, h⟩
  · cases h

/-- A map's entries, behind its value. -/
theorem mes_rep (hm : MSat w ok β m) {p : PV} {v : Value} {es : List (PV × PV)} (h : mes m p = some es) (hr : Rep w ok β p v) :
    (v = .map none ∧ es = [] ∧ p = .nilm) ∨ ∃ id bb cap ents, p = .map id ∧ m id = some (.map es) ∧ β id = some (.at bb cap) ∧ v = .map (some bb) ∧ w.heap[bb]? = some (.map ents es.length) ∧ Ents w ok β es ents.toList := by
  cases p <;> simp only [mes, reduceCtorEq] at h
  · injection h with h; subst h; cases hr; exact .inl ⟨rfl, rfl, rfl⟩
  · rename_i id
    split at h
    case h_2 => cases h
    rename_i es' hid
    injection h with h; subst h
    cases hr with
    | map _ bb cap hb =>
      obtain ⟨ents, h1, h2⟩ := ents_of (hm.orep hid hb)
      exact .inr ⟨id, bb, cap, ents, rfl, hid, hb, rfl, h1, h2⟩

theorem vopLook_rep {okb : Bool} {z : PV} {vz : Value} {r : Option (Nat × PV)} {r' : Option (Nat × Value)} (hz : Rep w ok β z vz) (hf : Found w ok β r r') :
    Rep w ok β (vopLook okb z r) (if okb then .tuple #[(match r' with | some x => x.2 | none => vz), .bool r'.isSome] else (match r' with | some x => x.2 | none => vz)) := by
  have hv : Rep w ok β (mval z r) (match r' with | some x => x.2 | none => vz) ∧ r.isSome = r'.isSome := by
    cases r <;> cases r' <;> simp only [Found] at hf
    · exact ⟨hz, rfl⟩
    · exact ⟨hf.2, rfl⟩
  unfold vopLook
  cases okb
  · exact hv.1
  · refine .tup _ [_, _] rfl fun j c v hc hv' => ?_
    match j with
    | 0 => simp at hc hv'; subst hc; subst hv'; exact hv.1
    | 1 => simp at hc hv'; subst hc; subst hv'; rw [hv.2]; exact .bool _
    | j + 2 => simp at hc

theorem op_lookup (hs : Sat0 F β ok e m a w) {tm key elem : TypeId} {X K : Operand} {x k : XA} {okb : Bool} {z : PV} (ho : o.op = .lookup tm X K okb) (hu : P.underlying tm = some (.map key elem)) (hk : keyKs P key = some (g, ks)) (hz : tyZ P elem = some z)
    (hx : cA X = some x) (hK : cA K = some k) (h : vopF (.lookup g ks z okb x k) e m b = some (p, d)) : OpOk P F β ok e m a w b o p d := by
  simp only [vopF, Option.bind_eq_some_iff] at h
  obtain ⟨pm, hpm, q, hq, es, hes, r, hr, h⟩ := h
  simp only [Option.some.injEq, Prod.mk.injEq] at h
  obtain ⟨rfl, rfl⟩ := h
  have h1 := ev_rep hs hx hpm
  have h2 := ev_rep hs hK hq
  obtain ⟨hkk, hf⟩ := mget_some hr
  generalize hv : a.eval X = vx at h1
  generalize hw : a.eval K = vk at h2
  obtain ⟨vz, hzr, hzz⟩ := zero_rep (P := P) (w := w) (ok := ok) (β := β) hz
  rcases mes_rep hs.mem hes h1 with ⟨rfl, rfl, rfl⟩ | ⟨id, bb, cap, ents, rfl, hid, hb, rfl, g1, g2⟩
  · simp [mfind] at hf; subst hf
    obtain ⟨r', hrun, hfd⟩ := run_find (es := []) (ents := []) hk h2 ⟨rfl, by simp⟩ rfl
    have hr0 : r' = none := by cases r' with | none => rfl | some x => exact hfd.elim
    subst hr0
    refine .value hs ?_ (vopLook_rep (okb := okb) (r := none) (r' := none) hzz trivial)
    simp only [execOp, ho]
    refine exec_value ?_
    simp only [Instr.lookup, Sem.run_bind, run_und hu, Result.andThen_ok, hv, hw, Sem.run_pure, key_check hk hkk h2, Array.toList_empty, hrun, hzr]
    cases okb <;> rfl
  · obtain ⟨r', hrun, hfd⟩ := run_find hk h2 g2 hf
    refine .value hs ?_ (vopLook_rep (okb := okb) (r := r) (r' := r') hzz hfd)
    simp only [execOp, ho]
    refine exec_value ?_
    simp only [Instr.lookup, Sem.run_bind, run_und hu, Result.andThen_ok, hv, hw, Sem.run_pure, run_getObj g1 rfl, key_check hk hkk h2, hrun, hzr]
    cases r' <;> cases okb <;> simp [hzr]

end
end Go.Vx
/- The engine, part 13b: maps that are turned; ranges over maps. -/
set_option linter.unusedVariables false
set_option linter.unusedSimpArgs false
namespace Go.Vx
open Go Go.RowKit

section
variable {P : Program} {F : Fr} {β : Ids} {ok : Nat → Prop} {e : Nat → Option PV} {m : Mem} {a : Act} {w : World} {b : Nat} {o : Oper} {p : PV} {d : Delta} {g : Bool} {ks : List PV} {t : TypeId}

theorem exec_skip {s : Sem Unit} {w' : World} (h : s.run P w = .ok () w') : ((do s; pure Next.skip) : Sem Next).run P w = .ok .skip w' := by
  simp [Sem.run_bind, h]

theorem exec_val2 {s : Sem Value} {v : Value} {w' : World} (h : s.run P w = .ok v w') : ((do pure (Next.value (← s))) : Sem Next).run P w = .ok (.value v) w' := by
  simp [Sem.run_bind, h]
def mputA (ents : Array MapEntry) (n : Nat) (vk vv : Value) : Option (Nat × Value) → Array MapEntry
  | some x => ents.modify x.1 fun e => { e with key := vk, val := vv }
  | none => ents.push { key := vk, val := vv, born := n }

theorem setB_frame {r : Nat} {O : Go.Obj} : (setB w r O).os = w.os ∧ (setB w r O).tape = w.tape ∧ (setB w r O).output = w.output ∧ (setB w r O).drawn = w.drawn := ⟨rfl, rfl, rfl, rfl⟩

/-- An object that lies in a block without cells is turned. -/
theorem OpOk.turn (hs : Sat0 F β ok e m a w) {id : Nat} {ob ob' : Obj} {g cap : Nat} {O : Go.Obj} {v : Value} (hid : m id = some ob) (hf : ob.fz = false) (hf' : ob'.fz = false) (hb : β id = some (.at g cap))
    (hrun : (execOp a.eval o).run P w = .ok (.value v) (setB w g O) ∨ ((execOp a.eval o).run P w = .ok .skip (setB w g O) ∧ v = undef)) (hp : (∀ p v, Rep w ok β p v → Rep (setB w g O) ok β p v) → Rep (setB w g O) ok β p v)
    (ho : (∀ p v, Rep w ok β p v → Rep (setB w g O) ok β p v) → (∀ p v, Rep w ok noIds p v → Rep (setB w g O) ok noIds p v) → ORep (setB w g O) ok β (.at g cap) ob') : OpOk P F β ok e m a w b o p [(id, some ob')] := by
  have hown : Owns β m g := ⟨id, ob, cap, hid, hf, hb⟩
  have hokw : ∀ k, ok k → (setB w g O).heap[k]? = w.heap[k]? := fun k hk => setB_other k fun h => hs.mem.not_ok hown (h ▸ hk)
  refine ⟨v, setB w g O, β, hrun, hp fun p v h => h.mono hokw (fun _ h => h) _ (fun _ _ h => h), ?_, fun _ _ => rfl⟩
  exact hs.change hid hf hf' hb rfl rfl rfl setB_size (Nat.le_refl _) (fun k hk => setB_other k hk) ho

theorem op_mkmap (hs : Sat0 F β ok e m a w) (hb : β b = none) {t : TypeId} (ho : o.op = .makeMap t none) (h : vopF .mkmap e m b = some (p, d)) : OpOk P F β ok e m a w b o p d := by
  simp only [vopF, Option.some.injEq, Prod.mk.injEq] at h
  obtain ⟨rfl, rfl⟩ := h
  refine ⟨.map (some w.heap.size), w.alloc (.map #[] 0), upd β b (some (.at w.heap.size 0)), .inl ?_, .map b _ 0 (by simp [upd]), ?_, fun id h => by simp [upd, h]⟩
  · simp only [execOp, ho]
    refine exec_val2 ?_
    simp [Instr.makeMap]
  · exact hs.alloc hb _ _ 0 ⟨⟨#[], heap_alloc_new w _, rfl, by simp⟩, not_ok_new hs⟩

theorem mput_ents {w' : World} {es : List (PV × PV)} {ents : Array MapEntry} {q pv : PV} {vk vv : Value} {r : Option (Nat × PV)} {r' : Option (Nat × Value)} (hs1 : ∀ p v, Rep w ok β p v → Rep w' ok β p v) (hs2 : ∀ p v, Rep w ok noIds p v → Rep w' ok noIds p v)
    (he : Ents w ok β es ents.toList) (hq : Rep w ok noIds q vk) (hv : Rep w ok β pv vv) (hf : Found w ok β r r') (hr : ∀ j x, r = some (j, x) → j < es.length) :
    Ents w' ok β (mput es q pv r) (mputA ents es.length vk vv r').toList := by
  have hl : ents.size = es.length := by simpa using he.1
  cases r with
  | none =>
    cases r' with
    | some _ => exact hf.elim
    | none =>
      refine ⟨by simp [mput, mputA, hl], fun j e x h1 h2 => ?_⟩
      simp only [mput, mputA, Array.toList_push] at h1 h2
      by_cases hj : j < es.length
      · rw [List.getElem?_append_left hj] at h1
        rw [List.getElem?_append_left (by rw [he.1]; exact hj)] at h2
        obtain ⟨g1, g2, g3⟩ := he.2 j e x h1 h2
        exact ⟨hs2 _ _ g1, hs1 _ _ g2, g3⟩
      · rw [List.getElem?_append_right (by omega)] at h1
        rw [List.getElem?_append_right (by rw [he.1]; omega), he.1] at h2
        have hj0 : j - es.length = 0 := by have := (List.getElem?_eq_some_iff.1 h1).1; simp at this; omega
        rw [hj0] at h1 h2
        simp at h1 h2
        subst h1; subst h2
        exact ⟨hs2 _ _ hq, hs1 _ _ hv, by show es.length = j; omega⟩
  | some x =>
    obtain ⟨i, p0⟩ := x
    cases r' with
    | none => exact hf.elim
    | some y =>
      obtain ⟨i', v0⟩ := y
      obtain ⟨rfl, _⟩ := hf
      have hi := hr i p0 rfl
      refine ⟨by simp [mput, mputA, hl], fun j e x h1 h2 => ?_⟩
      simp only [mput, mputA, Array.toList_modify, List.getElem?_modify, List.getElem?_set] at h1 h2
      by_cases hj : i = j
      · subst hj
        simp only [if_true, hi] at h1 h2
        simp only [Option.map_eq_map, Option.map_eq_some_iff] at h2
        obtain ⟨y, hy, rfl⟩ := h2
        injection h1 with h1; subst h1
        have := (he.2 i es[i] y (by simp [hi]) hy).2.2
        exact ⟨hs2 _ _ hq, hs1 _ _ hv, this⟩
      · rw [if_neg hj] at h1
        obtain ⟨g1, g2, g3⟩ := he.2 j e x h1 (by simpa [hj] using h2)
        exact ⟨hs2 _ _ g1, hs1 _ _ g2, g3⟩

theorem mput_len {es : List (PV × PV)} {q v : PV} {r : Option (Nat × PV)} : (mput es q v r).length = (match r with | some _ => es.length | none => es.length + 1) := by
  cases r <;> simp [mput]

theorem key_stays (hk : keyKs P t = some (g, ks)) {q : PV} {vk : Value} {es : List (PV × PV)} {ents : Array MapEntry} {i : Nat} {x : PV} {v : Value} (he : Ents w ok β es ents.toList) (hq : Rep w ok β q vk) (hf : mfind g ks q es 0 = some (some (i, x))) :
    i < es.length ∧ (Instr.keyThatStays (((ents[i]?).map (·.key)).getD vk) vk).run P w = .ok vk w := by
  obtain ⟨k, q', h1, h2, h3⟩ := mfind_inv hf
  obtain rfl : i = k := by omega
  have hi : i < es.length := (List.getElem?_eq_some_iff.1 h2).1
  have hi' : i < ents.size := by have h5 : ents.size = es.length := by simpa using he.1
                                 omega
  obtain ⟨g1, _, _⟩ := he.2 i _ ents[i] h2 (by simp [hi'])
  refine ⟨hi, ?_⟩
  simp only [Array.getElem?_eq_getElem hi', Option.map_some, Option.getD_some, Instr.keyThatStays, key_bits h3 hq g1, if_true, Sem.run_pure]

theorem op_mapUpd (hs : Sat0 F β ok e m a w) {tm key elem : TypeId} {X K Y : Operand} {x k y : XA} (ho : o.op = .mapUpdate tm X K Y ∨ o.op = .insert tm X K Y) (hu : P.underlying tm = some (.map key elem)) (hk : keyKs P key = some (g, ks))
    (hx : cA X = some x) (hK : cA K = some k) (hY : cA Y = some y) (h : vopF (.mapUpd g ks x k y) e m b = some (p, d)) : OpOk P F β ok e m a w b o p d := by
  simp only [vopF, Option.bind_eq_some_iff] at h
  obtain ⟨pm, hpm, q, hq, pv, hpv, h⟩ := h
  have h1 := ev_rep hs hx hpm
  have h2 := ev_rep hs hK hq
  have h3 := ev_rep hs hY hpv
  cases pm <;> simp only [reduceCtorEq] at h
  rename_i id
  cases hid : m id with
  | none => simp [hid] at h
  | some ob =>
    rw [hid] at h
    cases ob <;> simp only [reduceCtorEq, Option.bind_eq_some_iff] at h
    rename_i es
    obtain ⟨r, hr, h⟩ := h
    split at h
    case isFalse => cases h
    rename_i hnt
    simp only [Option.some.injEq, Prod.mk.injEq] at h
    obtain ⟨rfl, rfl⟩ := h
    obtain ⟨hkk, hf⟩ := mget_some hr
    generalize hv : a.eval X = vx at h1
    generalize hw : a.eval K = vk at h2
    generalize hwy : a.eval Y = vy at h3
    cases h1 with
    | map _ bb cap hb =>
      have hor := hs.mem.orep hid hb
      obtain ⟨ents, g1, g2⟩ := ents_of hor
      obtain ⟨r', hrun, hfd⟩ := run_find hk h2 g2 hf
      have hri : ∀ j x, r = some (j, x) → j < es.length := fun j x h => by subst h; exact (key_stays (v := vk) hk g2 h2 hf).1
      have hbl : bb < w.heap.size := (Array.getElem?_eq_some_iff.1 g1).1
      refine OpOk.turn (v := undef) hs (ob' := .map (mput es q pv r)) (O := .map (mputA ents es.length vk vy r') (mput es q pv r).length) hid rfl rfl hb (.inr ⟨?_, rfl⟩) (fun _ => .tup [] [] rfl (by simp)) fun hs1 hs2 => ?_
      · have hex : (execOp a.eval o).run P w = ((do Instr.mapUpdate tm (a.eval X) (a.eval K) (a.eval Y); pure Next.skip) : Sem Next).run P w := by
          rcases ho with ho | ho <;> simp only [execOp, ho]
        rw [hex]
        refine exec_skip ?_
        simp only [Instr.mapUpdate, Sem.run_bind, run_und hu, Result.andThen_ok, hv, hw, hwy, run_getObj g1 rfl, key_check hk hkk h2, hrun]
        cases r with
        | none =>
          cases r' with
          | some _ => exact hfd.elim
          | none => simp only [run_setObj _ g1 rfl, mput, mputA, List.length_append, List.length_cons, List.length_nil]
        | some z =>
          obtain ⟨i, p0⟩ := z
          cases r' with
          | none => exact hfd.elim
          | some z' =>
            obtain ⟨i', v0⟩ := z'
            obtain ⟨rfl, _⟩ := hfd
            have hst := (key_stays (v := vk) hk g2 h2 hf).2
            simp only [Sem.run_bind, hst, Result.andThen_ok, run_setObj _ g1 rfl, mput, mputA, List.length_set]
      · refine of_ents (setB_same hbl) ?_ hor.2
        exact mput_ents hs1 hs2 g2 (key_any hkk h2) h3 hfd hri

theorem op_mapEnt (hs : Sat0 F β ok e m a w) {tm key elem : TypeId} {X K : Operand} {x k : XA} {z : PV} (ho : o.op = .mapEntry tm X K) (hu : P.underlying tm = some (.map key elem)) (hk : keyKs P key = some (g, ks)) (hz : tyZ P elem = some z)
    (hx : cA X = some x) (hK : cA K = some k) (h : vopF (.mapEnt g ks z x k) e m b = some (p, d)) : OpOk P F β ok e m a w b o p d := by
  simp only [vopF, Option.bind_eq_some_iff] at h
  obtain ⟨pm, hpm, q, hq, h⟩ := h
  have h1 := ev_rep hs hx hpm
  have h2 := ev_rep hs hK hq
  cases pm <;> simp only [reduceCtorEq] at h
  rename_i id
  cases hid : m id with
  | none => simp [hid] at h
  | some ob =>
    rw [hid] at h
    cases ob <;> simp only [reduceCtorEq, Option.bind_eq_some_iff] at h
    rename_i es
    obtain ⟨r, hr, h⟩ := h
    split at h
    case isFalse => cases h
    rename_i hnt
    simp only [Option.some.injEq, Prod.mk.injEq] at h
    obtain ⟨rfl, rfl⟩ := h
    obtain ⟨hkk, hf⟩ := mget_some hr
    generalize hv : a.eval X = vx at h1
    generalize hw : a.eval K = vk at h2
    obtain ⟨vz, hzr, hzz⟩ := zero_rep (P := P) (w := w) (ok := ok) (β := β) hz
    cases h1 with
    | map _ bb cap hb =>
      have hor := hs.mem.orep hid hb
      obtain ⟨ents, g1, g2⟩ := ents_of hor
      obtain ⟨r', hrun, hfd⟩ := run_find hk h2 g2 hf
      have hri : ∀ j x, r = some (j, x) → j < es.length := fun j x h => by subst h; exact (key_stays (v := vk) hk g2 h2 hf).1
      have hbl : bb < w.heap.size := (Array.getElem?_eq_some_iff.1 g1).1
      have hl : ents.size = es.length := by simpa using g2.1
      obtain ⟨vv, hvv⟩ : ∃ vv, vv = (match r' with | some x => x.2 | none => vz) := ⟨_, rfl⟩
      have hval : Rep w ok β (mval z r) vv := by
        subst hvv
        cases r <;> cases r' <;> simp only [Found] at hfd
        · exact hzz
        · exact hfd.2
      obtain ⟨v2, hv2⟩ : ∃ v2, v2 = (match r' with | some x => ((ents[x.1]?).map (fun (e : MapEntry) => e.val)).getD vz | none => vz) := ⟨_, rfl⟩
      have hval2 : Rep w ok β (mval z r) v2 := by
        subst hv2
        cases r with
        | none =>
          cases r' with
          | none => exact hzz
          | some _ => exact hfd.elim
        | some y =>
          obtain ⟨i, p0⟩ := y
          cases r' with
          | none => exact hfd.elim
          | some z' =>
            obtain ⟨i', v0⟩ := z'
            obtain ⟨rfl, _⟩ := hfd
            have hi := hri i p0 rfl
            have hi' : i < ents.size := by omega
            obtain ⟨j, q', j1, j2, j3⟩ := mfind_inv hf
            obtain rfl : i = j := by omega
            have := (g2.2 i _ ents[i] j2 (by simp [hi'])).2.1
            simpa [hi', mval] using this
      refine OpOk.turn (v := .tuple #[vv, .int .i64 (mstamp es r)]) hs (ob' := .map (mput es q (mval z r) r)) (O := .map (mputA ents es.length vk v2 r') (mput es q (mval z r) r).length) hid rfl rfl hb (.inl ?_) (fun hs1 => ?_) fun hs1 hs2 => ?_
      · simp only [execOp, ho]
        refine exec_val2 ?_
        simp only [Instr.mapEntry, Sem.run_bind, run_und hu, Result.andThen_ok, hv, hw, run_getObj g1 rfl, key_check hk hkk h2, hrun]
        cases r with
        | none =>
          cases r' with
          | some _ => exact hfd.elim
          | none =>
            simp only at hvv hv2; subst hvv; subst hv2
            simp only [Sem.run_bind, hzr, Result.andThen_ok, run_setObj _ g1 rfl, mput, mputA, mval, mstamp, List.length_append, List.length_cons, List.length_nil, Sem.run_pure, goInt]
        | some y =>
          obtain ⟨i, p0⟩ := y
          cases r' with
          | none => exact hfd.elim
          | some z' =>
            obtain ⟨i', v0⟩ := z'
            obtain ⟨rfl, _⟩ := hfd
            simp only at hvv hv2; subst hvv; subst hv2
            have hst := (key_stays (v := vk) hk g2 h2 hf).2
            have hi := hri i p0 rfl
            have hi' : i < ents.size := by omega
            obtain ⟨j, q', j1, j2, j3⟩ := mfind_inv hf
            obtain rfl : i = j := by omega
            obtain ⟨_, e2, e3⟩ := g2.2 i _ ents[i] j2 (by simp [hi'])
            have hsame : (ents.modify i fun e => { e with key := vk }) = (ents.modify i fun e => { e with key := vk, val := ents[i].val }) := by
              refine Array.ext (by simp) fun j h1 h2 => ?_
              simp only [Array.getElem_modify]
              split
              · rename_i hij; subst hij; rfl
              · rfl
            simp only [Array.getElem?_eq_getElem hi', Option.map_some, Option.getD_some] at hst ⊢
            simp only [Sem.run_bind, hst, Result.andThen_ok, run_setObj _ g1 rfl, mput, mputA, mval, mstamp, List.length_set, Sem.run_pure, goInt, Array.getElem?_eq_getElem hi', Option.map_some, Option.getD_some, e3, hsame]
      · refine .tup _ [_, _] rfl fun j c v hc hv' => ?_
        match j with
        | 0 => simp at hc hv'; subst hc; subst hv'; exact hs1 _ _ hval
        | 1 => simp at hc hv'; subst hc; subst hv'; exact .int _ _
        | j + 2 => simp at hc
      · refine of_ents (setB_same hbl) ?_ hor.2
        exact mput_ents hs1 hs2 g2 (key_any hkk h2) hval2 hfd hri

theorem op_entSto (hs : Sat0 F β ok e m a w) {tm : TypeId} {X S Y : Operand} {x s y : XA} (ho : o.op = .entryStore tm X S Y) (hx : cA X = some x) (hS : cA S = some s) (hY : cA Y = some y) (h : vopF (.entSto x s y) e m b = some (p, d)) : OpOk P F β ok e m a w b o p d := by
  simp only [vopF, Option.bind_eq_some_iff] at h
  obtain ⟨pm, hpm, q, hq, pv, hpv, i, hi, h⟩ := h
  have h1 := ev_rep hs hx hpm
  have h2 := ev_rep hs hS hq
  have h3 := ev_rep hs hY hpv
  cases pm <;> simp only [reduceCtorEq] at h
  rename_i id
  cases hid : m id with
  | none => simp [hid] at h
  | some ob =>
    rw [hid] at h
    cases ob <;> simp only [reduceCtorEq, Option.bind_eq_some_iff] at h
    rename_i es
    obtain ⟨r, hr, h⟩ := h
    split at h
    case isFalse => cases h
    simp only [Option.some.injEq, Prod.mk.injEq] at h
    obtain ⟨rfl, rfl⟩ := h
    generalize hv : a.eval X = vx at h1
    generalize hw : a.eval S = vk at h2
    generalize hwy : a.eval Y = vy at h3
    obtain ⟨K, rfl⟩ := idx_rep hi h2
    cases h1 with
    | map _ bb cap hb =>
      have hor := hs.mem.orep hid hb
      obtain ⟨ents, g1, g2⟩ := ents_of hor
      have hbl : bb < w.heap.size := (Array.getElem?_eq_some_iff.1 g1).1
      have hl : ents.size = es.length := by simpa using g2.1
      have hil : i < es.length := (List.getElem?_eq_some_iff.1 hr).1
      have hi' : i < ents.size := by omega
      have hfi : ents.findIdx? (fun e => ((e.born : Int) == (i : Int))) = some i := by
        rw [Array.findIdx?_eq_some_iff_getElem]
        refine ⟨hi', ?_, fun j hj => ?_⟩
        · rw [(g2.2 i es[i] ents[i] (by simp [hil]) (by simp [hi'])).2.2]; simp
        · rw [(g2.2 j es[j] ents[j] (by simp) (by simp)).2.2]; simp; omega
      refine OpOk.turn (v := undef) hs (ob' := .map (es.set i (r.1, pv))) (O := .map (ents.modify i fun e => { e with val := vy }) es.length) hid rfl rfl hb (.inr ⟨?_, rfl⟩) (fun _ => .tup [] [] rfl (by simp)) fun hs1 hs2 => ?_
      · simp only [execOp, ho]
        refine exec_skip ?_
        simp only [Instr.entryStore, Sem.run_bind, Result.andThen_ok, hv, hw, hwy, run_getObj g1 rfl, asInt, asIntOf, Sem.run_pure, hfi, run_setObj _ g1 rfl]
      · refine of_ents (ents := ents.modify i fun e => { e with val := vy }) (by rw [List.length_set]; exact setB_same hbl) ?_ hor.2
        refine ⟨by simp [hl], fun j e x h1 h2 => ?_⟩
        simp only [Array.toList_modify, List.getElem?_modify, List.getElem?_set] at h1 h2
        by_cases hj : i = j
        · subst hj
          simp only [if_true, hil] at h1 h2
          simp only [Option.map_eq_map, Option.map_eq_some_iff] at h2
          obtain ⟨y, hy, rfl⟩ := h2
          injection h1 with h1; subst h1
          obtain ⟨j1, j2, j3⟩ := g2.2 i r y hr hy
          exact ⟨hs2 _ _ j1, hs1 _ _ h3, j3⟩
        · rw [if_neg hj] at h1
          obtain ⟨g1, g2, g3⟩ := g2.2 j e x h1 (by simpa [hj] using h2)
          exact ⟨hs2 _ _ g1, hs1 _ _ g2, g3⟩

theorem op_lenM (hs : Sat0 F β ok e m a w) {X : Operand} {x : XA} {t kt et : TypeId} (ho : o.op = .call { callee := .builtin .len, args := #[X], argTypes := #[t] }) (ht : P.underlying t = some (.map kt et)) (hx : cA X = some x)
    (h : vopF (.lenM x) e m b = some (p, d)) : OpOk P F β ok e m a w b o p d := by
  simp only [vopF, Option.bind_eq_some_iff] at h
  obtain ⟨pm, hpm, es, hes, h⟩ := h
  simp only [Option.some.injEq, Prod.mk.injEq] at h
  obtain ⟨rfl, rfl⟩ := h
  have h1 := ev_rep hs hx hpm
  generalize hv : a.eval X = vx at h1
  refine .value hs (v := .int .i64 es.length) ?_ (.int _ _)
  rcases mes_rep hs.mem hes h1 with ⟨rfl, rfl, rfl⟩ | ⟨id, bb, cap, ents, rfl, hid, hb, rfl, g1, g2⟩
  · simp [execOp, ho, resolve, invoke, builtin, hv, Builtin.len_, run_und ht, goInt]
  · have hl : ents.size = es.length := by simpa using g2.1
    simp [execOp, ho, resolve, invoke, builtin, hv, Builtin.len_, run_und ht, run_getObj g1 rfl, goInt, hl]

theorem run_eqNilM {t kt et : TypeId} (ht : P.underlying t = some (.map kt et)) (c : Option Nat) : (Op.equal t (.map none) (.map c)).run P w = .ok c.isNone w := by
  have : ∀ n, (Op.equalIn (n + 1) t (.map none) (.map c)).run P w = .ok c.isNone w := fun n => by simp [Op.equalIn, run_und ht]
  exact this 9999
theorem run_eqNilM' {t kt et : TypeId} (ht : P.underlying t = some (.map kt et)) (c : Nat) : (Op.equal t (.map (some c)) (.map none)).run P w = .ok false w := by
  have : ∀ n, (Op.equalIn (n + 1) t (.map (some c)) (.map none)).run P w = .ok false w := fun n => by simp [Op.equalIn, run_und ht]
  exact this 9999

theorem op_eqm (hs : Sat0 F β ok e m a w) {X Y : Operand} {x y : XA} {neg : Bool} {t u kt et : TypeId} (ho : o.op = .binOp (if neg then .neq else .eql) t X Y u) (ht : P.underlying t = some (.map kt et)) (hx : cA X = some x) (hy : cA Y = some y)
    (h : vopF (.eqm neg x y) e m b = some (p, d)) : OpOk P F β ok e m a w b o p d := by
  simp only [vopF, Option.bind_eq_some_iff] at h
  obtain ⟨q, hq, r, hr, h⟩ := h
  have h1 := ev_rep hs hx hq
  have h2 := ev_rep hs hy hr
  generalize hv : a.eval X = vx at h1
  generalize hu : a.eval Y = vy at h2
  have hg : ∀ op c d, (eqGuard op t X Y (.map c) (.map d)).run P w = .ok () w := fun op c d => by cases op <;> rfl
  cases q <;> cases r <;> simp at h <;> obtain ⟨rfl, rfl⟩ := h <;> cases h1 <;> cases h2 <;>
    (refine .value hs (v := .bool _) ?_ (.bool _); cases neg <;> simp only [execOp, ho, hv, hu, Bool.false_eq_true, if_false, if_true, binOp, Sem.run_bind, hg, Result.andThen_ok, run_eqNilM ht, run_eqNilM' ht, Sem.run_pure] <;> rfl)

theorem op_range (hs : Sat0 F β ok e m a w) (hb : β b = none) {X : Operand} {x : XA} {t kt et : TypeId} (ho : o.op = .range t X) (ht : P.underlying t = some (.map kt et)) (hx : cA X = some x)
    (h : vopF (.range x) e m b = some (p, d)) : OpOk P F β ok e m a w b o p d := by
  simp only [vopF, Option.bind_eq_some_iff] at h
  obtain ⟨q, hq, h⟩ := h
  have h1 := ev_rep hs hx hq
  generalize hv : a.eval X = vx at h1
  have key : ∀ (mid : Option Nat) (n : Nat) (mo : Option Nat), (Instr.range t vx).run P w = .ok (.pointer (some ⟨w.heap.size, 0, none⟩)) (w.alloc (.mapIter mo n #[] n)) → (match (mid : Option Nat) with
      | none => mo = none
      | some id => ∃ mb cap, mo = some mb ∧ β id = some (.at mb cap)) → OpOk P F β ok e m a w b o (.ptr b 0 0 0) [(b, some (.iter mid n [] n))] := by
    intro mid n mo hrun hmid
    refine ⟨.pointer (some ⟨w.heap.size, 0, none⟩), w.alloc (.mapIter mo n #[] n), upd β b (some (.at w.heap.size 0)), .inl ?_, ?_, ?_, fun id h => by simp [upd, h]⟩
    · simp only [execOp, ho, hv]
      exact exec_val2 hrun
    · exact .ptr b 0 0 0 _ 0 (by simp [upd])
    · refine hs.alloc hb _ _ 0 ⟨⟨mo, heap_alloc_new w _, ?_, by simp⟩, not_ok_new hs⟩
      cases mid with
      | none => exact hmid
      | some id =>
        obtain ⟨mb, cap, e1, e2⟩ := hmid
        exact ⟨mb, cap, e1, beta_upd hb _ _ e2⟩
  cases q <;> simp only [reduceCtorEq] at h
  · simp only [Option.some.injEq, Prod.mk.injEq] at h
    obtain ⟨rfl, rfl⟩ := h
    cases h1
    exact key none 0 none (by simp [Instr.range, run_und ht]) rfl
  · rename_i id
    cases hid : m id with
    | none => simp [hid] at h
    | some ob =>
      rw [hid] at h
      cases ob <;> simp only [reduceCtorEq, Option.some.injEq, Prod.mk.injEq] at h
      rename_i es
      obtain ⟨rfl, rfl⟩ := h
      cases h1 with
      | map _ bb cap hbb =>
        obtain ⟨ents, g1, g2⟩ := ents_of (hs.mem.orep hid hbb)
        exact key (some id) es.length (some bb) (by simp [Instr.range, run_und ht, run_getObj g1 rfl]) ⟨bb, cap, rfl, hbb⟩

theorem op_entry (hs : Sat0 F β ok e m a w) {X : Operand} {x : XA} (ho : o.op = .entry X) (hx : cA X = some x) (h : vopF (.entry x) e m b = some (p, d)) : OpOk P F β ok e m a w b o p d := by
  simp only [vopF, Option.bind_eq_some_iff] at h
  obtain ⟨q, hq, h⟩ := h
  have h1 := ev_rep hs hx hq
  generalize hv : a.eval X = vx at h1
  split at h
  case h_2 => cases h
  rename_i it
  split at h
  case h_2 => cases h
  rename_i id n seen last hit
  split at h
  case h_2 => cases h
  rename_i es hid
  simp only [Option.bind_eq_some_iff] at h
  obtain ⟨i, hi, h⟩ := h
  split at h
  case isFalse => cases h
  rename_i hlast
  simp only [Option.bind_eq_some_iff] at h
  obtain ⟨r, hr, h⟩ := h
  simp only [Option.some.injEq, Prod.mk.injEq] at h
  obtain ⟨rfl, rfl⟩ := h
  cases h1 with
  | ptr _ _ _ _ bl cap hb =>
    obtain ⟨⟨mo, k1, k2, k3⟩, _⟩ := hs.mem.orep hit hb
    obtain ⟨mb, cap2, rfl, hmb⟩ := k2
    obtain ⟨ents, g1, g2⟩ := ents_of (hs.mem.orep hid hmb)
    have hil : i < es.length := (List.getElem?_eq_some_iff.1 hr).1
    have hl : ents.size = es.length := by simpa using g2.1
    have hi' : i < ents.size := by omega
    obtain ⟨j1, j2, j3⟩ := g2.2 i r ents[i] hr (by simp [hi'])
    have hfi : ents.find? (fun e => e.born == i) = some ents[i] := by
      rw [Array.find?_eq_some_iff_getElem]
      refine ⟨by simp [j3], i, hi', rfl, fun j hj => ?_⟩
      rw [(g2.2 j es[j] ents[j] (by simp) (by simp)).2.2]; simp; omega
    have hbk : seen.toArray.back? = some i := by simpa using hi
    refine .value hs (v := .tuple #[ents[i].key, ents[i].val]) ?_ (.tup _ [_, _] rfl fun j c v hc hv' => ?_)
    · simp only [execOp, ho, hv]
      refine exec_value ?_
      simp [Instr.entry, run_getObj k1 rfl, run_getObj g1 rfl, hbk, hfi, hlast]
    · match j with
      | 0 => simp at hc hv'; subst hc; subst hv'; exact j1.any
      | 1 => simp at hc hv'; subst hc; subst hv'; exact j2
      | j + 2 => simp at hc

end
end Go.Vx
/- The engine, part 13c: arrays' elements; slices with a bound on their room. -/
set_option linter.unusedVariables false
set_option linter.unusedSimpArgs false
namespace Go.Vx
open Go Go.RowKit

section
variable {P : Program} {F : Fr} {β : Ids} {ok : Nat → Prop} {e : Nat → Option PV} {m : Mem} {a : Act} {w : World} {b : Nat} {o : Oper} {p : PV} {d : Delta}

theorem op_indexV (hs : Sat0 F β ok e m a w) {X I : Operand} {x i : XA} {t el : TypeId} {k len : Nat} {gg : Bool} (ho : o.op = .index t X I) (hu : P.underlying t = some (.array len el)) (hk : tySize P el = some k) (hg : tyAgg P el = some gg)
    (hx : cA X = some x) (hi : cA I = some i) (h : vopF (.indexV k len (!gg) x i) e m b = some (p, d)) : OpOk P F β ok e m a w b o p d := by
  simp only [vopF, Option.bind_eq_some_iff] at h
  obtain ⟨q, hq, r, hr, j, hj, h⟩ := h
  have h1 := ev_rep hs hx hq
  have h2 := ev_rep hs hi hr
  obtain ⟨K, hK⟩ := idx_rep hj h2
  generalize hv : a.eval X = vx at h1
  split at h
  case h_2 => cases h
  rename_i cs
  split at h
  case isFalse => cases h
  rename_i hc
  obtain ⟨hjl, hle⟩ := hc
  cases h1 with
  | agg _ vs hl h11 hr1 =>
    have hrun : ∀ u, (part el vs.toArray (j * k)).run P w = .ok u w → (execOp a.eval o).run P w = .ok (.value u) w := fun u hu' => by
      simp only [execOp, ho]
      refine exec_value ?_
      have hjl' : 0 ≤ (j : Int) ∧ (j : Int) < (len : Int) := by omega
      simp only [Instr.index, hK, hv, asIntOf, Sem.run_bind, Sem.run_pure, run_und hu, Result.andThen_ok, if_pos hjl', run_sizeOf hk, Int.toNat_natCast, hu']
    cases gg with
    | true =>
      simp only [Bool.not_true, Bool.false_eq_true, if_false, Option.some.injEq, Prod.mk.injEq] at h
      obtain ⟨rfl, rfl⟩ := h
      refine .value hs (hrun _ (part_agg hg hk)) ?_
      have hex : (vs.toArray.extract (j * k) (j * k + k)) = ((vs.drop (j * k)).take k).toArray := by
        apply Array.ext'
        simp [List.take_drop]
      rw [hex]
      refine .agg _ _ (by simp [hl]) (fun c hc => h11 c (List.mem_of_mem_drop (List.mem_of_mem_take hc))) fun q c v hc hv' => ?_
      have hq : q < k := by have := (List.getElem?_eq_some_iff.1 hc).1; simp at this; omega
      rw [List.getElem?_take_of_lt hq, List.getElem?_drop] at hc hv'
      exact hr1 _ c v hc hv'
    | false =>
      simp only [Bool.not_false, if_true, Option.bind_eq_some_iff] at h
      obtain ⟨c, hc, h⟩ := h
      simp only [Option.some.injEq, Prod.mk.injEq] at h
      obtain ⟨rfl, rfl⟩ := h
      have hc2 : (cs.drop (j * k)).take k = [c] := by
        unfold head1 at hc
        split at hc
        · rename_i heq; injection hc with hc; rw [heq, hc]
        · cases hc
      have hc3 : cs[j * k]? = some c := by
        have h0 : ((cs.drop (j * k)).take k)[0]? = some c := by rw [hc2]; rfl
        have hk0 : 0 < k := by
          rcases Nat.eq_zero_or_pos k with h | h
          · rw [h] at hc2; simp at hc2
          · exact h
        rw [List.getElem?_take_of_lt hk0, List.getElem?_drop] at h0
        simpa using h0
      have hlt : j * k < vs.length := by rw [hl]; exact (List.getElem?_eq_some_iff.1 hc3).1
      refine .value hs (hrun vs[j * k] (part_one hg (by simp [hlt]))) (hr1 _ c _ hc3 (by simp [hlt]))

theorem isZ_eval {X : Operand} (h : isZ X = true) : ∃ K, a.eval X = .int K 0 := by
  unfold isZ at h
  split at h
  · rename_i K; exact ⟨K, rfl⟩
  · cases h

theorem op_slice0 (hs : Sat0 F β ok e m a w) (hb : β b = none) {t el : TypeId} {k : Nat} {X H M : Operand} {x : XA} (ho : o.op = .slice t X none (some H) (some M)) (hu : P.underlying t = some (.slice el)) (hk : tySize P el = some k)
    (hH : isZ H = true) (hM : isZ M = true) (hx : cA X = some x) (h : vopF (.slice0 el k x) e m b = some (p, d)) : OpOk P F β ok e m a w b o p d := by
  simp only [vopF, Option.bind_eq_some_iff] at h
  obtain ⟨q, hq, h⟩ := h
  have h1 := ev_rep hs hx hq
  generalize hv : a.eval X = vx at h1
  obtain ⟨K1, hK1⟩ := isZ_eval (a := a) hH
  obtain ⟨K2, hK2⟩ := isZ_eval (a := a) hM
  have hform : ∃ A n c, vx = .slice A n c := by
    cases q <;> simp only [reduceCtorEq] at h <;> cases h1 <;> exact ⟨_, _, _, rfl⟩
  obtain ⟨A, n, c, rfl⟩ := hform
  have hpd : p = .osl b 0 ∧ d = [(b, some (.row k [] el false))] := by
    cases q <;> simp only [reduceCtorEq, Option.some.injEq, Prod.mk.injEq] at h <;> exact ⟨h.1.symm, h.2.symm⟩
  obtain ⟨rfl, rfl⟩ := hpd
  have hbm := beta_upd (l := .nil) hb
  refine ⟨.slice A 0 0, w, upd β b (some .nil), .inl ?_, .osl0 b A (by simp [upd]), ?_, fun id h => by simp [upd, h]⟩
  · simp only [execOp, ho]
    refine exec_value ?_
    cases A <;> simp [Instr.sliceAt, Instr.slice, run_und hu, hv, hK1, hK2, Instr.sliceBounds, Instr.sliceBound, asIntOf, run_sizeOf hk]
  · refine hs.step (fun _ => False) (fun _ _ _ => rfl) (fun _ _ h => h.elim) rfl rfl rfl (Nat.le_refl _) (Nat.le_refl _) hbm ⟨?_, ?_⟩ ?_
    · intro id o' hid
      simp only [Mem.upds, List.foldl_cons, List.foldl_nil, upd] at hid
      by_cases he : id = b
      · subst he
        simp at hid; subst hid
        exact ⟨.nil, by simp [upd], rfl⟩
      · simp [he] at hid
        obtain ⟨l, hl, hr⟩ := hs.mem.objs id o' hid
        exact ⟨l, hbm _ _ hl, hr.mono (fun _ _ => rfl) (fun _ h => h) hbm (fun _ _ _ => ⟨rfl, fun h => h⟩)⟩
    · intro i1 i2 o1 o2 bb c1 c2 h1 h2 h3 h4 f1 f2
      simp only [Mem.upds, List.foldl_cons, List.foldl_nil, upd] at h1 h2 h3 h4
      by_cases e1 : i1 = b
      · simp [e1] at h3
      · by_cases e2 : i2 = b
        · simp [e2] at h4
        · simp [e1] at h1 h3
          simp [e2] at h2 h4
          exact hs.mem.disj i1 i2 o1 o2 bb c1 c2 h1 h2 h3 h4 f1 f2
    · rintro bb ⟨id, o', c, hid, hf, hbe⟩
      simp only [Mem.upds, List.foldl_cons, List.foldl_nil, upd] at hid hbe
      by_cases he : id = b
      · simp [he] at hbe
      · simp [he] at hid hbe
        exact .inl ⟨id, o', c, hid, hf, hbe⟩

end
end Go.Vx
/- The engine, part 13: every operation that is turned does what is said. -/
set_option linter.unusedVariables false
set_option linter.unusedSimpArgs false
namespace Go.Vx
open Go Go.RowKit

section
variable {P : Program} {F : Fr} {β : Ids} {ok : Nat → Prop} {e : Nat → Option PV} {m : Mem} {a : Act} {w : World} {b : Nat} {o : Oper} {p : PV} {d : Delta}

theorem cA2_some {x y : Operand} {f : XA → XA → XI} {r : XI} (h : cA2 x y f = some r) : ∃ u v, cA x = some u ∧ cA y = some v ∧ r = f u v := by
  simp only [cA2, Option.bind_eq_some_iff, Option.map_eq_some_iff] at h
  obtain ⟨u, hu, v, hv, rfl⟩ := h
  exact ⟨u, v, hu, hv, rfl⟩

theorem isNilS_eq {x : Operand} (h : isNilS x = true) : x = .const (.slice none 0 0) := by
  unfold isNilS at h
  split at h
  · rfl
  · cases h

theorem mv_sound (hs : Sat0 F β ok e m a w) (hb : β b = none) {x : XI} {X : Operand} (ho : o.op = .move X ∨ o.op = .assign X) (hx : compMv P o.type X = some x) (h : vopF x e m b = some (p, d)) : OpOk P F β ok e m a w b o p d := by
  unfold compMv at hx
  split at hx
  · rename_i hn
    have := isNilS_eq hn
    subst this
    simp only [Option.map_eq_some_iff] at hx
    obtain ⟨q, hq, rfl⟩ := hx
    exact op_nilrow hs hb ho h
  · simp only [Option.map_eq_some_iff] at hx
    obtain ⟨y, hy, rfl⟩ := hx
    exact op_mv hs ho hy h

theorem toList_one {α : Type} {l : Array α} {x : α} (h : l.toList = [x]) : l = #[x] := by cases l; simp at h; simp [h]
theorem toList_two {α : Type} {l : Array α} {x y : α} (h : l.toList = [x, y]) : l = #[x, y] := by cases l; simp at h; simp [h]

theorem b_sound (hs : Sat0 F β ok e m a w) (hb : β b = none) {x : XI} {bi : Builtin} {args : Array Operand} {ts : Array TypeId} (ho : o.op = .call { callee := .builtin bi, args := args, argTypes := ts })
    (hx : compB P bi args.toList ts.toList = some x) (h : vopF x e m b = some (p, d)) : OpOk P F β ok e m a w b o p d := by
  generalize ha : args.toList = al at hx
  generalize ht : ts.toList = tl at hx
  unfold compB at hx
  split at hx
  · rw [toList_one ha, toList_one ht] at ho
    simp only [Option.bind_eq_some_iff] at hx
    obtain ⟨td, htd, hx⟩ := hx
    cases td <;> simp only [compLen, reduceCtorEq, Option.map_eq_some_iff] at hx
    · obtain ⟨y, hy, rfl⟩ := hx; exact op_lenT hs ho htd hy h
    · obtain ⟨y, hy, rfl⟩ := hx; exact op_lenS hs ho htd hy h
    · obtain ⟨y, hy, rfl⟩ := hx; exact op_lenM hs ho htd hy h
  · rw [toList_two ha] at ho
    obtain ⟨u, v, hu, hv, rfl⟩ := cA2_some hx
    exact op_max2 hs ho hu hv h
  · rw [toList_two ha] at ho
    obtain ⟨u, v, hu, hv, rfl⟩ := cA2_some hx
    exact op_min2 hs ho hu hv h
  · rw [toList_two ha, toList_two ht] at ho
    split at hx
    case isFalse => cases hx
    rename_i htu
    subst htu
    simp only [Option.bind_eq_some_iff] at hx
    obtain ⟨⟨T, k, by'⟩, hq, z, hz, hx⟩ := hx
    split at hx
    case isFalse => cases hx
    rename_i hzk
    obtain ⟨u, v, hu, hv, rfl⟩ := cA2_some hx
    exact op_append hs hb ho hq ⟨z, hz, hzk⟩ hu hv h
  · cases hx

theorem op_sound (hs : Sat0 F β ok e m a w) (hb : β b = none) {x : XI} (hx : comp P o = some x) (h : vopF x e m b = some (p, d)) : OpOk P F β ok e m a w b o p d := by
  unfold comp at hx
  split at hx <;> rename_i ho
  · exact mv_sound hs hb (.inl ho) hx h
  · exact mv_sound hs hb (.inr ho) hx h
  · simp only [Option.bind_eq_some_iff] at hx
    obtain ⟨c, hc, hx⟩ := hx
    obtain ⟨u, v, hu, hv, rfl⟩ := cA2_some hx
    exact op_pick hs ho hc hu hv h
  · simp only [Option.map_eq_some_iff] at hx
    obtain ⟨z, hz, rfl⟩ := hx
    exact op_alloc hs hb ho hz h
  · simp only [Option.bind_eq_some_iff, Option.map_eq_some_iff] at hx
    obtain ⟨k, hk, y, hy, rfl⟩ := hx
    exact op_box hs hb ho hy h
  · simp only [Option.bind_eq_some_iff] at hx
    obtain ⟨td, htd, hx⟩ := hx
    cases td <;> simp only [compBuild, reduceCtorEq, Option.bind_eq_some_iff, Option.map_eq_some_iff] at hx
    · obtain ⟨z, hz, k, hk, ps, hps, rfl⟩ := hx; exact op_buildA hs ho htd hz hk hps h
    · obtain ⟨z, hz, pls, hpls, ps, hps, rfl⟩ := hx; exact op_buildS hs ho htd hz (by simpa only [Option.map_eq_some_iff] using hpls) hps h
  · simp only [Option.bind_eq_some_iff] at hx
    obtain ⟨⟨T, k, by'⟩, hq, z, hz, hx⟩ := hx
    split at hx
    case isFalse => cases hx
    rename_i hle
    simp only [Option.map_eq_some_iff] at hx
    obtain ⟨ps, hps, rfl⟩ := hx
    exact op_mkrow hs hb ho hq hz hle hps h
  · simp only [Option.bind_eq_some_iff] at hx
    obtain ⟨y, hy, g, hg, hx⟩ := hx
    cases g
    · simp at hx; subst hx; exact op_load1 hs ho hg hy h
    · simp at hx; obtain ⟨n, hn, rfl⟩ := hx; exact op_loadn hs ho hg hn hy h
  · simp only [Option.bind_eq_some_iff] at hx
    obtain ⟨n, hn, hx⟩ := hx
    obtain ⟨u, v, hu, hv, rfl⟩ := cA2_some hx
    exact op_store hs ho hn hu hv h
  · simp only [Option.map_eq_some_iff] at hx
    obtain ⟨y, hy, rfl⟩ := hx
    exact op_nilck hs ho hy h
  · simp only [Option.bind_eq_some_iff] at hx
    obtain ⟨td, htd, hx⟩ := hx
    cases td <;> simp only [compFieldA, reduceCtorEq, Option.bind_eq_some_iff] at hx
    obtain ⟨f, hf, k, hk, hx⟩ := hx
    split at hx
    case isTrue => cases hx
    rename_i hk0
    simp only [Option.map_eq_some_iff] at hx
    obtain ⟨y, hy, rfl⟩ := hx
    exact op_fieldA hs ho htd hf hk hk0 hy h
  · simp only [Option.bind_eq_some_iff] at hx
    obtain ⟨td, htd, hx⟩ := hx
    cases td <;> simp only [compIndexA, reduceCtorEq, Option.bind_eq_some_iff] at hx
    · obtain ⟨k, hk, hx⟩ := hx
      split at hx
      case isTrue => cases hx
      obtain ⟨u, v, hu, hv, rfl⟩ := cA2_some hx
      exact op_indexS hs ho htd hk hu hv h
    · obtain ⟨k, hk, hx⟩ := hx
      split at hx
      case isTrue => cases hx
      obtain ⟨u, v, hu, hv, rfl⟩ := cA2_some hx
      exact op_indexA hs ho htd hk hu hv h
  · simp only [Option.bind_eq_some_iff] at hx
    obtain ⟨td, htd, hx⟩ := hx
    cases td <;> simp only [compField, reduceCtorEq, Option.bind_eq_some_iff] at hx
    obtain ⟨f, hf, y, hy, g, hg, hx⟩ := hx
    cases g
    · simp at hx; subst hx; exact op_field1 hs ho htd hf hg hy h
    · simp at hx; obtain ⟨n, hn, rfl⟩ := hx; exact op_fieldn hs ho htd hf hg hn hy h
  · simp only [Option.bind_eq_some_iff] at hx
    obtain ⟨td, htd, hx⟩ := hx
    cases td <;> simp only [compIndex, reduceCtorEq, Option.bind_eq_some_iff] at hx
    case string =>
      obtain ⟨u, v, hu, hv, rfl⟩ := cA2_some hx
      exact op_indexT hs ho htd hu hv h
    case array =>
      obtain ⟨k, hk, gg, hgg, hx⟩ := hx
      obtain ⟨u, v, hu, hv, rfl⟩ := cA2_some hx
      exact op_indexV hs ho htd hk hgg hu hv h
  · rename_i op t X Y u
    simp only [Option.bind_eq_some_iff] at hx
    obtain ⟨td, htd, hx⟩ := hx
    cases td <;> simp only [compBin, reduceCtorEq] at hx
    case map =>
      split at hx
      · rename_i hop; subst hop
        obtain ⟨u, v, hu, hv, rfl⟩ := cA2_some hx
        exact op_eqm (neg := false) hs (by simpa using ho) htd hu hv h
      · split at hx
        case isFalse => cases hx
        rename_i hop; subst hop
        obtain ⟨u, v, hu, hv, rfl⟩ := cA2_some hx
        exact op_eqm (neg := true) hs (by simpa using ho) htd hu hv h
    · split at hx
      · rename_i hop; subst hop
        obtain ⟨u, v, hu, hv, rfl⟩ := cA2_some hx
        exact op_eqb (neg := false) hs (by simpa using ho) htd hu hv h
      · split at hx
        case isFalse => cases hx
        rename_i hop; subst hop
        obtain ⟨u, v, hu, hv, rfl⟩ := cA2_some hx
        exact op_eqb (neg := true) hs (by simpa using ho) htd hu hv h
    · obtain ⟨u, v, hu, hv, rfl⟩ := cA2_some hx
      exact op_bin hs ho hu hv h
    · obtain ⟨u, v, hu, hv, rfl⟩ := cA2_some hx
      exact op_bin hs ho hu hv h
    · split at hx
      · rename_i hop; subst hop
        obtain ⟨u, v, hu, hv, rfl⟩ := cA2_some hx
        exact op_eqp (neg := false) hs (by simpa using ho) htd hu hv h
      · split at hx
        case isFalse => cases hx
        rename_i hop; subst hop
        obtain ⟨u, v, hu, hv, rfl⟩ := cA2_some hx
        exact op_eqp (neg := true) hs (by simpa using ho) htd hu hv h
    · simp only [Option.bind_eq_some_iff] at hx
      obtain ⟨ks, hks, hx⟩ := hx
      split at hx
      · rename_i hop; subst hop
        obtain ⟨u, v, hu, hv, rfl⟩ := cA2_some hx
        exact op_eqs (neg := false) hs (by simpa using ho) htd hks hu hv h
      · split at hx
        case isFalse => cases hx
        rename_i hop; subst hop
        obtain ⟨u, v, hu, hv, rfl⟩ := cA2_some hx
        exact op_eqs (neg := true) hs (by simpa using ho) htd hks hu hv h
  · rename_i op t X
    cases op <;> simp only [compUn, reduceCtorEq, Option.map_eq_some_iff] at hx
    · obtain ⟨y, hy, rfl⟩ := hx; exact op_neg hs ho hy h
    · obtain ⟨y, hy, rfl⟩ := hx; exact op_not hs ho hy h
  · simp only [Option.bind_eq_some_iff] at hx
    obtain ⟨td, htd, td', htd', hx⟩ := hx
    unfold compConv at hx
    split at hx
    case h_2 => cases hx
    simp only [Option.map_eq_some_iff] at hx
    obtain ⟨y, hy, rfl⟩ := hx
    exact op_conv hs ho htd htd' hy h
  · rename_i t X lo hi mx
    split at hx
    case isFalse =>
      simp only [Option.bind_eq_some_iff] at hx
      obtain ⟨td, htd, hx⟩ := hx
      cases td <;> simp only [compSlice3, reduceCtorEq, Option.bind_eq_some_iff] at hx
      obtain ⟨k, hk, hx⟩ := hx
      split at hx
      case isTrue => cases hx
      split at hx
      case h_2 => cases hx
      split at hx
      case isFalse => cases hx
      rename_i hz
      simp only [Bool.and_eq_true] at hz
      simp only [Option.map_eq_some_iff] at hx
      obtain ⟨y, hy, rfl⟩ := hx
      exact op_slice0 hs hb ho htd hk hz.1 hz.2 hy h
    rename_i hmx
    have : mx = none := by simpa using hmx
    subst this
    simp only [Option.bind_eq_some_iff] at hx
    obtain ⟨td, htd, hx⟩ := hx
    cases td <;> simp only [compSlice, reduceCtorEq, Option.bind_eq_some_iff, Option.map_eq_some_iff] at hx
    · obtain ⟨y, hy, l, hl, hh, hhh, rfl⟩ := hx; exact op_sliceT hs ho htd hy hl hhh h
    · obtain ⟨k, hk, hx⟩ := hx
      split at hx
      case isTrue => cases hx
      simp only [Option.bind_eq_some_iff, Option.map_eq_some_iff] at hx
      obtain ⟨y, hy, l, hl, hh, hhh, rfl⟩ := hx
      exact op_sliceS hs ho htd hk hy hl hhh h
  · simp only [Option.bind_eq_some_iff] at hx
    obtain ⟨⟨T, k, by'⟩, hq, z, hz, hx⟩ := hx
    obtain ⟨u, v, hu, hv, rfl⟩ := cA2_some hx
    exact op_mkslice hs hb ho hq hz hu hv h
  · rename_i t r
    split at hx
    case isFalse => cases hx
    rename_i hr
    have : r = none := by simpa using hr
    subst this
    injection hx with hx; subst hx
    exact op_mkmap hs hb ho h
  · simp only [Option.bind_eq_some_iff] at hx
    obtain ⟨td, htd, hx⟩ := hx
    obtain ⟨key, elem, g, ks, z, rfl, h1, h2, hx⟩ := keyKs_of hx
    obtain ⟨u, v, hu, hv, rfl⟩ := cA2_some hx
    exact op_lookup hs ho htd h1 h2 hu hv h
  · simp only [Option.bind_eq_some_iff] at hx
    obtain ⟨td, htd, hx⟩ := hx
    obtain ⟨key, elem, g, ks, z, rfl, h1, h2, hx⟩ := keyKs_of hx
    simp only [Option.bind_eq_some_iff] at hx
    obtain ⟨y, hy, hx⟩ := hx
    obtain ⟨u, v, hu, hv, rfl⟩ := cA2_some hx
    exact op_mapUpd hs (.inl ho) htd h1 hu hv hy h
  · simp only [Option.bind_eq_some_iff] at hx
    obtain ⟨td, htd, hx⟩ := hx
    obtain ⟨key, elem, g, ks, z, rfl, h1, h2, hx⟩ := keyKs_of hx
    simp only [Option.bind_eq_some_iff] at hx
    obtain ⟨y, hy, hx⟩ := hx
    obtain ⟨u, v, hu, hv, rfl⟩ := cA2_some hx
    exact op_mapUpd hs (.inr ho) htd h1 hu hv hy h
  · simp only [Option.bind_eq_some_iff] at hx
    obtain ⟨td, htd, hx⟩ := hx
    obtain ⟨key, elem, g, ks, z, rfl, h1, h2, hx⟩ := keyKs_of hx
    obtain ⟨u, v, hu, hv, rfl⟩ := cA2_some hx
    exact op_mapEnt hs ho htd h1 h2 hu hv h
  · simp only [Option.bind_eq_some_iff] at hx
    obtain ⟨y, hy, hx⟩ := hx
    obtain ⟨u, v, hu, hv, rfl⟩ := cA2_some hx
    exact op_entSto hs ho hu hv hy h
  · simp only [Option.bind_eq_some_iff] at hx
    obtain ⟨td, htd, hx⟩ := hx
    cases td <;> simp only [Bool.false_eq_true, if_false, reduceCtorEq, if_true, Option.map_eq_some_iff] at hx
    obtain ⟨y, hy, rfl⟩ := hx
    exact op_range hs hb ho htd hy h
  · simp only [Option.map_eq_some_iff] at hx
    obtain ⟨y, hy, rfl⟩ := hx
    exact op_entry hs ho hy h
  · simp only [Option.map_eq_some_iff] at hx
    obtain ⟨y, hy, rfl⟩ := hx
    exact op_ext hs ho hy h
  · rename_i fn first caps
    cases fn <;> simp only [compFn, reduceCtorEq] at hx
    split at hx
    case isFalse => cases hx
    rename_i hf
    have : first = #[] := by simpa using hf
    subst this
    simp only [Option.map_eq_some_iff] at hx
    obtain ⟨cs, hcs, rfl⟩ := hx
    exact op_mkfn hs ho hcs h
  · rename_i c
    obtain ⟨callee, args, ts⟩ := c
    unfold compCall at hx
    cases callee with
    | builtin bi => exact b_sound hs hb ho hx h
    | invoke => simp at hx
    | value f =>
      cases f <;> simp only [reduceCtorEq, Option.map_eq_some_iff] at hx
      · obtain ⟨xs, _, rfl⟩ := hx; simp [vopF] at h
      · obtain ⟨xs, _, rfl⟩ := hx; simp [vopF] at h
  · cases hx

end
end Go.Vx
