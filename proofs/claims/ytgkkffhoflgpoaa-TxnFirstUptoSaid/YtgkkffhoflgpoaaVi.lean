/- The engine, part 9: rows: literals, make, stores, append; parts of slices; struct equality. -/
import Derived.Test.YtgkkffhoflgpoaaVh
import Derived.IntWalk
set_option linter.unusedVariables false
set_option linter.unusedSimpArgs false
namespace Go.Vx
open Go Go.RowKit

section
variable {P : Program} {F : Fr} {β : Ids} {ok : Nat → Prop} {e : Nat → Option PV} {m : Mem} {a : Act} {w : World} {b : Nat} {o : Oper} {p : PV} {d : Delta}

/-- A row's cells, pointwise. -/
def LikeR (w : World) (ok : Nat → Prop) (k : Nat) (vs : Array Value) (xs : List (List PV)) : Prop :=
  vs.size = xs.length * k ∧ (∀ x ∈ xs, x.length = k) ∧ (∀ c ∈ xs.flatten, c.one = true) ∧ ∀ (j : Nat) c, xs.flatten[j]? = some c → ∃ u, vs[j]? = some u ∧ Rep w ok noIds c u

theorem likeR_zero {T : TypeId} {z : List PV} {k : Nat} (hz : tyZero P T = some z) (hk : z.length = k) (hk0 : 0 < k) (n : Nat) : ∃ v, (zeroValue T).run P w = .ok v w ∧
    LikeR w ok k ((Array.range (n * k)).map (v.cells[· % v.cells.size]!)) (List.replicate n z) := by
  obtain ⟨v, hv, hl1, hl2, hl3⟩ := like_zero (P := P) (w := w) (ok := ok) (β := noIds) hz
  refine ⟨v, hv, by simp, fun x hx => by rw [List.eq_of_mem_replicate hx, hk], fun c hc => ?_, fun j c hj => ?_⟩
  · obtain ⟨x, hx, hc⟩ := List.mem_flatten.1 hc
    rw [List.eq_of_mem_replicate hx] at hc
    exact hl2 c hc
  · have hkk : ∀ x ∈ List.replicate n z, x.length = k := fun x hx => by rw [List.eq_of_mem_replicate hx, hk]
    have hlt := (List.getElem?_eq_some_iff.1 hj).1
    rw [flat_len hkk] at hlt
    obtain ⟨i, t, x, rfl, ht, hx, hxt⟩ := flat_inv hkk hj
    have hxz : x = z := List.eq_of_mem_replicate (List.mem_of_getElem? hx)
    subst hxz
    obtain ⟨u, hu, hr⟩ := hl3 t c hxt
    refine ⟨u, ?_, hr⟩
    simp at hlt
    have hsz : v.cells.size = k := by omega
    rw [Array.getElem?_map]
    simp [hlt]
    rw [hsz, show (i * k + t) % k = t by rw [Nat.mul_comm, Nat.mul_add_mod]; exact Nat.mod_eq_of_lt ht]
    simp [getElem!_def, hu]

theorem fill_row (hs : Sat0 F β ok e m a w) {k : Nat} : ∀ (parts : List (Nat × Operand)) (ps : List (Nat × XA)) (vs : Array Value) (xs r : List (List PV)), cParts1 parts = some ps → LikeR w ok k vs xs →
    fillR e m k xs ps = some r → r.length = xs.length ∧ ∃ vr, Instr.fill (fun i => some (i * k, k)) vs (parts.map fun (i, x) => (i, a.eval x)) = some vr ∧ LikeR w ok k vr r
  | [], ps, vs, xs, r, hp, hl, h => by
    simp [cParts1] at hp; subst hp
    simp [fillR] at h; subst h
    exact ⟨rfl, vs, rfl, hl⟩
  | (i, X) :: parts, ps, vs, xs, r, hp, hl, h => by
    simp only [cParts1, List.mapM_cons, Option.bind_eq_bind, Option.bind_eq_some_iff, Option.map_eq_some_iff] at hp
    obtain ⟨y, ⟨x, hx, rfl⟩, ys, hys, hpp⟩ := hp
    simp at hpp; subst hpp
    simp only [fillR, Option.bind_eq_some_iff] at h
    obtain ⟨p, hp, q, hq, h⟩ := h
    split at h
    case isFalse => cases h
    rename_i hc
    obtain ⟨hc1, hc2⟩ := hc
    obtain ⟨hrq, hqt⟩ := purA_rep hs.mem hq (ev_rep hs hx hp)
    obtain ⟨g1, g2, g3⟩ := hrq.cells hqt
    have hsz : (a.eval X).cells.size = k := by simpa [hc1] using g1
    have hmul : i * k + k ≤ xs.length * k := by
      have := Nat.mul_le_mul_right k (show i + 1 ≤ xs.length from hc2)
      rw [Nat.add_mul] at this; omega
    have hle : i * k + (a.eval X).cells.size ≤ vs.size := by rw [hsz, hl.1]; exact hmul
    obtain ⟨s1, s2⟩ := foldl_setA (a.eval X).cells (i * k) vs hle
    have hl' : LikeR w ok k ((a.eval X).cells.zipIdx.foldl (fun cs (c, j) => cs.setIfInBounds (i * k + j) c) vs) (xs.set i q.cells) := by
      refine ⟨by rw [s1]; simpa using hl.1, set_len hl.2.1 hc1, fun c hcm => ?_, fun j c hj => ?_⟩
      · obtain ⟨x', hx', hcx⟩ := List.mem_flatten.1 hcm
        rcases List.mem_or_eq_of_mem_set hx' with h' | h'
        · exact hl.2.2.1 c (mem_flat h' hcx)
        · exact g2 c (h' ▸ hcx)
      · have hj' := flat_set hl.2.1 hc1 hc2 j c hj
        rw [s2 j, hsz]
        split at hj'
        · rename_i hr
          rw [if_pos hr]
          have hlt : j - i * k < (a.eval X).cells.toList.length := by simp; omega
          exact ⟨_, List.getElem?_eq_getElem hlt, g3 _ c _ hj' (List.getElem?_eq_getElem hlt)⟩
        · rename_i hr
          rw [if_neg hr]
          exact hl.2.2.2 j c hj'
    obtain ⟨hrl, vr, hvr, hlr⟩ := fill_row hs parts ys _ _ r hys hl' h
    refine ⟨by rw [hrl]; simp, vr, ?_, hlr⟩
    simp only [List.map_cons, Instr.fill]
    rw [if_neg (by simp; exact ⟨hsz, hle⟩)]
    exact hvr

theorem slElem_some {t : TypeId} {T k bytes : Nat} (h : slElem P t = some (T, k, bytes)) : P.underlying t = some (.slice T) ∧ 0 < k ∧ tySize P T = some k ∧ ∃ i, P.info? T = some i ∧ i.size = k ∧ i.bytes = bytes ∧ 0 < bytes := by
  unfold slElem at h
  split at h
  case h_2 => cases h
  rename_i el hu
  cases hi : P.info? el with
  | none => simp [hi] at h
  | some i =>
    simp [hi] at h
    obtain ⟨⟨h0, hb0⟩, rfl, rfl, rfl⟩ := h
    exact ⟨hu, h0, by simp [tySize, hi], i, hi, rfl, rfl, hb0⟩

theorem op_mkrow (hs : Sat0 F β ok e m a w) (hb : β b = none) {t : TypeId} {T k bytes len : Nat} {parts : Array (Nat × Operand)} {z : List PV} {ps : List (Nat × XA)} (ho : o.op = .buildSlice t len parts)
    (hu : slElem P t = some (T, k, bytes)) (hz : tyZero P T = some z) (hlen : len * k ≤ 2 ^ 24) (hp : cParts1 parts.toList = some ps) (h : vopF (.mkrow T k len z ps) e m b = some (p, d)) :
    OpOk P F β ok e m a w b o p d := by
  obtain ⟨hu1, hk0, hsz, i, hi, hi1, hi2, hb0⟩ := slElem_some hu
  simp only [vopF] at h
  split at h
  case isFalse => cases h
  rename_i hzk
  simp only [Option.bind_eq_some_iff] at h
  obtain ⟨r, hr, h⟩ := h
  simp at h
  obtain ⟨rfl, rfl⟩ := h
  obtain ⟨v, hv, hl⟩ := likeR_zero (P := P) (w := w) (ok := ok) hz hzk hk0 len
  obtain ⟨hrl, vr, hvr, hlr⟩ := fill_row hs parts.toList ps _ _ r hp hl hr
  have hrl' : r.length = len := by simpa using hrl
  subst hrl'
  refine .newRow hs hb (vs := vr) (cap := r.length) ?_ hlr.1 (Nat.le_refl _) (by simp only [maxLen]; have := Nat.le_mul_of_pos_right r.length hk0; omega) hlr.2.1 hlr.2.2.1 hlr.2.2.2
  have hpt : (parts.map fun x => (x.1, a.eval x.2)).toList = parts.toList.map fun (i, x) => (i, a.eval x) := by simp
  simp only [execOp, ho, Instr.buildSlice, Sem.run_bind, run_und hu1, Result.andThen_ok, run_sizeOf hsz]
  rw [if_neg (by omega)]
  by_cases h0 : r.length * k = 0
  · simp only [h0, if_true, Sem.run_bind, Sem.run_pure, Result.andThen_ok]
    have hvr' : vr = #[] := by
      have := hlr.1
      rw [h0] at this
      exact Array.eq_empty_of_size_eq_zero this
    have hr0 : ∀ f : Nat → Value, (Array.range 0).map f = #[] := fun f => Array.eq_empty_of_size_eq_zero (by simp)
    have hvr2 := hvr
    rw [h0, hr0] at hvr2
    rw [hr0, hpt, hvr2]
    rfl
  · simp only [h0, if_false, Sem.run_bind, hv, Result.andThen_ok, Sem.run_pure]
    rw [hpt, hvr]
    rfl

theorem op_mkslice (hs : Sat0 F β ok e m a w) (hb : β b = none) {t : TypeId} {T k bytes : Nat} {L C : Operand} {l c : XA} {z : List PV} (ho : o.op = .makeSlice t L C)
    (hu : slElem P t = some (T, k, bytes)) (hz : tyZero P T = some z) (hL : cA L = some l) (hC : cA C = some c) (h : vopF (.mkslice T k bytes z l c) e m b = some (p, d)) :
    OpOk P F β ok e m a w b o p d := by
  obtain ⟨hu1, hk0, hsz, i, hi, hi1, hi2, hb0⟩ := slElem_some hu
  simp only [vopF, Option.bind_eq_some_iff] at h
  obtain ⟨pl, hpl, pc, hpc, n, hn, cap, hcap, h⟩ := h
  split at h
  case isFalse => cases h
  rename_i hc
  obtain ⟨hzk, hle, hby, hmax⟩ := hc
  simp at h
  obtain ⟨rfl, rfl⟩ := h
  obtain ⟨k1, hv1⟩ := idx_rep hn (ev_rep hs hL hpl)
  obtain ⟨k2, hv2⟩ := idx_rep hcap (ev_rep hs hC hpc)
  obtain ⟨v, hv, hl⟩ := likeR_zero (P := P) (w := w) (ok := ok) hz hzk hk0 cap
  have hsplit : List.replicate cap z = List.replicate n z ++ List.replicate (cap - n) z := by rw [List.replicate_append_replicate]; congr 1; omega
  have hlen : (List.replicate n z).length = n := by simp
  have hw : ∀ q : Nat, q ≤ maxLen → IntKind.i64.wrap (q : Int) = (q : Int) := fun q hq => by
    simp only [maxLen] at hq
    exact IntWalk.i64_in _ (by omega)
  have key := OpOk.newRow (P := P) (o := o) hs hb (T := T) (xs := List.replicate n z) (vs := (Array.range (cap * k)).map (v.cells[· % v.cells.size]!)) (k := k) (cap := cap) ?_ (by simp) (by simpa using hle) hmax
    (fun x hx => by rw [List.eq_of_mem_replicate hx, hzk]) (fun c hc => hl.2.2.1 c (by rw [hsplit, List.flatten_append]; exact List.mem_append_left _ hc)) (fun j c hj => hl.2.2.2 j c (by
      rw [hsplit, List.flatten_append, List.getElem?_append_left (List.getElem?_eq_some_iff.1 hj).1]; exact hj))
  · rw [hlen] at key; exact key
  · rw [hlen]
    have hby' : (bytes : Int) * (cap : Int) ≤ 281474976710656 := by rw [Int.mul_comm, ← Int.natCast_mul]; omega
    have hnt : (decide ((cap : Int) < 0) || decide ((bytes : Int) * (cap : Int) > 2 ^ 48) || decide ((n : Int) < 0) || decide ((n : Int) > (cap : Int))) = false := by
      have g1 : ¬ ((cap : Int) < 0) := by omega
      have g2 : ¬ ((bytes : Int) * (cap : Int) > 2 ^ 48) := by rw [show ((2 : Int) ^ 48) = 281474976710656 from rfl]; omega
      have g3 : ¬ ((n : Int) < 0) := by omega
      have g4 : ¬ ((n : Int) > (cap : Int)) := by omega
      rw [decide_eq_false g1, decide_eq_false g2, decide_eq_false g3, decide_eq_false g4]
      rfl
    simp only [execOp, ho, Instr.makeSlice, Sem.run_bind, run_und hu1, Result.andThen_ok, hv1, hv2, asInt, asIntOf, Sem.run_pure, run_info hi, hw n (by omega), hw cap hmax, hi2, hnt, Bool.false_eq_true, if_false]
    simp only [Sem.run_bind, Sem.run_pure, run_askRoom, Result.andThen_ok, run_sizeOf hsz, Int.toNat_natCast]
    by_cases h0 : cap * k = 0
    · have hr0 : ∀ f : Nat → Value, (Array.range 0).map f = #[] := fun f => Array.eq_empty_of_size_eq_zero (by simp)
      simp only [h0, if_true, Sem.run_bind, Sem.run_pure, Result.andThen_ok, hr0]
      rfl
    · simp only [h0, if_false, Sem.run_bind, hv, Result.andThen_ok, Sem.run_pure]
      rfl

end
end Go.Vx
