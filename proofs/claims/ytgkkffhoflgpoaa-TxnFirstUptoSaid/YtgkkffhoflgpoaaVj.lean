/- The engine, part 10: stores, append, parts of values, struct equality. -/
import Derived.Test.YtgkkffhoflgpoaaVi
set_option linter.unusedVariables false
set_option linter.unusedSimpArgs false
namespace Go.Vx
open Go Go.RowKit

section
variable {P : Program} {F : Fr} {β : Ids} {ok : Nat → Prop} {e : Nat → Option PV} {m : Mem} {a : Act} {w : World} {b : Nat} {o : Oper} {p : PV} {d : Delta}

theorem op_store (hs : Sat0 F β ok e m a w) {t : TypeId} {n : Nat} {X Y : Operand} {x y : XA} (ho : o.op = .store t X Y) (hn : tySize P t = some n) (hx : cA X = some x) (hy : cA Y = some y)
    (h : vopF (.store n x y) e m b = some (p, d)) : OpOk P F β ok e m a w b o p d := by
  simp only [vopF, Option.bind_eq_some_iff] at h
  obtain ⟨px, hpx, py, hpy, h⟩ := h
  have hrx := ev_rep hs hx hpx
  have hry := ev_rep hs hy hpy
  cases px <;> simp only [reduceCtorEq] at h
  rename_i id k i j
  generalize hv : a.eval X = vx at hrx
  generalize hu : a.eval Y = vy at hry
  cases hrx with
  | ptr _ _ _ _ bl cap hb =>
    cases hid : m id with
    | none => simp [hid] at h
    | some ob =>
      rw [hid] at h
      obtain ⟨l, hl, hob⟩ := hs.mem.objs id ob hid
      rw [hb] at hl; injection hl with hl; subst hl
      cases ob with
      | map es => simp at h
      | iter => simp at h
      | loop => simp at h
      | box cs T =>
        dsimp only at h
        split at h
        case isFalse => cases h
        rename_i hc
        obtain ⟨hc1, hc2, hc3, hc4⟩ := hc
        subst hc2
        simp at h
        obtain ⟨rfl, rfl⟩ := h
        obtain ⟨⟨cur, g1, g2, g3, g4⟩, g5⟩ := hob
        obtain ⟨q1, q2, q3⟩ := hry.cells hc4
        have hsz : vy.cells.size = n := by simpa [hc1] using q1
        obtain ⟨w', cur', hrun, st⟩ := run_storeVar (P := P) bl (0 * k + j) T w cur vy hn hsz g1 (fun u hu => by
          obtain ⟨t, ht, rfl⟩ := List.getElem_of_mem hu
          exact (q3 t _ _ (List.getElem?_eq_getElem (by omega)) (List.getElem?_eq_getElem ht)).one_of (q2 _ (List.getElem_mem (by omega)))) (by omega)
        refine ⟨undef, w', β, .inr ⟨?_, rfl⟩, .tup [] [] rfl (by simp), ?_, fun _ _ => rfl⟩
        · simp only [execOp, ho, Instr.storeAt, hv, hu, Instr.sureAddr, Sem.run_bind, Sem.run_pure, Result.andThen_ok, hrun]
        · refine hs.change hid rfl rfl hb st.os st.tape st.output st.size st.drawn st.other fun hmono _ => ⟨⟨cur', st.block, ?_, fun c hcm => ?_, fun q c hq => ?_⟩, g5⟩
          · rw [st.csize, g2, splice_len (by omega)]
          · rcases splice_mem hcm with h' | h'
            · exact g3 c h'
            · exact q2 c h'
          · rw [splice_get (by omega)] at hq
            rw [st.cell q]
            have hlen : vy.cells.toList.length = n := by simpa using hsz
            split at hq
            · rename_i hr
              rw [if_pos (by omega)]
              have hlt : q - (0 * k + j) < vy.cells.toList.length := by omega
              refine ⟨_, List.getElem?_eq_getElem hlt, hmono _ _ (q3 _ c _ ?_ (List.getElem?_eq_getElem hlt))⟩
              rw [← hq]; congr 1; omega
            · rename_i hr
              rw [if_neg (by omega)]
              obtain ⟨u, hu1, hu2⟩ := g4 q c hq
              exact ⟨u, hu1, hmono _ _ hu2⟩
      | row k' xs T fz =>
        cases fz with
        | true => simp at h
        | false =>
          simp only [Option.bind_eq_some_iff] at h
          obtain ⟨q, hq, r, hr, h⟩ := h
          split at h
          case isFalse => cases h
          rename_i hc
          obtain ⟨hc1, rfl, hc3⟩ := hc
          simp at h
          obtain ⟨rfl, rfl⟩ := h
          obtain ⟨⟨cur, g1, g2, g3, g4, g5, g6, g7⟩, g8, g9⟩ := hob
          obtain ⟨hrq, hqt⟩ := purA_rep hs.mem hq hry
          obtain ⟨q1, q2, q3⟩ := hrq.cells hqt
          have hsz : vy.cells.size = n := by simpa [hc1] using q1
          have hi : i < xs.length := (List.getElem?_eq_some_iff.1 hr).1
          have hrl : r.length = k' := g5 r (List.mem_of_getElem? hr)
          have hmul : i * k' + k' ≤ cap * k' := by
            have := Nat.mul_le_mul_right k' (show i + 1 ≤ cap by omega)
            rw [Nat.add_mul] at this; omega
          obtain ⟨w', cur', hrun, st⟩ := run_storeVar (P := P) bl (i * k' + j) T w cur vy hn hsz g1 (fun u hu => by
            obtain ⟨t, ht, rfl⟩ := List.getElem_of_mem hu
            exact (q3 t _ _ (List.getElem?_eq_getElem (by omega)) (List.getElem?_eq_getElem ht)).one_of (q2 _ (List.getElem_mem (by omega)))) (by omega)
          have hsl : (splice r j q.cells).length = k' := by rw [splice_len (by omega), hrl]
          refine ⟨undef, w', β, .inr ⟨?_, rfl⟩, .tup [] [] rfl (by simp), ?_, fun _ _ => rfl⟩
          · simp [execOp, ho, Instr.storeAt, hv, hu, Instr.sureAddr, hrun]
          · refine hs.change hid rfl rfl hb st.os st.tape st.output st.size st.drawn st.other fun _ hmono => ⟨⟨cur', st.block, by rw [st.csize, g2], by simpa using g3, g4, set_len g5 hsl, fun c hcm => ?_, fun t c ht => ?_⟩, by simp, g9⟩
            · obtain ⟨x', hx', hcx⟩ := List.mem_flatten.1 hcm
              rcases List.mem_or_eq_of_mem_set hx' with h' | h'
              · exact g6 c (mem_flat h' hcx)
              · subst h'
                rcases splice_mem hcx with h'' | h''
                · exact g6 c (mem_flat (List.mem_of_getElem? hr) h'')
                · exact q2 c h''
            · have ht' := flat_set g5 hsl hi t c ht
              rw [st.cell t]
              have hlen : vy.cells.toList.length = n := by simpa using hsz
              split at ht'
              · rename_i hin
                rw [splice_get (by omega)] at ht'
                split at ht'
                · rename_i hin2
                  rw [if_pos (by omega)]
                  have hlt : t - (i * k' + j) < vy.cells.toList.length := by omega
                  refine ⟨_, List.getElem?_eq_getElem hlt, hmono _ _ (q3 _ c _ ?_ (List.getElem?_eq_getElem hlt))⟩
                  rw [← ht']; congr 1; omega
                · rename_i hin2
                  rw [if_neg (by omega)]
                  have := flat_get g5 hr ht'
                  rw [show i * k' + (t - i * k') = t by omega] at this
                  obtain ⟨u, hu1, hu2⟩ := g7 t c this
                  exact ⟨u, hu1, hmono _ _ hu2⟩
              · rename_i hin
                rw [if_neg (by omega)]
                obtain ⟨u, hu1, hu2⟩ := g7 t c ht'
                exact ⟨u, hu1, hmono _ _ hu2⟩

theorem part_agg {t : TypeId} {cs : Array Value} {off n : Nat} (hg : tyAgg P t = some true) (hn : tySize P t = some n) : (part t cs off).run P w = .ok (.agg (cs.extract off (off + n))) w := by
  simp [part, run_isAgg hg, run_sizeOf hn]
theorem part_one {t : TypeId} {cs : Array Value} {off : Nat} {v : Value} (hg : tyAgg P t = some false) (hv : cs[off]? = some v) : (part t cs off).run P w = .ok v w := by
  simp [part, run_isAgg hg, hv]

theorem op_field1 (hs : Sat0 F β ok e m a w) {t : TypeId} {fs : Array Field} {f : Field} {i : Nat} {X : Operand} {x : XA} (ho : o.op = .field t X i) (hu : P.underlying t = some (.struct fs)) (hf : fs[i]? = some f)
    (hg : tyAgg P f.type = some false) (hx : cA X = some x) (h : vopF (.field1 f.offset x) e m b = some (p, d)) : OpOk P F β ok e m a w b o p d := by
  simp only [vopF, Option.bind_eq_some_iff] at h
  obtain ⟨q, hq, h⟩ := h
  have hr := ev_rep hs hx hq
  generalize hv : a.eval X = vx at hr
  cases q <;> simp only [reduceCtorEq] at h
  simp only [Option.bind_eq_some_iff] at h
  obtain ⟨c, hc, h⟩ := h
  simp at h
  obtain ⟨rfl, rfl⟩ := h
  cases hr with
  | agg cs vs hl h1 hr =>
    have hlt : f.offset < vs.length := by have := (List.getElem?_eq_some_iff.1 hc).1; omega
    refine .value hs (v := vs[f.offset]) ?_ (hr _ _ _ hc (by simp [hlt]))
    simp only [execOp, ho]
    refine exec_value ?_
    simp only [Instr.field, Sem.run_bind, run_und hu, Result.andThen_ok, hf, hv, asAgg, Sem.run_pure]
    rw [part_one (v := vs[f.offset]) hg (by simp [hlt])]

theorem op_fieldn (hs : Sat0 F β ok e m a w) {t : TypeId} {fs : Array Field} {f : Field} {i n : Nat} {X : Operand} {x : XA} (ho : o.op = .field t X i) (hu : P.underlying t = some (.struct fs)) (hf : fs[i]? = some f)
    (hg : tyAgg P f.type = some true) (hn : tySize P f.type = some n) (hx : cA X = some x) (h : vopF (.fieldn f.offset n x) e m b = some (p, d)) : OpOk P F β ok e m a w b o p d := by
  simp only [vopF, Option.bind_eq_some_iff] at h
  obtain ⟨q, hq, h⟩ := h
  have hr := ev_rep hs hx hq
  generalize hv : a.eval X = vx at hr
  cases q <;> simp only [reduceCtorEq] at h
  split at h
  case isFalse => cases h
  rename_i hle
  simp at h
  obtain ⟨rfl, rfl⟩ := h
  cases hr with
  | agg cs vs hl h1 hr =>
    refine .value hs (v := .agg ((vs.drop f.offset).take n).toArray) ?_ ?_
    · simp only [execOp, ho]
      refine exec_value ?_
      simp only [Instr.field, Sem.run_bind, run_und hu, Result.andThen_ok, hf, hv, asAgg, Sem.run_pure]
      rw [part_agg hg hn]
      congr 2
      simp [List.extract_eq_take_drop]
    · refine .agg _ _ (by simp; omega) (fun c hc => h1 c (List.mem_of_mem_drop (List.mem_of_mem_take hc))) fun j c v hc hv => ?_
      have hj : j < n := by have := (List.getElem?_eq_some_iff.1 hc).1; simp at this; omega
      rw [List.getElem?_take_of_lt hj, List.getElem?_drop] at hc hv
      exact hr _ c v hc hv

theorem idxo_rep (hs : Sat0 F β ok e m a w) {n i : Nat} {X : Option Operand} {x : Option XA} (hx : cAo X = some x) (h : idxo n e x = some i) :
    (X = none ∧ i = n) ∨ ∃ Y k, X = some Y ∧ a.eval Y = .int k (i : Int) := by
  cases X with
  | none => simp [cAo] at hx; subst hx; simp [idxo] at h; exact .inl ⟨rfl, h.symm⟩
  | some Y =>
    simp [cAo] at hx
    obtain ⟨y, hy, rfl⟩ := hx
    simp only [idxo, Option.bind_eq_some_iff] at h
    obtain ⟨q, hq, hi⟩ := h
    obtain ⟨k, hk⟩ := idx_rep hi (ev_rep hs hy hq)
    exact .inr ⟨Y, k, rfl, hk⟩

theorem run_sliceBound {k : IntKind} {i y : Nat} (h : i ≤ y) (code : BoundsCode) : (Instr.sliceBound (.int k (i : Int)) y code).run P w = .ok i w := by
  simp [Instr.sliceBound, asIntOf, show (i : Int) ≤ (y : Int) by omega]

theorem run_bounds (hs : Sat0 F β ok e m a w) {isS : Bool} {n cap l h : Nat} {L H : Option Operand} {lo hi : Option XA} (hL : cAo L = some lo) (hH : cAo H = some hi) (hl : idxo 0 e lo = some l) (hh : idxo n e hi = some h)
    (h1 : l ≤ h) (h2 : h ≤ cap) : (Instr.sliceBounds isS n cap (L.map a.eval) (H.map a.eval) none).run P w = .ok (l, h, cap) w := by
  rcases idxo_rep hs hL hl with ⟨rfl, rfl⟩ | ⟨Y, k, rfl, hy⟩ <;> rcases idxo_rep hs hH hh with ⟨rfl, rfl⟩ | ⟨Z, k', rfl, hz⟩
  · simp [Instr.sliceBounds]
  · simp [Instr.sliceBounds, hz, run_sliceBound h2]
  · simp [Instr.sliceBounds, hy, run_sliceBound h1]
  · simp [Instr.sliceBounds, hy, hz, run_sliceBound h1, run_sliceBound h2]

theorem op_sliceT (hs : Sat0 F β ok e m a w) {t : TypeId} {X : Operand} {L H : Option Operand} {x : XA} {lo hi : Option XA} (ho : o.op = .slice t X L H none) (hu : P.underlying t = some .string)
    (hx : cA X = some x) (hL : cAo L = some lo) (hH : cAo H = some hi) (h : vopF (.sliceT x lo hi) e m b = some (p, d)) : OpOk P F β ok e m a w b o p d := by
  simp only [vopF, Option.bind_eq_some_iff] at h
  obtain ⟨q, hq, h⟩ := h
  have hr := ev_rep hs hx hq
  generalize hv : a.eval X = vx at hr
  cases q <;> simp only [reduceCtorEq] at h
  rename_i s
  simp only [Option.bind_eq_some_iff] at h
  obtain ⟨hh, hhi, ll, hlo, h⟩ := h
  split at h
  case isFalse => cases h
  rename_i hc
  simp at h
  obtain ⟨rfl, rfl⟩ := h
  cases hr
  have hsz : (ByteArray.mk s.toArray).size = s.length := by simp [ByteArray.size]
  refine .value hs (v := .string ⟨((s.take hh).drop ll).toArray⟩) ?_ (.str _)
  simp only [execOp, ho]
  refine exec_value ?_
  simp only [Instr.sliceAt, Sem.run_bind, run_und hu, Result.andThen_ok, Instr.slice, hv, Option.map_none, Option.isSome_none, Bool.false_eq_true, if_false, hsz,
    run_bounds hs hL hH hlo hhi hc.1 hc.2, Sem.run_pure]
  congr 2
  apply ByteArray.ext
  simp only [ByteArray.data_extract]
  apply Array.ext'
  simp only [Array.toList_extract, List.extract_eq_take_drop, List.drop_take]

theorem op_sliceS (hs : Sat0 F β ok e m a w) {t el : TypeId} {k : Nat} {X : Operand} {L H : Option Operand} {x : XA} {lo hi : Option XA} (ho : o.op = .slice t X L H none) (hu : P.underlying t = some (.slice el)) (hk : tySize P el = some k)
    (hx : cA X = some x) (hL : cAo L = some lo) (hH : cAo H = some hi) (h : vopF (.sliceS k x lo hi) e m b = some (p, d)) : OpOk P F β ok e m a w b o p d := by
  simp only [vopF, Option.bind_eq_some_iff] at h
  obtain ⟨q, hq, h⟩ := h
  have hr := ev_rep hs hx hq
  generalize hv : a.eval X = vx at hr
  have hrun : ∀ A n cap l hh, vx = .slice A n cap → idxo 0 e lo = some l → idxo n e hi = some hh → l ≤ hh → hh ≤ cap →
      (execOp a.eval o).run P w = .ok (.value (.slice (if cap = l then A else A.map (·.add (l * k))) (hh - l) (cap - l))) w := by
    intro A n cap l hh hvx h1 h2 h3 h4
    simp only [execOp, ho]
    refine exec_value ?_
    simp only [Instr.sliceAt, Sem.run_bind, run_und hu, Result.andThen_ok, Instr.slice, hv, hvx, Option.map_none, run_bounds hs hL hH h1 h2 h3 h4, run_sizeOf hk, Sem.run_pure]
  -- what a slice that stays gives
  have stays : ∀ (xs : List (List PV)) (A : Option Addr) (n cap l hh : Nat), Rep w ok β (.sl xs) (.slice A xs.length cap) → hh ≤ xs.length → l ≤ hh → (l = 0 ∨ ∀ x ∈ xs, x.length = k) →
      Rep w ok β (.sl ((xs.take hh).drop l)) (.slice (if cap = l then A else A.map (·.add (l * k))) (hh - l) (cap - l)) := by
    intro xs A n cap l hh hrep h1 h2 h3
    have hlen : ((xs.take hh).drop l).length = hh - l := by simp; omega
    generalize hn : xs.length = N at hrep h1
    cases hrep with
    | sl0 _ _ hcap =>
      have : hh = 0 := by simp at hn; omega
      subst this
      simp
      exact .sl0 _ _ (by omega)
    | sl k' _ A' _ f hne hl hcap hk' hsp hok h1' hc hr =>
      by_cases hz : hh - l = 0
      · have : (xs.take hh).drop l = [] := List.eq_nil_of_length_eq_zero (by omega)
        rw [this, hz]
        exact .sl0 _ _ (by omega)
      · have hkk : l = 0 ∨ k' = k := by
          rcases h3 with h3 | h3
          · exact .inl h3
          · obtain ⟨x0, hx0⟩ := List.exists_mem_of_ne_nil xs hne
            exact .inr ((hk' x0 hx0).symm.trans (h3 x0 hx0))
        have hlk : l * k' = l * k := by rcases hkk with h | h <;> simp [h]
        rw [if_neg (by omega)]
        have hkk' : ∀ x ∈ xs.take hh, x.length = k' := fun x hx => hk' x (List.mem_of_mem_take hx)
        have hfl : ∀ (j : Nat) c, ((xs.take hh).drop l).flatten[j]? = some c → xs.flatten[l * k + j]? = some c := fun j c hj => by
          rw [flat_drop hkk', flat_take hk', List.getElem?_drop, List.getElem?_take] at hj
          split at hj
          · rw [← hlk]; exact hj
          · cases hj
        have := Rep.sl (w := w) (ok := ok) (β := β) k' ((xs.take hh).drop l) (A'.add (l * k)) (cap - l) (fun j => f (l * k + j)) (fun e => by rw [e] at hlen; simp at hlen; omega) (by omega) (by omega)
          (fun x hx => hkk' x (List.mem_of_mem_drop hx)) (add_spot A' hsp _) (by rw [add_block]; exact hok) (fun c hcm => by
            obtain ⟨x, hx, hcx⟩ := List.mem_flatten.1 hcm
            exact h1' c (mem_flat (List.mem_of_mem_take (List.mem_of_mem_drop hx)) hcx))
          (fun j c hj => by rw [add_add]; exact hc _ c (hfl j c hj)) (fun j c hj => hr _ c (hfl j c hj))
        rw [hlen] at this
        exact this
  cases q <;> simp only [reduceCtorEq] at h
  · rename_i xs
    simp only [Option.bind_eq_some_iff] at h
    obtain ⟨hh, hhi, ll, hlo, h⟩ := h
    have hform : ∃ A cap, vx = .slice A xs.length cap ∧ xs.length ≤ cap := by
      cases hr with
      | sl0 A cap h => exact ⟨A, cap, rfl, by simp⟩
      | sl k' _ A cap f hne hl => exact ⟨some A, cap, rfl, hl⟩
    obtain ⟨A, cap, rfl, hcap⟩ := hform
    split at h
    · rename_i hc
      simp at h
      obtain ⟨rfl, rfl⟩ := h
      have := stays xs A 0 cap ll hh hr hc.2 (by omega) (.inl hc.1)
      rw [show (xs.take hh).drop ll = xs.take hh by rw [hc.1]; rfl] at this
      exact .value hs (hrun A xs.length cap ll hh rfl hlo hhi (by omega) (by omega)) this
    · split at h
      case isFalse => cases h
      rename_i hc
      simp at h
      obtain ⟨rfl, rfl⟩ := h
      exact .value hs (hrun A xs.length cap ll hh rfl hlo hhi hc.1 (by omega)) (stays xs A 0 cap ll hh hr hc.2.1 hc.1 (.inr hc.2.2))
  · rename_i id n
    simp only [Option.bind_eq_some_iff] at h
    obtain ⟨hh, hhi, ll, hlo, h⟩ := h
    split at h
    · rename_i hc
      simp at h
      obtain ⟨rfl, rfl⟩ := h
      obtain ⟨rfl, hle⟩ := hc
      cases hr with
      | osl0 _ A0 hb =>
        have : hh = 0 := by omega
        subst this
        have := hrun A0 0 0 0 0 rfl hlo hhi (by omega) (by omega)
        exact .value hs this (.osl0 _ _ hb)
      | osl _ _ bl cap hb hn =>
        have := hrun (some ⟨bl, 0, none⟩) n cap 0 hh rfl hlo hhi (by omega) (by omega)
        refine .value hs (v := .slice (some ⟨bl, 0, none⟩) hh cap) ?_ (.osl _ _ bl cap hb (by omega))
        rw [this]
        simp [Addr.add]
    · simp only [Option.bind_eq_some_iff] at h
      obtain ⟨q, hq, h⟩ := h
      have hrq := (pur_rep hs.mem hq hr).1
      cases q <;> simp only [reduceCtorEq] at h
      rename_i xs
      split at h
      case isFalse => cases h
      rename_i hc
      simp at h
      obtain ⟨rfl, rfl⟩ := h
      have hnl : xs.length = n := by
        simp only [pur] at hq
        cases hid : m id with
        | none => simp [hid] at hq
        | some ob => rw [hid] at hq; cases ob <;> simp at hq; obtain ⟨⟨h1, _⟩, rfl⟩ := hq; simp; omega
      have hform : ∃ A cap, vx = .slice A n cap ∧ n ≤ cap := by
        cases hr with
        | osl0 _ A0 hb => exact ⟨A0, 0, rfl, Nat.le_refl _⟩
        | osl _ _ bl cap hb hn => exact ⟨_, cap, rfl, hn⟩
      obtain ⟨A, cap, rfl, hcap⟩ := hform
      refine .value hs (hrun A n cap ll hh rfl hlo hhi hc.1 (by omega)) (stays xs A 0 cap ll hh ?_ hc.2.1 hc.1 (.inr hc.2.2))
      rw [hnl]; exact hrq.any

theorem op_mkfn (hs : Sat0 F β ok e m a w) {f : Nat} {caps : Array Operand} {cs : List XA} (ho : o.op = .makeFunc (.func f) #[] caps) (hc : caps.toList.mapM cA = some cs)
    (h : vopF (.mkfn f cs) e m b = some (p, d)) : OpOk P F β ok e m a w b o p d := by
  simp only [vopF, Option.bind_eq_some_iff] at h
  obtain ⟨ps, hps, h⟩ := h
  simp at h
  obtain ⟨rfl, rfl⟩ := h
  obtain ⟨h1, h2⟩ := evs_rep hs hc hps
  refine .value hs (v := .func (.func f) #[] (caps.toList.map a.eval).toArray) ?_ (.fn f ps _ h1 h2)
  simp only [execOp, ho]
  refine exec_value ?_
  simp only [Instr.makeFunc, Sem.run_pure]
  congr 2
  · simp
  · apply Array.ext'; simp

end
end Go.Vx
