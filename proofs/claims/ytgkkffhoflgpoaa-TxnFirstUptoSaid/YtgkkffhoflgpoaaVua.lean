/- The engine, part 21a: ranges over functions. -/
import Derived.Test.YtgkkffhoflgpoaaVu
set_option linter.unusedVariables false
set_option linter.unusedSimpArgs false
namespace Go.Vx
open Go Go.RowKit

def putL (e : Env) : List Nat → List PV → Env
  | t :: ps, p :: qs => putL (upd e t (some p)) ps qs
  | _, _ => e

/-- A round's end. -/
def YPost (k : LoopKey) (L b : Nat) (K : PV → Mem → Prop) : Post
  | .normal, _, m, _ => ∃ pd, m L = some (.loop k .busy pd) ∧ ∃ r m', K r m' ∧ EndsQ (.bool true) b r m' (upd m L (some (.loop k .ready none)))
  | .ret, _, m, _ => ∃ pd, m L = some (.loop k .busy pd) ∧ ∃ r m', K r m' ∧ EndsQ (.bool false) b r m' (upd m L (some (.loop k .done (some none))))
  | .exit i, _, m, _ => ∃ pd, m L = some (.loop k .busy pd) ∧ ∃ r m', K r m' ∧ EndsQ (.bool false) b r m' (upd m L (some (.loop k .done (some (some i)))))

/-- A round's way: the loop's left sides, then its body. -/
def YBody (P : Program) (k : LoopKey) (L b : Nat) (K : PV → Mem → Prop) : Post
  | .normal, e, m, nx => ∃ pd, m L = some (.loop k .ready pd) ∧ VW P k.xb (YPost k L b K) e (upd m L (some (.loop k .busy pd))) nx
  | _, _, _, _ => False

section
variable {P : Program} {F : Fr} {β β' : Ids} {ok : Nat → Prop} {e : Nat → Option PV} {m : Mem} {a : Act} {w : World}

theorem loop_block {L : Nat} {k : LoopKey} {st : LoopState} {pd : Option (Option Nat)} {l cap : Nat} (hm : MSat w ok β m) (hL : m L = some (.loop k st pd)) (hb : β L = some (.at l cap)) :
    ∃ tmps ca cb dl, w.heap[l]? = some (.loop { state := st, pending := jumpOf pd, fn := k.fn, tmps := tmps, params := k.ps.toArray, assign := ca, body := cb, defers := dl }) ∧
      tmps.size = k.n ∧ (∀ t p, k.e t = some p → ∃ v, tmps[t]? = some v ∧ Rep w ok k.β0 p v) ∧ compC k.P k.n ca = some k.xa ∧ compC k.P k.n cb = some k.xb ∧
      (∀ t ∈ k.ps, t < k.n) ∧ (∀ id x, k.β0 id = some x → β id = some x) := by
  obtain ⟨⟨tm, ca, cb, dl, g1, g2, g3, g4, g5, g6, g7, g8⟩, _⟩ := hm.orep hL hb
  exact ⟨tm, ca, cb, dl, g1, g2, g3, g4, g5, g6, g7⟩

/-- A loop's record changes its state. -/
theorem Sat0.loop (hs : Sat0 F β ok e m a w) {L : Nat} {k : LoopKey} {st : LoopState} {pd : Option (Option Nat)} {l cap : Nat} (hL : m L = some (.loop k st pd)) (hb : β L = some (.at l cap)) (st' : LoopState) (pd' : Option (Option Nat))
    {r : Loop} (hr : w.heap[l]? = some (.loop r)) : Sat0 F β ok e (upd m L (some (.loop k st' pd'))) a (setB w l (.loop { r with state := st', pending := jumpOf pd' })) := by
  have hor := hs.mem.orep hL hb
  obtain ⟨⟨tm, ca, cb, dl, g1, g2, g3, g4, g5, g6, g7, g8⟩, g9⟩ := hor
  rw [hr] at g1; injection g1 with g1; injection g1 with g1; subst g1
  have hl : l < w.heap.size := (Array.getElem?_eq_some_iff.1 hr).1
  refine hs.change hL rfl rfl hb rfl rfl rfl setB_size (Nat.le_refl _) (fun k hk => setB_other k hk) fun h1 h2 => ?_
  refine ⟨⟨tm, ca, cb, dl, by rw [setB_same hl], g2, fun t p ht => ?_, g4, g5, g6, g7, g8⟩, g9⟩
  obtain ⟨v, hv, hrv⟩ := g3 t p ht
  have hown : Owns β m l := ⟨L, _, cap, hL, rfl, hb⟩
  refine ⟨v, hv, hrv.mono (fun q hq => setB_other q fun h => ?_) (fun _ h => h) _ (fun _ _ h => h)⟩
  exact hs.mem.not_ok hown (by rw [← h]; exact hq)

theorem putL_none : ∀ {ps : List Nat} {qs : List PV} {e : Env} {t : Nat}, t ∉ ps → putL e ps qs t = e t
  | [], _, _, _, _ => by unfold putL; rfl
  | _ :: _, [], _, _, _ => rfl
  | s :: ps, q :: qs, e, t, h => by
    simp only [List.mem_cons, not_or] at h
    show putL (upd e s (some q)) ps qs t = e t
    rw [putL_none h.2, upd_other _ _ h.1]

theorem putL_rep {n : Nat} : ∀ {ps : List Nat} {qs : List PV} {vs : List Value} {e : Env} {tm : Array Value}, (∀ t ∈ ps, t < n) → tm.size = n → vs.length = qs.length → qs.length = ps.length → (∀ (j : Nat) p v, qs[j]? = some p → vs[j]? = some v → Rep w ok β p v) →
    (∀ t p, e t = some p → ∃ v, tm[t]? = some v ∧ Rep w ok β p v) → ((ps.zip vs).foldl (fun tm x => tm.setIfInBounds x.1 x.2) tm).size = n ∧
    ∀ t p, putL e ps qs t = some p → ∃ v, ((ps.zip vs).foldl (fun tm x => tm.setIfInBounds x.1 x.2) tm)[t]? = some v ∧ Rep w ok β p v
  | [], qs, vs, e, tm, _, h1, _, _, _, h => by
    refine ⟨by simpa using h1, fun t p hp => ?_⟩
    simpa using h t p (by unfold putL at hp; exact hp)
  | s :: ps, q :: qs, v :: vs, e, tm, hn, h1, h2, h3, hr, h => by
    simp only [List.zip_cons_cons, List.foldl_cons]
    refine putL_rep (fun t ht => hn t (List.mem_cons_of_mem _ ht)) (by simpa using h1) (by simpa using h2) (by simpa using h3) (fun j p v h1 h2 => hr (j + 1) p v (by simpa using h1) (by simpa using h2)) fun t p hp => ?_
    by_cases he : t = s
    · subst he
      rw [upd_same] at hp; injection hp with hp; subst hp
      have : t < tm.size := by rw [h1]; exact hn t List.mem_cons_self
      exact ⟨v, by simp [this], hr 0 q v rfl rfl⟩
    · rw [upd_other _ _ he] at hp
      obtain ⟨u, hu, hru⟩ := h t p hp
      exact ⟨u, by simp [Array.getElem?_setIfInBounds_ne (Ne.symm he), hu], hru⟩
  | _ :: _, [], _, _, _, _, _, _, h, _, _ => by simp at h
  | _ :: _, _ :: _, [], _, _, _, _, h, _, _, _ => by simp at h

/-- **A round's contract out of the loop's body.** -/
theorem VL.of (hmix : P.follows .mixedOrders = true) {k : LoopKey} {L b : Nat} {args : List PV} {m0 : Mem} {K : PV → Mem → Prop} {pd : Option (Option Nat)} (hP : k.P = P) (hL : m0 L = some (.loop k .ready pd)) (hlen : args.length = k.ps.length) (hfa : k.xa.flat = true) (hfb : k.xb.flat = true)
    (h : VW P k.xa (YBody P k L b K) (putL k.e k.ps args) m0 b) : VX P (.y L) args m0 b K := by
  refine ⟨trivial, fun w β ok vs hm hfr hok hr => ?_⟩
  obtain ⟨lc, hlc, hor⟩ := hm.objs L _ hL
  cases lc with
  | nil => exact hor.elim
  | «at» l cap =>
    obtain ⟨tm, ca, cb, dl, g1, g2, g3, g4, g5, g6, g7⟩ := loop_block hm hL hlc
    rw [hP] at g4 g5
    refine ⟨l, cap, hlc, k.fn, (k.ps.toArray.zip vs.toArray).foldl (fun tm x => tm.setIfInBounds x.1 x.2) tm, ca, cb, ?_, ?_⟩
    · have hsz : vs.toArray.size = k.ps.toArray.size := by simp; rw [hr.1, hlen]
      simp only [Instr.yield, Instr.getLoop, Sem.run_bind, run_getObj g1 rfl, Result.andThen_ok, Sem.run_pure, hsz, ne_eq, not_true_eq_false, if_false]
    · let F : Fr := ⟨k.n, w, Owns β m0, ok, b, β⟩
      have hz : (k.ps.toArray.zip vs.toArray).foldl (fun tm x => tm.setIfInBounds x.1 x.2) tm = (k.ps.zip vs).foldl (fun tm x => tm.setIfInBounds x.1 x.2) tm := by
        rw [← Array.foldl_toList]; simp
      obtain ⟨p1, p2⟩ := putL_rep (w := w) (ok := ok) (β := β) (vs := vs) (e := k.e) (tm := tm) g6 g2 hr.1 hlen hr.2 (fun t p ht => by obtain ⟨v, hv, hrv⟩ := g3 t p ht; exact ⟨v, hv, hrv.mono (fun _ _ => rfl) (fun _ h => h) _ g7⟩)
      rw [← hz] at p1 p2
      have hs : Sat0 F β ok (putL k.e k.ps args) m0 { tmps := (k.ps.toArray.zip vs.toArray).foldl (fun tm x => tm.setIfInBounds x.1 x.2) tm, defers := [] } w :=
        ⟨p1, .nil, p2, hm, hok, Keeps.refl _ _, fun k hk => .inl hk, fun k hk => hk, fun k hk => .inl hk⟩
      refine roundIn_of_wpIn (F := Fence.wide) trivial ?_
      have h1 := h (some l) F ca β ok _ w hmix (.inr hfa) g4 hs hfr ⟨Nat.le_refl _, fun _ _ => rfl⟩
      refine wpIn_mono (F := wf (some l)) h1 ?_
      rintro ex a1 w1 ⟨e1, m1, nx1, β1, ok1, hs1, hf1, hd1, hq⟩
      cases ex with
      | exit i => exact hq.elim
      | ret => exact hq.elim
      | goto l => exact hq.elim
      | panic ch => exact hq.elim
      | outgrown => exact hq.elim
      | normal =>
        obtain ⟨pd1, hL1, hq⟩ := hq
        have hLb : L < b := by
          rcases Nat.lt_or_ge L b with h | h
          · exact h
          · rw [hfr L h] at hlc; cases hlc
        have hb1 : β1 L = some (.at l cap) := (hd1.2 L hLb).trans hlc
        obtain ⟨tm1, ca1, cb1, dl1, q1, _⟩ := loop_block hs1.mem hL1 hb1
        have hs2 := hs1.loop hL1 hb1 .busy pd1 q1
        refine ⟨setB w1 l (.loop { state := .busy, pending := jumpOf pd1, fn := k.fn, tmps := tm1, params := k.ps.toArray, assign := ca1, body := cb1, defers := dl1 }), ?_, ?_⟩
        · simp only [Instr.beginRound, Instr.getLoop, Sem.run_bind, run_getObj q1 rfl, Result.andThen_ok, Sem.run_pure, run_setObj _ q1 rfl]
        · refine wpIn_mono (F := wf (some l)) (hq (some l) F cb β1 ok1 a1 _ hmix (.inr hfb) g5 hs2 hf1 hd1) ?_
          rintro ex a2 w2 ⟨e2, m2, nx2, β2, ok2, hs3, hf3, hd3, hq⟩
          have hb2 : β2 L = some (.at l cap) := (hd3.2 L hLb).trans hlc
          have fin : ∀ (c : Option Code) (pd' : Option (Option Nat)) (st' : LoopState), c = jumpOf pd' → st' = (if c.isNone then .ready else .done) → (∃ pd, m2 L = some (.loop k .busy pd) ∧ ∃ r m', K r m' ∧ EndsQ (.bool c.isNone) b r m' (upd m2 L (some (.loop k st' pd')))) →
              ∃ v w', (Instr.endRound l c).run P w2 = .ok v w' ∧ ∃ (v0 : Value) (r : PV) (m' : Mem) (β' : Ids) (ok' : Nat → Prop), Ending.returned v = .returned v0 ∧ K r m' ∧ Rep w' ok' β' r v0 ∧ MSat w' ok' β' m' ∧ Keeps w (Owns β m0) w' ∧
                (∀ id, id < b → β' id = β id) ∧ (∀ id, b + 8 ≤ id → β' id = none) ∧ (∀ k, ok k → ok' k) ∧ (∀ k, ok' k → k < w'.heap.size) ∧
                (∀ k, ok' k → ok k ∨ Owns β m0 k ∨ w.heap.size ≤ k) ∧ ∀ k, Owns β' m' k → Owns β m0 k ∨ w.heap.size ≤ k := by
            rintro c pd' st' hc hst ⟨pd2, hL2, r, m', hK, hE⟩
            obtain ⟨tm2, ca2, cb2, dl2, z1, _⟩ := loop_block hs3.mem hL2 hb2
            have hs4 := hs3.loop hL2 hb2 st' pd' z1
            have hE' := ends_out (v := .bool c.isNone) hs4 hd3 rfl hE (.bool _)
            refine ⟨.bool c.isNone, setB w2 l (.loop { state := st', pending := jumpOf pd', fn := k.fn, tmps := tm2, params := k.ps.toArray, assign := ca2, body := cb2, defers := dl2 }), ?_, .bool c.isNone, r, m', ?_⟩
            rotate_left
            · obtain ⟨β', ok', h1, h2, h3, h4, h5, h6, h7, h8, h9⟩ := hE'
              exact ⟨β', ok', rfl, hK, h1, h2, h3, h4, h5, h6, h7, h8, h9⟩
            · simp only [Instr.endRound, Instr.getLoop, Sem.run_bind, run_getObj z1 rfl, Result.andThen_ok, Sem.run_pure, run_setObj _ z1 rfl, hst, hc]
          cases ex with
          | normal => exact fin none none .ready rfl rfl hq
          | ret => exact fin (some .ret) (some none) .done rfl rfl hq
          | exit i => exact fin (some (.exit i)) (some (some i)) .done rfl rfl hq
          | goto l => exact hq.elim
          | panic ch => exact hq.elim
          | outgrown => exact hq.elim

end
end Go.Vx
