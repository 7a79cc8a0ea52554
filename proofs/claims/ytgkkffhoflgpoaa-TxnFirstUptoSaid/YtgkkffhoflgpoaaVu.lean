/- The engine, part 21: contracts out of code. -/
import Derived.Test.YtgkkffhoflgpoaaVt
import Derived.Laws.Sem
set_option linter.unusedVariables false
set_option linter.unusedSimpArgs false
namespace Go.Vx
open Go Go.RowKit

/-! New numbers for objects. -/
def ren1 (σ : Nat → Nat) : PV → PV
  | .ptr id k i j => .ptr (σ id) k i j
  | .osl id n => .osl (σ id) n
  | .map id => .map (σ id)
  | .yld id => .yld (σ id)
  | p => p
def renA (σ : Nat → Nat) : PV → PV
  | .agg cs => .agg (cs.map (ren1 σ))
  | .fn f cs => .fn f (cs.map (ren1 σ))
  | p => ren1 σ p
def PV.ren (σ : Nat → Nat) : PV → PV
  | .tup cs => .tup (cs.map (renA σ))
  | p => renA σ p
def Obj.ren (σ : Nat → Nat) : Obj → Obj
  | .box cs T => .box (cs.map (renA σ)) T
  | .map es => .map (es.map fun e => (e.1, renA σ e.2))
  | .iter mid n seen last => .iter (mid.map σ) n seen last
  | o => o
/-- Does it hang on no new number? -/
def Obj.fix (b : Nat) : Obj → Bool
  | .loop k _ _ => decide (k.top ≤ b)
  | .map es => es.all fun e => match e.2 with | .tup _ => false | _ => true
  | _ => true
def ltA (n : Nat) : PV → Bool
  | .tup _ => false
  | p => p.lt n
def ltT (n : Nat) : PV → Bool
  | .tup cs => cs.all (ltA n)
  | p => p.lt n

/-- A result: a slot, or what a box holds. -/
inductive RX where
  | tmp (t : Nat)
  | cell1 (t : Nat)
  | celln (t n : Nat)
def rxOf (P : Program) : ResultVar → Option RX
  | .tmp t => some (.tmp t)
  | .cell a T => (tyAgg P T).bind fun g => if g then (tySize P T).map fun n => .celln a n else some (.cell1 a)
def RX.ev (e : Env) (m : Mem) : RX → Option PV
  | .tmp t => e t
  | .cell1 a => (e a).bind fun p => (rd m 1 p).bind head1
  | .celln a n => (e a).bind fun p => (rd m n p).map .agg
def tup1 : List PV → PV
  | [p] => p
  | ps => .tup ps
def resL (e : Env) (m : Mem) : List RX → Option (List PV)
  | [] => some []
  | x :: rs => (x.ev e m).bind fun p => (resL e m rs).map (p :: ·)
def resF (rs : List RX) (e : Env) (m : Mem) : Option PV := (resL e m rs).map tup1

def res1 (tmps : Array Value) : ResultVar → Sem Value
  | .tmp t => pure (tmps.getD t undef)
  | .cell c t => do loadVar t (← asAddr (tmps.getD c undef))

/-- What stays of a result. -/
def purT (m : Mem) : PV → Option PV
  | .tup ps => (ps.mapM (purA true m)).map .tup
  | p => purA true m p

/-- An end: what is given back and what is left is what the contract says. -/
def EndsQ (q : PV) (b : Nat) (r : PV) (m' m : Mem) : Prop :=
  ∃ (l : List Nat) (σ : Nat → Nat), ((q = r.ren σ ∧ ltT (b + 8) r = true) ∨ purT (frz m l) q = some r) ∧
    (∀ id o, m' id = some o → frz m l (σ id) = some (o.ren σ) ∧ id < b + 8 ∧ o.lt (b + 8) = true ∧ o.fix b = true) ∧
    (∀ i j o o', m' i = some o → m' j = some o' → σ i = σ j → i = j) ∧ ∀ id, id < b → σ id = id
/-- A function's end. -/
def Ends (rs : List RX) (b : Nat) (r : PV) (m' : Mem) (e : Env) (m : Mem) : Prop := ∃ q, resF rs e m = some q ∧ EndsQ q b r m' m
/-- A function's end, where what comes out is not one. -/
def EndsK (rs : List RX) (b : Nat) (K : PV → Mem → Prop) (e : Env) (m : Mem) : Prop := ∃ r m', K r m' ∧ Ends rs b r m' e m

def PRet (K : Env → Mem → Prop) : Post
  | .normal, e, m, _ => K e m
  | .ret, e, m, _ => K e m
  | .exit _, _, _, _ => False

section
variable {P : Program} {F : Fr} {β β' : Ids} {ok : Nat → Prop} {e : Nat → Option PV} {m : Mem} {a : Act} {w : World} {σ : Nat → Nat} {n : Nat}

theorem ren1_rep (hσ : ∀ id, id < n → β' id = β (σ id)) {p : PV} {v : Value} (h : Rep w ok β (ren1 σ p) v) (hl : lt1 n p = true) : Rep w ok β' p v := by
  cases p with
  | bool b => cases h; exact .bool b
  | int k i => cases h; exact .int k i
  | str s => cases h; exact .str s
  | nilp => cases h; exact .nilp
  | nilm => cases h; exact .nilm
  | nilf => cases h; exact .nilf
  | ptr id k i j =>
    cases h with
    | ptr _ _ _ _ bl cap h => exact .ptr id k i j bl cap (by rw [hσ id (by simpa [lt1] using hl)]; exact h)
  | cptr cs =>
    cases h with
    | cptr _ A f hs hok h1 hc hr => exact .cptr cs A f hs hok h1 hc hr
  | sl xs =>
    cases h with
    | sl0 A cap h => exact .sl0 A cap h
    | sl k _ A cap f h1 h2 h3 h4 h5 h6 h7 h8 h9 => exact .sl k xs A cap f h1 h2 h3 h4 h5 h6 h7 h8 h9
  | yld id =>
    cases h with
    | yld _ bl cap h => exact .yld id bl cap (by rw [hσ id (by simpa [lt1] using hl)]; exact h)
  | nsl => cases h; exact .nsl
  | osl id i =>
    cases h with
    | osl0 _ A h => exact .osl0 id A (by rw [hσ id (by simpa [lt1] using hl)]; exact h)
    | osl _ _ bl cap h hn => exact .osl id i bl cap (by rw [hσ id (by simpa [lt1] using hl)]; exact h) hn
  | map id =>
    cases h with
    | map _ bl cap h => exact .map id bl cap (by rw [hσ id (by simpa [lt1] using hl)]; exact h)
  | fn f cs =>
    simp [lt1] at hl
    subst hl
    cases h with
    | fn _ _ vs h1 hr => exact .fn f [] vs h1 (by simp)
  | agg cs => simp [lt1] at hl
  | tup cs => simp [lt1] at hl

theorem ren1_list (hσ : ∀ id, id < n → β' id = β (σ id)) {cs : List PV} {vs : List Value} (h : ∀ (j : Nat) c v, (cs.map (ren1 σ))[j]? = some c → vs[j]? = some v → Rep w ok β c v) (hl : cs.all (lt1 n) = true) :
    ∀ (j : Nat) c v, cs[j]? = some c → vs[j]? = some v → Rep w ok β' c v := fun j c v hc hv =>
  ren1_rep hσ (h j (ren1 σ c) v (by simp [List.getElem?_map, hc]) hv) (List.all_eq_true.1 hl c (List.mem_of_getElem? hc))

theorem ren1_one {p : PV} : (ren1 σ p).one = p.one := by cases p <;> rfl

theorem renA_rep (hσ : ∀ id, id < n → β' id = β (σ id)) {p : PV} {v : Value} (h : Rep w ok β (renA σ p) v) (hl : ltA n p = true) : Rep w ok β' p v := by
  cases p with
  | fn f cs =>
    cases h with
    | fn _ _ vs h1 hr => exact .fn f cs vs (by simpa using h1) (ren1_list hσ hr hl)
  | agg cs =>
    cases h with
    | agg _ vs h1 h2 hr => exact .agg cs vs (by simpa using h1) (fun c hc => by have := h2 (ren1 σ c) (List.mem_map_of_mem hc); rwa [ren1_one] at this) (ren1_list hσ hr hl)
  | tup cs => simp [ltA] at hl
  | _ => exact ren1_rep hσ h hl

theorem ren_rep (hσ : ∀ id, id < n → β' id = β (σ id)) {p : PV} {v : Value} (h : Rep w ok β (p.ren σ) v) (hl : ltT n p = true) : Rep w ok β' p v := by
  cases p with
  | tup cs =>
    cases h with
    | tup _ vs h1 hr => exact .tup cs vs (by simpa using h1) fun j c v hc hv => renA_rep hσ (hr j (renA σ c) v (by simp [List.getElem?_map, hc]) hv) (List.all_eq_true.1 hl c (List.mem_of_getElem? hc))
  | _ => exact renA_rep hσ h hl

theorem renA_one {p : PV} : (renA σ p).one = p.one := by cases p <;> rfl

theorem ren_orep {b : Nat} (hσ : ∀ id, id < n → β' id = β (σ id)) (hb : b ≤ n) (hσ2 : ∀ id, id < b → σ id = id) {l : Loc} {o : Obj} (h : ORep w ok β l (o.ren σ)) (hl : o.lt n = true) (hx : o.fix b = true) : ORep w ok β' l o := by
  cases l with
  | nil => cases o <;> first | exact h | exact h.elim
  | «at» bl cap =>
    cases o with
    | row k xs T fz => exact h
    | map es =>
      obtain ⟨⟨cur, g1, g2, g4⟩, g5⟩ := h
      refine ⟨⟨cur, by simpa using g1, by simpa using g2, fun j c hj => ?_⟩, g5⟩
      obtain ⟨u, hu, hk, hru, hbn⟩ := g4 j (c.1, renA σ c.2) (by simp [List.getElem?_map, hj])
      have h2 := List.all_eq_true.1 hl c (List.mem_of_getElem? hj)
      have h3 := List.all_eq_true.1 hx c (List.mem_of_getElem? hj)
      refine ⟨u, hu, hk, renA_rep hσ hru ?_, hbn⟩
      obtain ⟨c1, c2⟩ := c
      cases c2 <;> first | exact h2 | simp at h3
    | iter mid q seen last =>
      obtain ⟨⟨mo, g1, g2, g4⟩, g5⟩ := h
      refine ⟨⟨mo, g1, ?_, g4⟩, g5⟩
      cases mid with
      | none => exact g2
      | some id2 =>
        obtain ⟨mb, cp, e1, e2⟩ := g2
        have hl2 : id2 < n := by simpa [Obj.lt] using hl
        exact ⟨mb, cp, e1, by rw [hσ id2 hl2]; exact e2⟩
    | loop k st pend =>
      obtain ⟨⟨tm, ca, cb, dl, g1, g2, g3, g4, g6, g7, g8, g9⟩, g5⟩ := h
      have hl2 : k.top ≤ b := by simpa [Obj.fix] using hx
      refine ⟨⟨tm, ca, cb, dl, g1, g2, g3, g4, g6, g7, fun id2 x hx => ?_, g9⟩, g5⟩
      have : id2 < b := by
        rcases Nat.lt_or_ge id2 k.top with h | h
        · omega
        · rw [g9 id2 h] at hx; cases hx
      rw [hσ id2 (by omega), hσ2 id2 this]
      exact g8 id2 x hx
    | box cs T =>
      obtain ⟨⟨cur, g1, g2, g3, g4⟩, g5⟩ := h
      refine ⟨⟨cur, g1, by simpa using g2, fun c hc => by have := g3 (renA σ c) (List.mem_map_of_mem hc); rwa [renA_one] at this, fun j c hj => ?_⟩, g5⟩
      obtain ⟨u, hu, hru⟩ := g4 j (renA σ c) (by simp [List.getElem?_map, hj])
      have h1 : c.one = true := by have := g3 (renA σ c) (List.mem_map_of_mem (List.mem_of_getElem? hj)); rwa [renA_one] at this
      have h2 := List.all_eq_true.1 hl c (List.mem_of_getElem? hj)
      refine ⟨u, hu, renA_rep hσ hru ?_⟩
      cases c <;> first | exact h2 | simp [PV.one] at h1

theorem ren_fz {o : Obj} : (o.ren σ).fz = o.fz := by cases o <;> rfl

theorem res1_run (hs : Sat0 F β ok e m a w) {x : ResultVar} {y : RX} {p : PV} (hy : rxOf P x = some y) (h : y.ev e m = some p) : ∃ v, (res1 a.tmps x).run P w = .ok v w ∧ Rep w ok β p v := by
  cases x with
  | tmp t =>
    simp [rxOf] at hy; subst hy
    obtain ⟨v, hv, hr⟩ := hs.env t p h
    refine ⟨v, ?_, hr⟩
    simp [res1, Array.getD_eq_getD_getElem?, hv]
  | cell c t =>
    simp only [rxOf, Option.bind_eq_some_iff] at hy
    obtain ⟨g, hg, hy⟩ := hy
    cases g with
    | true =>
      simp only [if_true, Option.map_eq_some_iff] at hy
      obtain ⟨k, hk, rfl⟩ := hy
      simp only [RX.ev, Option.bind_eq_some_iff, Option.map_eq_some_iff] at h
      obtain ⟨q, hq, cs, hcs, rfl⟩ := h
      obtain ⟨v, hv, hr⟩ := hs.env c q hq
      obtain ⟨A, rfl, hA, hl, hc⟩ := rd_sound hs.mem hcs hr
      obtain ⟨u, hu, hru⟩ := hc.agg (P := P) hg hk hl
      exact ⟨u, by simp [res1, Array.getD_eq_getD_getElem?, hv, asAddr, hu], hru⟩
    | false =>
      simp at hy; subst hy
      simp only [RX.ev, Option.bind_eq_some_iff] at h
      obtain ⟨q, hq, cs, hcs, h1⟩ := h
      obtain ⟨v, hv, hr⟩ := hs.env c q hq
      obtain ⟨A, rfl, hA, hl, hc⟩ := rd_sound hs.mem hcs hr
      have : cs = [p] := by
        unfold head1 at h1
        split at h1
        · injection h1 with h1; rw [h1]
        · cases h1
      subst this
      obtain ⟨h1, vs, hvl, hv2, hr2⟩ := hc
      match vs, hvl with
      | [u], _ =>
        have h0 : w.cell? A = some u := by simpa [Addr.add] using hv2 0 u rfl
        exact ⟨u, by simp [res1, Array.getD_eq_getD_getElem?, hv, asAddr, run_loadVarOne A u hg h0], hr2 0 _ u rfl rfl⟩

theorem res_list (hs : Sat0 F β ok e m a w) : ∀ {xs : List ResultVar} {rs : List RX} {ps : List PV}, xs.mapM (rxOf P) = some rs → resL e m rs = some ps →
    ∃ vs : List Value, (xs.mapM (res1 a.tmps)).run P w = .ok vs w ∧ Reps w ok β ps vs
  | [], rs, ps, h0, h => by
    simp at h0; subst h0
    simp [resL] at h; subst h
    exact ⟨[], by simp, rfl, by simp⟩
  | x :: xs, rs, ps, h0, h => by
    simp only [List.mapM_cons, Option.bind_eq_bind, Option.bind_eq_some_iff, Option.pure_def, Option.some.injEq] at h0
    obtain ⟨y, hy, rs, hrs, rfl⟩ := h0
    simp only [resL, Option.bind_eq_some_iff, Option.map_eq_some_iff] at h
    obtain ⟨p, hp, qs, hqs, rfl⟩ := h
    obtain ⟨v, hv, hr⟩ := res1_run (P := P) hs hy hp
    obtain ⟨vs, hvs, h1, h2⟩ := res_list hs hrs hqs
    refine ⟨v :: vs, ?_, by simp [h1], fun j c u hc hu => ?_⟩
    · rw [List.mapM_cons, Sem.run_bind, hv, Result.andThen_ok, Sem.run_bind, hvs]
      simp
    · cases j with
      | zero => simp at hc hu; subst hc; subst hu; exact hr
      | succ j => exact h2 j c u (by simpa using hc) (by simpa using hu)

theorem res_run (hs : Sat0 F β ok e m a w) {fn : Func} {rs : List RX} {p : PV} (hrs : fn.results.toList.mapM (rxOf P) = some rs) (h : resF rs e m = some p) : ∃ v, (results fn a.tmps).run P w = .ok v w ∧ Rep w ok β p v := by
  simp only [resF, Option.map_eq_some_iff] at h
  obtain ⟨ps, hps, rfl⟩ := h
  obtain ⟨vs, hvs, h1, h2⟩ := res_list hs hrs hps
  have key : (results fn a.tmps).run P w = .ok (if h : vs.toArray.size = 1 then vs.toArray[0] else .tuple vs.toArray) w := by
    have hu : results fn a.tmps = (fn.results.toList.toArray.mapM (res1 a.tmps) >>= fun vs => pure (if h : vs.size = 1 then vs[0] else .tuple vs)) := by
      unfold results
      rw [show fn.results.toList.toArray = fn.results from by simp]
      congr 2
    rw [hu, List.mapM_toArray]
    simp only [Sem.run_bind, map_eq_pure_bind, bind_assoc, pure_bind]
    rw [hvs]
    simp
  refine ⟨_, key, ?_⟩
  clear hvs key hps
  rcases ps with _ | ⟨q, _ | ⟨q2, qs⟩⟩
  · rcases vs with _ | ⟨v, vs⟩
    · simpa [tup1] using Rep.tup [] [] rfl (by simp)
    · simp at h1
  · rcases vs with _ | ⟨v, _ | ⟨v2, vs⟩⟩
    · simp at h1
    · simpa [tup1] using h2 0 q v rfl rfl
    · simp at h1
  · rw [dif_neg (by simp [h1])]
    exact .tup _ _ h1 h2

theorem purT_rep (hm : MSat w ok β m) {p q : PV} {v : Value} (h : purT m p = some q) (hr : Rep w ok β p v) : Rep w ok β' q v := by
  have one : purA true m p = some q → Rep w ok β' q v := fun h => (purA_rep hm h hr).1.any
  cases p with
  | tup ps =>
    simp only [purT, Option.map_eq_some_iff] at h
    obtain ⟨qs, hqs, rfl⟩ := h
    cases hr with
    | tup _ vs h1 hr =>
      obtain ⟨g1, g2⟩ := mapM_some hqs
      refine .tup qs vs (by omega) fun j c u hc hu => ?_
      have hj : j < ps.length := by rw [← g1]; exact (List.getElem?_eq_some_iff.1 hc).1
      exact (purA_rep hm (g2 j ps[j] c (by simp [hj]) hc) (hr j ps[j] u (by simp [hj]) hu)).1.any
  | _ => exact one h

/-- What is behind an end. -/
theorem ends_out {β1 : Ids} {ok1 : Nat → Prop} {nx b : Nat} {q r : PV} {m' : Mem} {v : Value} (hs1 : Sat0 F β1 ok1 e m a w) (hd1 : Held F β1 nx) (hb0 : F.b0 = b) (hE : EndsQ q b r m' m) (hrep : Rep w ok1 β1 q v) :
    ∃ (β' : Ids) (ok' : Nat → Prop), Rep w ok' β' r v ∧ MSat w ok' β' m' ∧ Keeps F.w0 F.own0 w ∧ (∀ id, id < b → β' id = F.β0 id) ∧ (∀ id, b + 8 ≤ id → β' id = none) ∧ (∀ k, F.ok0 k → ok' k) ∧ (∀ k, ok' k → k < w.heap.size) ∧
      (∀ k, ok' k → F.ok0 k ∨ F.own0 k ∨ F.w0.heap.size ≤ k) ∧ ∀ k, Owns β' m' k → F.own0 k ∨ F.w0.heap.size ≤ k := by
  subst hb0
  obtain ⟨l, σ, hres, hobj, hinj, hσ⟩ := hE
  obtain ⟨ok2, hs2, hrep2⟩ : ∃ ok2, Sat0 F β1 ok2 e (frz m l) a w ∧ Rep w ok2 β1 q v := by
    obtain ⟨ok2, h2, h3⟩ := hs1.frz' l
    exact ⟨ok2, h2, hrep.mono (fun _ _ => rfl) h3 _ (fun _ _ h => h)⟩
  have hnew : ∀ id, id < F.b0 + 8 → (fun id => if id < F.b0 + 8 then β1 (σ id) else none : Ids) id = β1 (σ id) := fun id hid => by simp [hid]
  have hself : ∀ id, id < F.b0 → β1 (σ id) = F.β0 id := fun id hid => by rw [hσ id hid]; exact hd1.2 id hid
  have hMS : MSat w ok2 (fun id => if id < F.b0 + 8 then β1 (σ id) else none) m' := by
    refine ⟨fun id o ho => ?_, fun i j o o' bb c1 c2 h1 h2 h3 h4 f1 f2 => ?_⟩
    · obtain ⟨g1, g2, g3, g4⟩ := hobj id o ho
      obtain ⟨lc, hlc, hr⟩ := hs2.mem.objs _ _ g1
      exact ⟨lc, by simp [g2, hlc], ren_orep hnew (Nat.le_add_right _ _) hσ hr g3 g4⟩
    · obtain ⟨g1, g2, g3, g4⟩ := hobj i o h1
      obtain ⟨k1, k2, k3, k4⟩ := hobj j o' h2
      simp only [g2, k2, if_true] at h3 h4
      exact hinj i j o o' h1 h2 (hs2.mem.disj _ _ _ _ bb c1 c2 g1 k1 h3 h4 (by rw [ren_fz]; exact f1) (by rw [ren_fz]; exact f2))
  refine ⟨fun id => if id < F.b0 + 8 then β1 (σ id) else none, ok2, ?_, hMS, hs2.keeps, fun id hid => ?_, fun id hid => ?_, hs2.ok0, hs2.okb, hs2.oks, fun k hk => ?_⟩
  · rcases hres with ⟨rfl, hl⟩ | hp
    · exact ren_rep hnew hrep2 hl
    · exact purT_rep hs2.mem hp hrep2
  · simp [show id < F.b0 + 8 by omega, hself id hid]
  · simp [show ¬ id < F.b0 + 8 by omega]
  · obtain ⟨id, o, cap, h1, h2, h3⟩ := hk
    obtain ⟨g1, g2, g3, g4⟩ := hobj id o h1
    simp only [g2, if_true] at h3
    exact hs2.own k ⟨σ id, _, cap, g1, by rw [ren_fz]; exact h2, h3⟩

/-- A mark is taken. -/
theorem Sat0.unmark (hs : Sat0 F β ok e m a w) {d : Deferred} {ds : List Deferred} (hd : a.defers = d :: ds) :
    ∃ D, d.target = .collected D ∧ (Instr.takeDeferred D).run P w = .ok [] (setB w D (.deferred none)) ∧ Sat0 F β ok e m { a with defers := ds } (setB w D (.deferred none)) := by
  have hmk := hs.defers
  rw [hd] at hmk
  obtain ⟨D, h1, h2, h3, h4, h5⟩ := hmk.each d List.mem_cons_self
  have hap := List.pairwise_cons.1 hmk.apart
  have hDl : D < w.heap.size := (Array.getElem?_eq_some_iff.1 h2).1
  have hok : ∀ k, ok k → (setB w D (.deferred none)).heap[k]? = w.heap[k]? := fun k hk => setB_other k fun h => h4 (h ▸ hk)
  refine ⟨D, h1, ?_, ?_⟩
  · simp only [Instr.takeDeferred, Sem.run_bind, run_getObj h2 rfl, Result.andThen_ok, run_setObj _ h2 rfl, Sem.run_pure]
  · refine ⟨hs.size, ⟨fun d' hd' => ?_, hap.2⟩, fun t p ht => ?_, ⟨fun id o ho => ?_, hs.mem.disj⟩, fun k hk => by rw [setB_size]; exact hs.okb k hk, ?_, hs.own, hs.ok0, hs.oks⟩
    · obtain ⟨D', g1, g2, g3, g4, g5⟩ := hmk.each d' (List.mem_cons_of_mem _ hd')
      have hne : D' ≠ D := fun h => hap.1 d' hd' (by rw [h1, g1, h])
      exact ⟨D', g1, by rw [setB_other D' hne]; exact g2, g3, g4, g5⟩
    · obtain ⟨v, hv, hr⟩ := hs.env t p ht
      exact ⟨v, hv, hr.mono hok (fun _ h => h) _ (fun _ _ h => h)⟩
    · obtain ⟨l, hl, hr⟩ := hs.mem.objs id o ho
      refine ⟨l, hl, hr.mono hok (fun _ h => h) (fun _ _ h => h) fun bb cap hll => ⟨?_, fun h => h⟩⟩
      subst hll
      refine setB_other bb fun h => ?_
      subst h
      cases hf : o.fz with
      | true => exact h4 (hr.froz hf)
      | false => exact h5 ⟨id, o, cap, ho, hf, hl⟩
    · refine ⟨hs.keeps.os, hs.keeps.tape, hs.keeps.output, by rw [setB_size]; exact hs.keeps.size, fun b hb hn => ?_, hs.keeps.drawn⟩
      rw [setB_other b (by omega)]
      exact hs.keeps.block b hb hn

/-- The marks are taken, one by one. -/
theorem leaves_marks {fn : Func} {R : Ending → World → Prop} : ∀ (ds : List Deferred) (a : Act) (w : World), a.defers = ds → Sat0 F β ok e m a w →
    (∀ a' w', a'.tmps = a.tmps → Sat0 F β ok e m a' w' → ∃ v, (results fn a'.tmps).run P w' = .ok v w' ∧ R (.returned v) w') → LeavesInM (wf none) 0 P fn a.tmps R ds .returning w
  | [], a, w, _, hs, h => h a w rfl hs
  | d :: ds, a, w, hd, hs, h => by
    obtain ⟨D, h1, h2, h3⟩ := Sat0.unmark (P := P) hs hd
    refine ⟨by simp, .inl ⟨D, _, h1, h2, ?_⟩⟩
    exact leaves_marks ds { a with defers := ds } _ rfl h3 fun a' w' ht hs' => h a' w' ht hs'

/-- **A contract out of code.** -/
theorem VX.of {f : Nat} {fn : Func} {c : Code} {x : XCode} {args : List PV} {m0 : Mem} {b : Nat} {K : PV → Mem → Prop} (hmix : P.follows .mixedOrders = true) (hf : P.funcs[f]? = some fn) (hname : (fn.name == "runtime.NumGoroutine") = false) (hb : fn.body = some c) {rs : List RX} (hrs : fn.results.toList.mapM (rxOf P) = some rs)
    (hx : compC P fn.ntmps c = some x) (hargs : args.length ≤ fn.ntmps) (h : VW P x (PRet (EndsK rs b K)) (fun t => args[t]?) m0 b) : VX P (.f f) args m0 b K := by
  refine ⟨fun vs w => ?_, fun w β ok vs hm hfr hok hr => ?_⟩
  · have hname' : ¬ fn.name = "runtime.NumGoroutine" := by simpa using hname
    simp [callFunc, hf, hname', hb]
  let F : Fr := ⟨fn.ntmps, w, Owns β m0, ok, b, β⟩
  have hs : Sat0 F β ok (fun t => args[t]?) m0 { tmps := vs.toArray ++ Array.replicate (fn.ntmps - vs.toArray.size) undef, defers := [] } w := by
    refine ⟨?_, .nil, fun t p ht => ?_, hm, hok, Keeps.refl _ _, fun k hk => .inl hk, fun k hk => hk, fun k hk => .inl hk⟩
    · have := hr.1
      simp [F]; omega
    · have ht' : t < args.length := (List.getElem?_eq_some_iff.1 ht).1
      have htv : t < vs.length := by rw [hr.1]; exact ht'
      refine ⟨vs[t], ?_, hr.2 t p _ ht (by simp [htv])⟩
      rw [Array.getElem?_append_left (by simpa using htv)]
      simp [htv]
  refine callsIn_wide.1 (callsIn_of_wp_marks (F := wf none) hf hb trivial (wpIn_mono (h none F c β ok _ w hmix (.inl rfl) hx hs hfr ⟨Nat.le_refl _, fun _ _ => rfl⟩) ?_) rfl)
  have main : ∀ (a : Act) (w' : World) e m nx β1 ok1, Sat0 F β1 ok1 e m a w' → Held F β1 nx → EndsK rs b K e m → LeavesInM (wf none) 0 P fn a.tmps (fun e w' => ∃ (v : Value) (r : PV) (m' : Mem) (β' : Ids) (ok' : Nat → Prop), e = .returned v ∧ K r m' ∧ Rep w' ok' β' r v ∧ MSat w' ok' β' m' ∧ Keeps w (Owns β m0) w' ∧
      (∀ id, id < b → β' id = β id) ∧ (∀ id, b + 8 ≤ id → β' id = none) ∧ (∀ k, ok k → ok' k) ∧ (∀ k, ok' k → k < w'.heap.size) ∧
      (∀ k, ok' k → ok k ∨ Owns β m0 k ∨ w.heap.size ≤ k) ∧ ∀ k, Owns β' m' k → Owns β m0 k ∨ w.heap.size ≤ k) a.defers .returning w' := by
    rintro a w' e m nx β1 ok1 hs1 hd1 ⟨r, m', hk, q, hq, hE⟩
    refine leaves_marks a.defers a w' rfl hs1 fun a2 w2 _ hs2 => ?_
    obtain ⟨v, hv, hrep⟩ := res_run hs2 hrs hq
    obtain ⟨β', ok', h1, h2, h3, h4, h5, h6, h7, h8, h9⟩ := ends_out hs2 hd1 rfl hE hrep
    exact ⟨v, hv, v, r, m', β', ok', rfl, hk, h1, h2, h3, h4, h5, h6, h7, h8, h9⟩
  rintro ex a w' ⟨e, m, nx, β1, ok1, hs1, hf1, hd1, hq⟩
  cases ex with
  | normal => exact main a w' e m nx β1 ok1 hs1 hd1 hq
  | ret => exact main a w' e m nx β1 ok1 hs1 hd1 hq
  | exit i => exact hq.elim
  | goto l => exact hq.elim
  | panic ch => exact hq.elim
  | outgrown => exact hq.elim

/-- A function's code, its results, how many slots it has. -/
def codeOf (P : Program) (f : Nat) : Option (XCode × List RX × Nat × Bool) :=
  (P.funcs[f]?).bind fun fn => fn.body.bind fun c => (compC P fn.ntmps c).bind fun x => (fn.results.toList.mapM (rxOf P)).map fun rs => (x, rs, fn.ntmps, fn.name == "runtime.NumGoroutine")

theorem VX.code (hmix : P.follows .mixedOrders = true) {f : Nat} {x : XCode} {rs : List RX} {n : Nat} (hk : codeOf P f = some (x, rs, n, false)) {args : List PV} {m0 : Mem} {b : Nat} {K : PV → Mem → Prop} (hargs : args.length ≤ n)
    (h : VW P x (PRet (EndsK rs b K)) (fun t => args[t]?) m0 b) : VX P (.f f) args m0 b K := by
  simp only [codeOf, Option.bind_eq_some_iff, Option.map_eq_some_iff, Prod.mk.injEq] at hk
  obtain ⟨fn, hf, c, hb, y, hx, rs', hrs, rfl, rfl, rfl, hn⟩ := hk
  exact VX.of hmix hf hn hb hrs hx hargs h
theorem V.code (hmix : P.follows .mixedOrders = true) {f : Nat} {x : XCode} {rs : List RX} {n : Nat} (hk : codeOf P f = some (x, rs, n, false)) {args : List PV} {m0 : Mem} {b : Nat} {r : PV} {m' : Mem} (hargs : args.length ≤ n)
    (h : VW P x (PRet (Ends rs b r m')) (fun t => args[t]?) m0 b) : V P f args m0 b r m' := by
  refine VX.code hmix hk hargs (h.mono fun ex e m nx hh => ?_)
  cases ex with
  | normal => exact ⟨r, m', ⟨rfl, rfl⟩, hh⟩
  | ret => exact ⟨r, m', ⟨rfl, rfl⟩, hh⟩
  | exit i => exact hh

theorem frz_nil' : frz m [] = m := by funext id; simp [frz]
/-- Nothing of memory is left: the result is a value. -/
theorem Ends.val {rs : List RX} {b : Nat} {r : PV} (l : List Nat) (q : PV) (h : resF rs e m = some q) (hp : purT (frz m l) q = some r) : Ends rs b r mt e m :=
  ⟨q, h, l, fun id => id, .inr hp, by simp [mt], by simp [mt], fun _ _ => rfl⟩

/-- One row is left, of the caller's own. -/
theorem Ends.row {rs : List RX} {b id n k T : Nat} {xs : List (List PV)} (h : resF rs e m = some (.osl id n)) (ho : m id = some (.row k xs T false)) : Ends rs b (.osl b n) (upd mt b (some (.row k xs T false))) e m := by
  refine ⟨.osl id n, h, [], fun j => if j = b then id else j, .inl ⟨by simp [PV.ren, renA, ren1], by simp [ltT, PV.lt, lt1]⟩, fun j o hj => ?_, fun i j o o' h1 h2 _ => ?_, fun j hj => by simp [show j ≠ b by omega]⟩
  · by_cases he : j = b
    · subst he
      simp [upd] at hj; subst hj
      simp [frz, ho, Obj.ren, Obj.lt, Obj.fix]
    · simp [upd, he, mt] at hj
  · by_cases he : i = b <;> by_cases he2 : j = b
    · rw [he, he2]
    · simp [upd, he2, mt] at h2
    · simp [upd, he, mt] at h1
    · simp [upd, he, mt] at h1

/-- Numbers of what is new. -/
def sg (b : Nat) (ids : List Nat) : Nat → Nat := fun j => if j < b then j else ids.getD (j - b) j
theorem sg_lt {b : Nat} {ids : List Nat} {j : Nat} (h : j < b) : sg b ids j = j := by simp [sg, h]
theorem sg_0 {b x : Nat} {ids : List Nat} : sg b (x :: ids) b = x := by simp [sg]
theorem sg_1 {b x y : Nat} {ids : List Nat} : sg b (x :: y :: ids) (b + 1) = y := by simp [sg]; omega
theorem sg_2 {b x y z : Nat} {ids : List Nat} : sg b (x :: y :: z :: ids) (b + 2) = z := by simp [sg]; omega
theorem sg_at {b k : Nat} {ids : List Nat} (h : k < ids.length) : sg b ids (b + k) = ids[k] := by simp [sg, h]; omega
/-- An end, where objects are left. -/
theorem EndsQ.ol {q r : PV} {b : Nat} {l : List (Nat × Obj)} (ids : List Nat) (hq : q = r.ren (sg b ids)) (hl : ltT (b + 8) r = true) (hb : ids.all (fun x => decide (b ≤ x)) = true) (hn : ids.Nodup)
    (ho : ∀ x ∈ l, m (sg b ids x.1) = some (x.2.ren (sg b ids)) ∧ x.1 < b + ids.length ∧ x.1 < b + 8 ∧ x.2.lt (b + 8) = true ∧ x.2.fix b = true) : EndsQ q b r (ofL l) m := by
  refine ⟨[], sg b ids, .inl ⟨hq, hl⟩, fun id o h => ?_, fun i j o o' h1 h2 h => ?_, fun id h => sg_lt h⟩
  · have := ho _ (ofL_some h)
    rw [frz_nil']
    exact ⟨this.1, this.2.2⟩
  · have g1 := (ho _ (ofL_some h1)).2.1
    have g2 := (ho _ (ofL_some h2)).2.1
    have big : ∀ k, ¬ k < b → k < b + ids.length → ∃ (hk : k - b < ids.length), sg b ids k = ids[k - b] ∧ b ≤ ids[k - b] := fun k hk1 hk2 => by
      have hk : k - b < ids.length := by omega
      refine ⟨hk, by simp [sg, hk1, hk], ?_⟩
      simpa using List.all_eq_true.1 hb ids[k - b] (List.getElem_mem hk)
    by_cases hi : i < b <;> by_cases hj : j < b
    · rw [sg_lt hi, sg_lt hj] at h; exact h
    · obtain ⟨_, e1, e2⟩ := big j hj g2
      rw [sg_lt hi, e1] at h; omega
    · obtain ⟨_, e1, e2⟩ := big i hi g1
      rw [sg_lt hj, e1] at h; omega
    · obtain ⟨k1, e1, _⟩ := big i hi g1
      obtain ⟨k2, e2, _⟩ := big j hj g2
      rw [e1, e2] at h
      have : i - b = j - b := by
        rcases Nat.lt_trichotomy (i - b) (j - b) with hlt | heq | hlt
        · exact absurd h (List.pairwise_iff_getElem.1 hn _ _ k1 k2 hlt)
        · exact heq
        · exact absurd h.symm (List.pairwise_iff_getElem.1 hn _ _ k2 k1 hlt)
      omega
/-- An end, where objects are left. -/
theorem Ends.ol {rs : List RX} {q r : PV} {b : Nat} {l : List (Nat × Obj)} (ids : List Nat) (h : resF rs e m = some q) (hq : q = r.ren (sg b ids)) (hl : ltT (b + 8) r = true) (hb : ids.all (fun x => decide (b ≤ x)) = true) (hn : ids.Nodup)
    (ho : ∀ x ∈ l, m (sg b ids x.1) = some (x.2.ren (sg b ids)) ∧ x.1 < b + ids.length ∧ x.1 < b + 8 ∧ x.2.lt (b + 8) = true ∧ x.2.fix b = true) : Ends rs b r (ofL l) e m := ⟨q, h, .ol ids hq hl hb hn ho⟩

theorem ren1_id {p : PV} : ren1 (fun j => j) p = p := by cases p <;> rfl
theorem map_id_of {α : Type} {f : α → α} (h : ∀ x, f x = x) : ∀ l : List α, l.map f = l
  | [] => rfl
  | x :: l => by rw [List.map_cons, h, map_id_of h l]
theorem renA_id {p : PV} : renA (fun j => j) p = p := by
  cases p <;> first | rfl | (simp only [renA]; rw [map_id_of (fun _ => ren1_id)])
theorem ren_id {p : PV} : p.ren (fun j => j) = p := by
  cases p
  case tup cs => simp only [PV.ren]; rw [map_id_of (fun _ => renA_id)]
  all_goals (simp only [PV.ren]; exact renA_id)
theorem oren_id {o : Obj} : o.ren (fun j => j) = o := by
  cases o with
  | box cs T => simp only [Obj.ren]; rw [map_id_of (fun _ => renA_id)]
  | map es => simp only [Obj.ren]; rw [map_id_of (fun x => by rw [renA_id])]
  | iter mid n seen last => simp only [Obj.ren]; cases mid <;> rfl
  | row => rfl
  | loop => rfl
/-- An end that leaves the caller's objects alone, of the caller's numbers. -/
theorem EndsQ.keep {q : PV} {b : Nat} {l : List (Nat × Obj)} (hl : ltT (b + 8) q = true) (ho : ∀ x ∈ l, m x.1 = some x.2 ∧ x.1 < b ∧ x.2.lt (b + 8) = true ∧ x.2.fix b = true) : EndsQ q b q (ofL l) m := by
  refine ⟨[], fun j => j, .inl ⟨ren_id.symm, hl⟩, fun id o h => ?_, fun i j o o' _ _ h => h, fun _ _ => rfl⟩
  have := ho _ (ofL_some h)
  rw [frz_nil', oren_id]
  exact ⟨this.1, by have := this.2.1; omega, this.2.2⟩
theorem Ends.keep {rs : List RX} {q : PV} {b : Nat} {l : List (Nat × Obj)} (h : resF rs e m = some q) (hl : ltT (b + 8) q = true) (ho : ∀ x ∈ l, m x.1 = some x.2 ∧ x.1 < b ∧ x.2.lt (b + 8) = true ∧ x.2.fix b = true) : Ends rs b q (ofL l) e m := ⟨q, h, .keep hl ho⟩

theorem frz_nil : frz m [] = m := by funext id; simp [frz]
/-- Values that stay. -/
theorem Ends.v {rs : List RX} {b : Nat} {q r : PV} (h : resF rs e m = some q) (hp : purT m q = some r) : Ends rs b r mt e m := .val [] q h (by rw [frz_nil]; exact hp)

/-- One result, a plain one. -/
theorem Ends.tmp1 {b t : Nat} {r : PV} (h : e t = some r) (hs : r.scalar = true) : Ends [.tmp t] b r mt e m := by
  refine .val [] r (by simp [resF, resL, RX.ev, h, tup1]) ?_
  cases r with
  | bool x => rfl
  | int k n => rfl
  | str s => rfl
  | tup vs =>
    have key : ∀ us : List PV, (us.all fun | .bool _ | .int _ _ | .str _ => true | _ => false) = true → us.mapM (purA true (frz m [])) = some us := by
      intro us
      induction us with
      | nil => intro _; rfl
      | cons v us ih =>
        intro h
        rw [List.all_cons, Bool.and_eq_true] at h
        rw [List.mapM_cons, ih h.2]
        cases v <;> first | rfl | simp at h
    simp [purT, key vs hs]
  | _ => simp [PV.scalar] at hs
/-- One result: a row that is frozen now. -/
theorem Ends.tmpr {b t id n k T : Nat} {xs : List (List PV)} {fz : Bool} (h : e t = some (.osl id n)) (hm : m id = some (.row k xs T fz)) (hn : n = xs.length) : Ends [.tmp t] b (.sl xs) mt e m := by
  refine .val [id] (.osl id n) (by simp [resF, resL, RX.ev, h, tup1]) ?_
  simp [purT, purA, pur, frz, hm, Obj.freeze, hn]
theorem Ends.tmprE {b t id n k T : Nat} {xs : List (List PV)} {fz : Bool} {r : PV} (h : e t = some (.osl id n)) (hm : m id = some (.row k xs T fz)) (hn : n = xs.length) (hr : r = .sl xs) : Ends [.tmp t] b r mt e m := hr ▸ .tmpr h hm hn
theorem Ends.tmpsE {b t : Nat} {xs : List (List PV)} {r : PV} (h : e t = some (.sl xs)) (hr : r = .sl xs) : Ends [.tmp t] b r mt e m :=
  .val [] (.sl xs) (by simp [resF, resL, RX.ev, h, tup1]) (by rw [hr]; rfl)
/-- One result: a list that stays. -/
theorem Ends.tmps {b t : Nat} {xs : List (List PV)} (h : e t = some (.sl xs)) : Ends [.tmp t] b (.sl xs) mt e m :=
  .val [] (.sl xs) (by simp [resF, resL, RX.ev, h, tup1]) rfl

end
end Go.Vx
