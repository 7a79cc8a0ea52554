/- The engine, part 14: contracts, and calls by contract. -/
import Derived.Test.YtfeobpjoifffiaaGB
set_option linter.unusedVariables false
set_option linter.unusedSimpArgs false
namespace Go.Vx
open Go Go.RowKit

def Reps (w : World) (ok : Nat → Prop) (β : Ids) (ps : List PV) (vs : List Value) : Prop :=
  vs.length = ps.length ∧ ∀ (j : Nat) p v, ps[j]? = some p → vs[j]? = some v → Rep w ok β p v

def mt : Mem := fun _ => none

def Enters (P : Program) (f : Nat) : Prop := ∀ args w, (callFunc f args).run P w = .ok (.enter f args) w

/-- What is called: a function; the body of a range over a function. -/
inductive Cal where
  | f (n : Nat)
  | y (L : Nat)

def EntersX (P : Program) : Cal → Prop
  | .f f => Enters P f
  | .y _ => True

/-- The body of a range over a function is called. -/
def CallsY (P : Program) (l : Nat) (args : Array Value) (w : World) (R : Ending → World → Prop) : Prop :=
  ∃ fn tmps ca cb, (Instr.yield l args).run P w = .ok (.round l fn tmps ca cb) w ∧ RoundIn Fence.wide 0 P l fn tmps ca cb w R

def Invokes (P : Program) (β : Ids) (X : Cal) (vs : List Value) (w : World) (R : Ending → World → Prop) : Prop :=
  match X with
  | .f f => Calls P f vs.toArray w R
  | .y L => ∃ l cap, β L = some (.at l cap) ∧ CallsY P l vs.toArray w R

theorem Invokes.mono {P : Program} {β β' : Ids} {X : Cal} {vs : List Value} {w : World} {R R' : Ending → World → Prop} (h : Invokes P β X vs w R) (hβ : ∀ id x, β id = some x → β' id = some x) (hr : ∀ e w', R e w' → R' e w') : Invokes P β' X vs w R' := by
  cases X with
  | f f => exact Calls.mono h hr
  | y L =>
    obtain ⟨l, cap, h1, fn, t, ca, cb, h2, h3⟩ := h
    exact ⟨l, cap, hβ _ _ h1, fn, t, ca, cb, h2, h3.mono hr⟩

/-- **A contract**: called with these arguments, over the objects m, what is called returns r, and leaves the objects m', so that K r m'; new objects take the numbers b .. b + 7. -/
def VX (P : Program) (X : Cal) (args : List PV) (m : Mem) (b : Nat) (K : PV → Mem → Prop) : Prop :=
  EntersX P X ∧ ∀ (w : World) (β : Ids) (ok : Nat → Prop) (vs : List Value), MSat w ok β m → (∀ id, b ≤ id → β id = none) → (∀ k, ok k → k < w.heap.size) → Reps w ok β args vs →
    Invokes P β X vs w fun e w' => ∃ (v : Value) (r : PV) (m' : Mem) (β' : Ids) (ok' : Nat → Prop), e = .returned v ∧ K r m' ∧ Rep w' ok' β' r v ∧ MSat w' ok' β' m' ∧ Keeps w (Owns β m) w' ∧
      (∀ id, id < b → β' id = β id) ∧ (∀ id, b + 8 ≤ id → β' id = none) ∧ (∀ k, ok k → ok' k) ∧ (∀ k, ok' k → k < w'.heap.size) ∧
      (∀ k, ok' k → ok k ∨ Owns β m k ∨ w.heap.size ≤ k) ∧ ∀ k, Owns β' m' k → Owns β m k ∨ w.heap.size ≤ k

/-- Just this. -/
def Just (r : PV) (m' : Mem) (q : PV) (M : Mem) : Prop := q = r ∧ M = m'
/-- A function's contract. -/
abbrev V (P : Program) (f : Nat) (args : List PV) (m : Mem) (b : Nat) (r : PV) (m' : Mem) : Prop := VX P (.f f) args m b (Just r m')
/-- A loop body's contract. -/
abbrev VL (P : Program) (L : Nat) (args : List PV) (m : Mem) (b : Nat) (r : PV) (m' : Mem) : Prop := VX P (.y L) args m b (Just r m')

theorem VX.mono {P : Program} {X : Cal} {args : List PV} {m : Mem} {b : Nat} {K K' : PV → Mem → Prop} (h : VX P X args m b K) (hk : ∀ r m, K r m → K' r m) : VX P X args m b K' :=
  ⟨h.1, fun w β ok vs h1 h2 h3 h4 => (h.2 w β ok vs h1 h2 h3 h4).mono (fun _ _ h => h) fun e w' ⟨v, r, m', β', ok', he, hK, rest⟩ => ⟨v, r, m', β', ok', he, hk _ _ hK, rest⟩⟩

def lt1 (b : Nat) : PV → Bool
  | .ptr id _ _ _ => decide (id < b)
  | .osl id _ => decide (id < b)
  | .map id => decide (id < b)
  | .yld id => decide (id < b)
  | .fn _ cs => cs.isEmpty
  | .agg _ | .tup _ => false
  | _ => true
def PV.lt (b : Nat) : PV → Bool
  | .agg cs | .tup cs | .fn _ cs => cs.all (lt1 b)
  | p => lt1 b p
def Obj.lt (b : Nat) : Obj → Bool
  | .box cs _ => cs.all (PV.lt b)
  | .map es => es.all fun e => e.2.lt b
  | .iter mid _ _ _ => mid.all fun id => decide (id < b)
  | .loop k _ _ => decide (k.top ≤ b)
  | .row .. => true

def PV.scalar : PV → Bool
  | .bool _ | .int _ _ | .str _ => true
  | .tup vs => vs.all fun | .bool _ | .int _ _ | .str _ => true | _ => false
  | _ => false

/-- An argument is handed on as it is, or as what stays. -/
def Arg (b : Nat) (mR : Mem) (p q : PV) : Prop := (q = p ∧ p.lt b = true) ∨ purA true mR p = some q
def Args (b : Nat) (mR : Mem) : List PV → List PV → Prop
  | [], [] => True
  | p :: ps, q :: qs => Arg b mR p q ∧ Args b mR ps qs
  | _, _ => False

def patch (m0 : Mem) (b : Nat) (m1 m : Mem) : Mem := fun id => if (m0 id).isSome = true ∨ (b ≤ id ∧ id < b + 8) then m1 id else m id

def Obj.freeze : Obj → Obj
  | .row k xs T _ => .row k xs T true
  | o => o
def frz (m : Mem) (l : List Nat) : Mem := fun id => if id ∈ l then (m id).map Obj.freeze else m id

/-- Memory out of a list of objects (of two of one number the last one holds). -/
def ofL (l : List (Nat × Obj)) : Mem := mt.upds (l.map fun x => (x.1, some x.2))
/-- What is there instead: the old objects are gone, the new ones are there. -/
def swap (l0 l1 : List (Nat × Obj)) : Delta := l0.map (fun x => (x.1, none)) ++ l1.map fun x => (x.1, some x.2)

/-- A call by contract. mR: the objects that the call may see; bar: may it change them? nd: may what comes out hang on what is drawn? -/
inductive VC (P : Program) (b : Nat) (X : Cal) (ps : List PV) (bar nd : Bool) (K : PV → Mem → Prop) : Mem → Mem → Prop
  | pure {mR m : Mem} (qs : List PV) (r : PV) (ha : Args b mR ps qs) (hv : VX P X qs mt b (Just r mt)) (hk : K r m) : VC P b X ps bar nd K mR m
  | new {mR m : Mem} (qs : List PV) (r : PV) (o : Obj) (ha : Args b mR ps qs) (hv : VX P X qs mt b (Just r (upd mt b (some o)))) (hk : K r (upd m b (some o))) : VC P b X ps bar nd K mR m
  | gen {mR m : Mem} (hb : bar = true) (qs : List PV) (m0 : Mem) (r : PV) (m1 : Mem) (ha : Args b mR ps qs) (h0 : ∀ id o, m0 id = some o → mR id = some o ∧ id < b ∧ o.lt b = true) (hv : VX P X qs m0 b (Just r m1)) (hk : K r (patch m0 b m1 m)) : VC P b X ps bar nd K mR m
  | own {mR m : Mem} (hb : bar = true) (qs : List PV) (id : Nat) (o o' : Obj) (r : PV) (ha : Args b mR ps qs) (h0 : mR id = some o) (h1 : id < b) (h2 : o.lt b = true) (hv : VX P X qs (upd mt id (some o)) b (Just r (upd mt id (some o')))) (hk : K r (upd m id (some o'))) : VC P b X ps bar nd K mR m
  | frz {mR m : Mem} (hb : bar = true) (l : List Nat) (hl : ∀ id, id ∈ l → ∃ o, mR id = some o ∧ m id = some o) (h : VC P b X ps bar nd K (frz mR l) (frz m l)) : VC P b X ps bar nd K mR m
  | ol {mR m : Mem} (hb : bar = true) (qs : List PV) (l0 l1 : List (Nat × Obj)) (r : PV) (ha : Args b mR ps qs) (h0 : ∀ x ∈ l0, mR x.1 = some x.2 ∧ x.1 < b ∧ x.2.lt b = true) (h1 : ∀ x ∈ l1, x.1 ∈ l0.map (·.1) ∨ (b ≤ x.1 ∧ x.1 < b + 8)) (hv : VX P X qs (ofL l0) b (Just r (ofL l1))) (hk : K r (m.upds (swap l0 l1))) : VC P b X ps bar nd K mR m
  | any {mR m : Mem} (hb : bar = true) (hn : nd = true) (qs : List PV) (m0 : Mem) (K0 : PV → Mem → Prop) (ha : Args b mR ps qs) (h0 : ∀ id o, m0 id = some o → mR id = some o ∧ id < b ∧ o.lt b = true) (hv : VX P X qs m0 b K0) (hk : ∀ r m1, K0 r m1 → K r (patch m0 b m1 m)) : VC P b X ps bar nd K mR m
abbrev VCall (P : Program) (b : Nat) (X : Cal) (ps : List PV) (mR m : Mem) (bar nd : Bool) (K : PV → Mem → Prop) : Prop := VC P b X ps bar nd K mR m

theorem upds_last (d : Delta) : ∀ (m : Mem) (id : Nat), (id ∉ d.map (·.1) ∧ m.upds d id = m id) ∨ ∃ o, (id, o) ∈ d ∧ ∀ m', Mem.upds m' d id = o := by
  induction d with
  | nil => intro m id; exact .inl ⟨by simp, rfl⟩
  | cons x d ih =>
    intro m id
    obtain ⟨i, o⟩ := x
    have e : ∀ m : Mem, m.upds ((i, o) :: d) = Mem.upds (upd m i o) d := fun _ => rfl
    rcases ih (upd m i o) id with ⟨h1, h2⟩ | ⟨o', h1, h2⟩
    · by_cases he : id = i
      · subst he
        refine .inr ⟨o, List.mem_cons_self, fun m' => ?_⟩
        rw [e]
        rcases ih (upd m' id o) id with ⟨_, h3⟩ | ⟨o', h3, _⟩
        · rw [h3, upd_same]
        · exact absurd (List.mem_map_of_mem (f := (·.1)) h3) h1
      · refine .inl ⟨by simp only [List.map_cons, List.mem_cons, not_or]; exact ⟨he, h1⟩, ?_⟩
        rw [e, h2, upd_other _ _ he]
    · exact .inr ⟨o', List.mem_cons_of_mem _ h1, fun m' => by rw [e]; exact h2 _⟩

theorem ofL_some {l : List (Nat × Obj)} {id : Nat} {o : Obj} (h : ofL l id = some o) : (id, o) ∈ l := by
  unfold ofL at h
  rcases upds_last (l.map fun x => (x.1, some x.2)) mt id with ⟨_, h2⟩ | ⟨o', h1, h2⟩
  · rw [h2] at h; cases h
  · rw [h2 mt] at h; subst h
    simp only [List.mem_map, Prod.mk.injEq, Option.some.injEq] at h1
    obtain ⟨x, hx, h3, h4⟩ := h1
    have : x = (id, o) := Prod.ext h3 h4
    exact this ▸ hx
theorem ofL_none {l : List (Nat × Obj)} {id : Nat} (h : ofL l id = none) : id ∉ l.map (·.1) := by
  unfold ofL at h
  rcases upds_last (l.map fun x => (x.1, some x.2)) mt id with ⟨h1, _⟩ | ⟨o', h1, h2⟩
  · simpa using h1
  · rw [h2 mt] at h; subst h
    simp at h1
theorem swap_upds {l0 l1 : List (Nat × Obj)} {m : Mem} {id : Nat} : m.upds (swap l0 l1) id = if id ∈ l1.map (·.1) then ofL l1 id else if id ∈ l0.map (·.1) then none else m id := by
  have e : m.upds (swap l0 l1) = Mem.upds (m.upds (l0.map fun x => (x.1, none))) (l1.map fun x => (x.1, some x.2)) := by simp [swap, Mem.upds, List.foldl_append]
  rw [e]
  rcases upds_last (l1.map fun x => (x.1, some x.2)) (m.upds (l0.map fun x => (x.1, none))) id with ⟨h1, h2⟩ | ⟨o, h1, h2⟩
  · have h1' : id ∉ l1.map (·.1) := by simpa using h1
    rw [if_neg h1', h2]
    rcases upds_last (l0.map fun x => (x.1, (none : Option Obj))) m id with ⟨h3, h4⟩ | ⟨o, h3, h4⟩
    · have h3' : id ∉ l0.map (·.1) := by simpa using h3
      rw [if_neg h3', h4]
    · have h3' : id ∈ l0.map (·.1) := by
        simp only [List.mem_map, Prod.mk.injEq] at h3
        obtain ⟨x, hx, h5, _⟩ := h3
        exact List.mem_map.2 ⟨x, hx, h5⟩
      have : o = none := by
        simp only [List.mem_map, Prod.mk.injEq] at h3
        obtain ⟨x, hx, _, h6⟩ := h3
        exact h6.symm
      rw [if_pos h3', h4 m, this]
  · have h1' : id ∈ l1.map (·.1) := by
      simp only [List.mem_map, Prod.mk.injEq] at h1
      obtain ⟨x, hx, h5, _⟩ := h1
      exact List.mem_map.2 ⟨x, hx, h5⟩
    rw [if_pos h1', h2]
    unfold ofL
    rw [h2]

section
variable {P : Program} {F : Fr} {β : Ids} {ok : Nat → Prop} {e : Nat → Option PV} {m : Mem} {a : Act} {w : World} {b : Nat} {o : Oper}

def cut (b : Nat) (β : Ids) : Ids := fun id => if id < b then β id else none

theorem Rep.cut1 {p : PV} {v : Value} (h : Rep w ok β p v) (hl : lt1 b p = true) : Rep w ok (cut b β) p v := by
  cases h with
  | bool b => exact .bool b
  | int k n => exact .int k n
  | str s => exact .str s
  | nilp => exact .nilp
  | nilm => exact .nilm
  | nilf => exact .nilf
  | ptr id k i j bl cap h => exact .ptr id k i j bl cap (by simp [lt1] at hl; simp [cut, hl, h])
  | cptr cs A f hs hok h1 hc hr => exact .cptr cs A f hs hok h1 hc hr
  | sl0 A cap h => exact .sl0 A cap h
  | sl k xs A cap f h1 h2 h3 h4 h5 h6 h7 h8 h9 => exact .sl k xs A cap f h1 h2 h3 h4 h5 h6 h7 h8 h9
  | osl0 id A h => exact .osl0 id A (by simp [lt1] at hl; simp [cut, hl, h])
  | yld id bl cap h => exact .yld id bl cap (by simp [lt1] at hl; simp [cut, hl, h])
  | nsl => exact .nsl
  | osl id n bl cap h hn => exact .osl id n bl cap (by simp [lt1] at hl; simp [cut, hl, h]) hn
  | map id bl cap h => exact .map id bl cap (by simp [lt1] at hl; simp [cut, hl, h])
  | fn f caps vs h1 hr =>
    simp [lt1] at hl
    subst hl
    exact .fn f [] vs h1 (by simp)
  | agg cs vs _ _ _ => simp [lt1] at hl
  | tup cs vs _ _ => simp [lt1] at hl

theorem Rep.cut {p : PV} {v : Value} (h : Rep w ok β p v) (hl : p.lt b = true) : Rep w ok (cut b β) p v := by
  have key : ∀ {cs : List PV} {vs : List Value}, (∀ (j : Nat) c v, cs[j]? = some c → vs[j]? = some v → Rep w ok β c v) → cs.all (lt1 b) = true → ∀ (j : Nat) c v, cs[j]? = some c → vs[j]? = some v → Rep w ok (Vx.cut b β) c v :=
    fun hr ha j c v hc hv => (hr j c v hc hv).cut1 (List.all_eq_true.1 ha c (List.mem_of_getElem? hc))
  cases h with
  | fn f caps vs h1 hr => exact .fn f caps vs h1 (key hr hl)
  | agg cs vs h1 h2 hr => exact .agg cs vs h1 h2 (key hr hl)
  | tup cs vs h1 hr => exact .tup cs vs h1 (key hr hl)
  | bool b => exact .bool b
  | int k n => exact .int k n
  | str s => exact .str s
  | nilp => exact .nilp
  | nilm => exact .nilm
  | nilf => exact .nilf
  | ptr id k i j bl cap h => exact (Rep.ptr id k i j bl cap h).cut1 hl
  | cptr cs A f hs hok h1 hc hr => exact .cptr cs A f hs hok h1 hc hr
  | sl0 A cap h => exact .sl0 A cap h
  | sl k xs A cap f h1 h2 h3 h4 h5 h6 h7 h8 h9 => exact .sl k xs A cap f h1 h2 h3 h4 h5 h6 h7 h8 h9
  | osl0 id A h => exact (Rep.osl0 id A h).cut1 hl
  | yld id bl cap h => exact (Rep.yld id bl cap h).cut1 hl
  | nsl => exact .nsl
  | osl id n bl cap h hn => exact (Rep.osl id n bl cap h hn).cut1 hl
  | map id bl cap h => exact (Rep.map id bl cap h).cut1 hl

theorem MSat.sub {m0 : Mem} (hm : MSat w ok β m) (h : ∀ id o, m0 id = some o → m id = some o) : MSat w ok β m0 :=
  ⟨fun id o ho => hm.objs id o (h id o ho), fun i1 i2 o1 o2 bb c1 c2 h1 h2 h3 h4 => hm.disj i1 i2 o1 o2 bb c1 c2 (h _ _ h1) (h _ _ h2) h3 h4⟩

theorem MSat.cut {m0 : Mem} (hm : MSat w ok β m0) (h : ∀ id o, m0 id = some o → id < b ∧ o.lt b = true) : MSat w ok (cut b β) m0 := by
  have hid : ∀ id o, m0 id = some o → Vx.cut b β id = β id := fun id o ho => by simp [Vx.cut, (h id o ho).1]
  refine ⟨fun id o ho => ?_, fun i1 i2 o1 o2 bb c1 c2 h1 h2 h3 h4 => ?_⟩
  · obtain ⟨l, hl, hr⟩ := hm.objs id o ho
    refine ⟨l, by rw [hid id o ho]; exact hl, ?_⟩
    have hlt := (h id o ho).2
    cases l with
    | nil => cases o <;> first | exact hr | exact hr.elim
    | «at» bl cap =>
      cases o with
      | row k xs T fz => exact hr
      | map es =>
        obtain ⟨⟨cur, g1, g2, g4⟩, g5⟩ := hr
        refine ⟨⟨cur, g1, g2, fun j c hj => ?_⟩, g5⟩
        obtain ⟨u, hu, hk, hru, hbn⟩ := g4 j c hj
        exact ⟨u, hu, hk, hru.cut (List.all_eq_true.1 hlt c (List.mem_of_getElem? hj)), hbn⟩
      | iter mid q seen last =>
        obtain ⟨⟨mo, g1, g2, g4⟩, g5⟩ := hr
        refine ⟨⟨mo, g1, ?_, g4⟩, g5⟩
        cases mid with
        | none => exact g2
        | some id2 =>
          obtain ⟨mb, cp, e1, e2⟩ := g2
          have hl2 : id2 < b := by simpa [Obj.lt] using hlt
          exact ⟨mb, cp, e1, by simp [Vx.cut, hl2, e2]⟩
      | loop k st pend =>
        obtain ⟨⟨tm, ca, cb, dl, g1, g2, g3, g4, g6, g7, g8, g9⟩, g5⟩ := hr
        have hl2 : k.top ≤ b := by simpa [Obj.lt] using hlt
        refine ⟨⟨tm, ca, cb, dl, g1, g2, g3, g4, g6, g7, fun id2 x hx => ?_, g9⟩, g5⟩
        have : id2 < b := by
          rcases Nat.lt_or_ge id2 k.top with h | h
          · omega
          · rw [g9 id2 h] at hx; cases hx
        simp [Vx.cut, this, g8 id2 x hx]
      | box cs T =>
        obtain ⟨⟨cur, g1, g2, g3, g4⟩, g5⟩ := hr
        refine ⟨⟨cur, g1, g2, g3, fun j c hj => ?_⟩, g5⟩
        obtain ⟨u, hu, hru⟩ := g4 j c hj
        exact ⟨u, hu, hru.cut (List.all_eq_true.1 hlt c (List.mem_of_getElem? hj))⟩
  · rw [hid _ _ h1] at h3
    rw [hid _ _ h2] at h4
    exact hm.disj i1 i2 o1 o2 bb c1 c2 h1 h2 h3 h4

theorem args_rep {mR : Mem} (hm : MSat w ok β mR) : ∀ {ps qs : List PV} {vs : List Value}, Args b mR ps qs → Reps w ok β ps vs → Reps w ok (cut b β) qs vs
  | [], [], vs, _, h => ⟨h.1, by simp⟩
  | p :: ps, q :: qs, [], _, h => by simp [Reps] at h
  | p :: ps, q :: qs, v :: vs, ⟨h1, h2⟩, h => by
    have hrest : Reps w ok β ps vs := ⟨by simpa using h.1, fun j c u hc hu => h.2 (j + 1) c u (by simpa using hc) (by simpa using hu)⟩
    obtain ⟨g1, g2⟩ := args_rep hm h2 hrest
    have h0 := h.2 0 p v rfl rfl
    refine ⟨by simp [g1], fun j c u hc hu => ?_⟩
    cases j with
    | zero =>
      simp at hc hu
      subst hc; subst hu
      rcases h1 with ⟨rfl, hl⟩ | hq
      · exact h0.cut hl
      · exact (purA_rep hm hq h0).1.any
    | succ j => exact g2 j c u (by simpa using hc) (by simpa using hu)
  | [], _ :: _, _, h, _ => h.elim
  | _ :: _, [], _, h, _ => h.elim

/-- What a call by contract leaves. -/
theorem v_apply (hs : Sat0 F β ok e m a w) (hf : ∀ id, b ≤ id → id < b + 8 → β id = none) {mR : Mem} (hR : ∀ id o, mR id = some o → m id = some o) {X : Cal} {ps qs : List PV} {vs : List Value} {m0 : Mem} {K0 : PV → Mem → Prop}
    (hr : Reps w ok β ps vs) (ha : Args b mR ps qs) (h0 : ∀ id o, m0 id = some o → mR id = some o ∧ id < b ∧ o.lt b = true) (hv : VX P X qs m0 b K0) :
    Invokes P β X vs w fun e' w' => ∃ v r m1 β' ok', e' = .returned v ∧ K0 r m1 ∧ Rep w' ok' β' r v ∧ Sat0 F β' ok' e (patch m0 b m1 m) a w' ∧ ∀ id, (id < b ∨ b + 8 ≤ id) → β' id = β id := by
  have hmR : MSat w ok β mR := hs.mem.sub hR
  have hm0 : ∀ id o, m0 id = some o → m id = some o := fun id o h => hR id o (h0 id o h).1
  have hm0s : MSat w ok (cut b β) m0 := (hs.mem.sub hm0).cut fun id o h => (h0 id o h).2
  refine (hv.2 w (cut b β) ok vs hm0s (fun id h => by simp [cut]; omega) hs.okb (args_rep hmR ha hr)).mono (fun id x h => by unfold Vx.cut at h; split at h; exact h; cases h) ?_
  rintro e' w' ⟨v, r, m1, β1, ok1, rfl, hk0, hrep, hms, hkeep, hb1, hb2, hok1, hok2, hok3, hown⟩
  have hcut : ∀ id, id < b → β1 id = β id := fun id h => by rw [hb1 id h]; simp [cut, h]
  have hOw : ∀ k, Owns (cut b β) m0 k → Owns β m k ∧ ∃ id o cap, m0 id = some o ∧ o.fz = false ∧ m id = some o ∧ β id = some (.at k cap) := by
    rintro k ⟨id, o, cap, h1, h2, h3⟩
    have : id < b := (h0 id o h1).2.1
    simp [cut, this] at h3
    exact ⟨⟨id, o, cap, hm0 _ _ h1, h2, h3⟩, id, o, cap, h1, h2, hm0 _ _ h1, h3⟩
  have hblk : ∀ k, k < w.heap.size → ¬ Owns (cut b β) m0 k → w'.heap[k]? = w.heap[k]? := hkeep.block
  have hokw : ∀ k, ok k → w'.heap[k]? = w.heap[k]? := fun k hk => hblk k (hs.okb k hk) fun h => hs.mem.not_ok (hOw k h).1 hk
  let β2 : Ids := fun id => if id < b + 8 then β1 id else β id
  have h12 : ∀ id x, β1 id = some x → β2 id = some x := fun id x h => by
    by_cases hl : id < b + 8
    · simp [β2, hl, h]
    · rw [hb2 id (by omega)] at h; cases h
  have h02 : ∀ id x, β id = some x → β2 id = some x := fun id x h => by
    by_cases hl : id < b
    · simp [β2, show id < b + 8 by omega, hcut id hl, h]
    · by_cases hl2 : id < b + 8
      · rw [hf id (by omega) hl2] at h; cases h
      · simp [β2, hl2, h]
  have hfar : ∀ id, (id < b ∨ b + 8 ≤ id) → β2 id = β id := fun id h => by
    rcases h with h | h
    · simp [β2, show id < b + 8 by omega, hcut id h]
    · simp [β2, show ¬ id < b + 8 by omega]
  -- an object that is not of the call's
  have hstay : ∀ id o bb cap, m id = some o → m0 id = none → β id = some (.at bb cap) → w'.heap[bb]? = w.heap[bb]? ∧ ¬ Owns (cut b β) m0 bb := fun id o bb cap h1 h2 h3 => by
    have : ¬ Owns (cut b β) m0 bb := fun hO => by
      obtain ⟨_, id2, o2, cap2, g1, g2, g3, g4⟩ := hOw bb hO
      have := hs.mem.disj' h1 g3 h3 g4 g2
      subst this
      rw [g1] at h2; cases h2
    exact ⟨hblk bb (hs.mem.lt h1 h3) this, this⟩
  have look : ∀ id o, patch m0 b m1 m id = some o → (m1 id = some o ∧ β2 id = β1 id) ∨ (m id = some o ∧ m0 id = none ∧ (id < b ∨ b + 8 ≤ id)) := fun id o h => by
    unfold patch at h
    split at h
    · rename_i hc
      refine .inl ⟨h, ?_⟩
      have : id < b + 8 := by
        rcases hc with hc | hc
        · obtain ⟨o', ho'⟩ := Option.isSome_iff_exists.1 hc
          have := (h0 id o' ho').2.1; omega
        · exact hc.2
      simp [β2, this]
    · rename_i hc
      have hn : m0 id = none := by
        cases hh : m0 id with
        | none => rfl
        | some x => exact absurd (.inl (by rw [hh]; rfl)) hc
      refine .inr ⟨h, hn, ?_⟩
      rcases Nat.lt_or_ge id b with h1 | h1
      · exact .inl h1
      · rcases Nat.lt_or_ge id (b + 8) with h2 | h2
        · exact absurd (.inr ⟨h1, h2⟩) hc
        · exact .inr h2
  have hownP : ∀ k, Owns β2 (patch m0 b m1 m) k → Owns β m k ∨ w.heap.size ≤ k := by
    rintro k ⟨id, o, cap, h1, h2, h3⟩
    rcases look id o h1 with ⟨g1, g2⟩ | ⟨g1, g2, g3⟩
    · rw [g2] at h3
      rcases hown k ⟨id, o, cap, g1, h2, h3⟩ with h | h
      · exact .inl (hOw k h).1
      · exact .inr h
    · rw [hfar _ g3] at h3
      exact .inl ⟨id, o, cap, g1, h2, h3⟩
  refine ⟨v, r, m1, β2, ok1, rfl, hk0, hrep.mono (fun _ _ => rfl) (fun _ h => h) _ h12, ?_, hfar⟩
  refine ⟨hs.size, hs.defers.step (Owns (Vx.cut b β) m0) (fun k hk hn => hblk k hk hn) (fun k _ hk => (hOw k hk).1) hownP (fun k hk => (hok3 k hk).imp (fun h => h) (fun h => h.imp (fun h => (hOw k h).1) (fun h => h))), fun t p ht => ?_, ⟨fun id o ho => ?_, fun i1 i2 o1 o2 bb c1 c2 h1 h2 h3 h4 f1 f2 => ?_⟩, hok2, ?_, fun k hk => ?_, fun k hk => hok1 k (hs.ok0 k hk), fun k hk => ?_⟩
  · obtain ⟨u, hu, hru⟩ := hs.env t p ht
    exact ⟨u, hu, hru.mono hokw hok1 _ h02⟩
  · rcases look id o ho with ⟨h1, h2⟩ | ⟨h1, h2, h3⟩
    · obtain ⟨l, hl, hlr⟩ := hms.objs id o h1
      exact ⟨l, h2.trans hl, hlr.mono (fun _ _ => rfl) (fun _ h => h) h12 fun _ _ _ => ⟨rfl, fun h => h⟩⟩
    · obtain ⟨l, hl, hlr⟩ := hs.mem.objs id o h1
      refine ⟨l, h02 _ _ hl, hlr.mono hokw hok1 h02 fun bb cap hll => ?_⟩
      subst hll
      obtain ⟨q1, q2⟩ := hstay id o bb cap h1 h2 hl
      refine ⟨q1, fun hk => ?_⟩
      rcases hok3 bb hk with h | h | h
      · exact h
      · exact absurd h q2
      · have := hs.mem.lt h1 hl; omega
  · have clash : ∀ i j o1 o2 c1 c2, m1 i = some o1 → β1 i = some (.at bb c1) → o1.fz = false → m j = some o2 → m0 j = none → β j = some (.at bb c2) → False := by
      intro i j o1 o2 c1 c2 g1 g2 g3 g4 g5 g6
      obtain ⟨q1, q2⟩ := hstay j o2 bb c2 g4 g5 g6
      rcases hown bb ⟨i, o1, c1, g1, g3, g2⟩ with h | h
      · exact q2 h
      · have := hs.mem.lt g4 g6; omega
    rcases look i1 o1 h1 with ⟨g1, g2⟩ | ⟨g1, g2, g3⟩ <;> rcases look i2 o2 h2 with ⟨k1, k2⟩ | ⟨k1, k2, k3⟩
    · rw [g2] at h3; rw [k2] at h4
      exact hms.disj i1 i2 o1 o2 bb c1 c2 g1 k1 h3 h4 f1 f2
    · rw [g2] at h3; rw [hfar _ k3] at h4
      exact (clash i1 i2 o1 o2 c1 c2 g1 h3 f1 k1 k2 h4).elim
    · rw [hfar _ g3] at h3; rw [k2] at h4
      exact (clash i2 i1 o2 o1 c2 c1 k1 h4 f2 g1 g2 h3).elim
    · rw [hfar _ g3] at h3; rw [hfar _ k3] at h4
      exact hs.mem.disj i1 i2 o1 o2 bb c1 c2 g1 k1 h3 h4 f1 f2
  · refine ⟨hkeep.os.trans hs.keeps.os, hkeep.tape.trans hs.keeps.tape, hkeep.output.trans hs.keeps.output, Nat.le_trans hs.keeps.size hkeep.size, fun k hk hn => ?_, Nat.le_trans hs.keeps.drawn hkeep.drawn⟩
    rw [hblk k (Nat.lt_of_lt_of_le hk hs.keeps.size) fun hO => ?_]
    · exact hs.keeps.block k hk hn
    · rcases hs.own k (hOw k hO).1 with h | h
      · exact hn h
      · omega
  · rcases hownP k hk with h | h
    · exact hs.own k h
    · exact .inr (Nat.le_trans hs.keeps.size h)
  · rcases hok3 k hk with h | h | h
    · exact hs.oks k h
    · rcases hs.own k (hOw k h).1 with h | h
      · exact .inr (.inl h)
      · exact .inr (.inr h)
    · exact .inr (.inr (Nat.le_trans hs.keeps.size h))

theorem Sat0.frz' {β : Ids} {ok : Nat → Prop} {a : Act} {w : World} (hs : Sat0 F β ok e m a w) (l : List Nat) : ∃ ok', Sat0 F β ok' e (frz m l) a w ∧ ∀ k, ok k → ok' k := by
  let ok' : Nat → Prop := fun k => ok k ∨ ∃ id kk xs T cap, id ∈ l ∧ m id = some (.row kk xs T false) ∧ β id = some (.at k cap)
  have hok : ∀ k, ok k → ok' k := fun k h => .inl h
  have lookup : ∀ id o, Vx.frz m l id = some o → m id = some o ∧ (id ∉ l ∨ o.fz = true ∨ ∀ k xs T fz, o ≠ .row k xs T fz) ∨ (id ∈ l ∧ ∃ k xs T, m id = some (.row k xs T false) ∧ o = .row k xs T true) := fun id o h => by
    unfold Vx.frz at h
    split at h
    · rename_i hm
      simp only [Option.map_eq_some_iff] at h
      obtain ⟨o', ho', rfl⟩ := h
      cases o' with
      | row k xs T fz =>
        cases fz with
        | true => exact .inl ⟨ho', .inr (.inl rfl)⟩
        | false => exact .inr ⟨hm, k, xs, T, ho', rfl⟩
      | box cs T => exact .inl ⟨ho', .inr (.inr (by simp [Obj.freeze]))⟩
      | map es => exact .inl ⟨ho', .inr (.inr (by simp [Obj.freeze]))⟩
      | iter => exact .inl ⟨ho', .inr (.inr (by simp [Obj.freeze]))⟩
      | loop => exact .inl ⟨ho', .inr (.inr (by simp [Obj.freeze]))⟩
    · rename_i hm
      exact .inl ⟨h, .inl hm⟩
  have hownF : ∀ k, Owns β (Vx.frz m l) k → Owns β m k := by
    rintro k ⟨id, o, cap, h1, h2, h3⟩
    rcases lookup id o h1 with ⟨g1, _⟩ | ⟨_, _, _, _, _, rfl⟩
    · exact ⟨id, o, cap, g1, h2, h3⟩
    · cases h2
  have hokF : ∀ k, ok' k → ok k ∨ Owns β m k := by
    rintro k (hk | ⟨id2, kk, xs2, T2, cap2, g1, g2, g3⟩)
    · exact .inl hk
    · exact .inr ⟨id2, _, cap2, g2, rfl, g3⟩
  refine ⟨ok', ⟨hs.size, hs.defers.step (fun _ => False) (fun _ _ _ => rfl) (fun _ _ h => h.elim) (fun k hk => .inl (hownF k hk)) (fun k hk => (hokF k hk).imp (fun h => h) .inl), fun t p ht => ?_, ⟨fun id o ho => ?_, fun i1 i2 o1 o2 bb c1 c2 h1 h2 h3 h4 f1 f2 => ?_⟩, fun k hk => ?_, hs.keeps, fun k hk => ?_, fun k hk => .inl (hs.ok0 k hk), fun k hk => ?_⟩, hok⟩
  · obtain ⟨v, hv, hr⟩ := hs.env t p ht
    exact ⟨v, hv, hr.mono (fun _ _ => rfl) hok _ (fun _ _ h => h)⟩
  · rcases lookup id o ho with ⟨h1, h2⟩ | ⟨hl, k, xs, T, h1, rfl⟩
    · obtain ⟨lc, hlc, hr⟩ := hs.mem.objs id o h1
      cases hfz : o.fz with
      | true =>
        refine ⟨lc, hlc, ?_⟩
        cases o with
        | row k xs T fz =>
          simp [Obj.fz] at hfz; subst hfz
          cases lc with
          | nil => exact hr
          | «at» b cap =>
            obtain ⟨⟨cur, g1, g2, g3, g4, g5, g6, g7⟩, g8, g9⟩ := hr
            exact ⟨⟨cur, g1, g2, g3, g4, g5, g6, fun j c hj => by obtain ⟨v, hv, hr⟩ := g7 j c hj; exact ⟨v, hv, hr.mono (fun _ _ => rfl) hok _ (fun _ _ h => h)⟩⟩, fun _ => .inl (g8 rfl), by simp⟩
        | box cs T => simp [Obj.fz] at hfz
        | map es => simp [Obj.fz] at hfz
        | iter => simp [Obj.fz] at hfz
        | loop => simp [Obj.fz] at hfz
      | false =>
        refine ⟨lc, hlc, hr.mono (fun _ _ => rfl) hok (fun _ _ h => h) fun bb cap hll => ⟨rfl, fun hk => ?_⟩⟩
        subst hll
        rcases hk with hk | ⟨id2, kk, xs2, T2, cap2, g1, g2, g3⟩
        · exact hk
        · exfalso
          have := hs.mem.disj' g2 h1 g3 hlc hfz
          subst this
          rw [h1] at g2; injection g2 with g2; subst g2
          rcases h2 with h2 | h2 | h2
          · exact h2 g1
          · rw [hfz] at h2; cases h2
          · exact h2 _ _ _ _ rfl
    · obtain ⟨lc, hlc, hr⟩ := hs.mem.objs id _ h1
      refine ⟨lc, hlc, ?_⟩
      cases lc with
      | nil => exact hr
      | «at» b cap =>
        obtain ⟨⟨cur, g1, g2, g3, g4, g5, g6, g7⟩, g8, g9⟩ := hr
        exact ⟨⟨cur, g1, g2, g3, g4, g5, g6, fun j c hj => by obtain ⟨v, hv, hr⟩ := g7 j c hj; exact ⟨v, hv, hr.mono (fun _ _ => rfl) hok _ (fun _ _ h => h)⟩⟩, fun _ => .inr ⟨id, k, xs, T, cap, hl, h1, hlc⟩, by simp⟩
  · rcases lookup i1 o1 h1 with ⟨g1, _⟩ | ⟨_, _, _, _, _, rfl⟩
    · rcases lookup i2 o2 h2 with ⟨g2, _⟩ | ⟨_, _, _, _, _, rfl⟩
      · exact hs.mem.disj i1 i2 o1 o2 bb c1 c2 g1 g2 h3 h4 f1 f2
      · cases f2
    · cases f1
  · rcases hk with hk | ⟨id2, kk, xs2, T2, cap2, g1, g2, g3⟩
    · exact hs.okb k hk
    · exact hs.mem.lt g2 g3
  · obtain ⟨id, o, cap, h1, h2, h3⟩ := hk
    rcases lookup id o h1 with ⟨g1, _⟩ | ⟨_, _, _, _, _, rfl⟩
    · exact hs.own k ⟨id, o, cap, g1, h2, h3⟩
    · cases h2
  · rcases hk with hk | ⟨id2, kk, xs2, T2, cap2, g1, g2, g3⟩
    · exact hs.oks k hk
    · exact (hs.own k ⟨id2, _, cap2, g2, rfl, g3⟩).elim (fun h => .inr (.inl h)) (fun h => .inr (.inr h))

theorem Sat0.congr (hs : Sat0 F β ok e m a w) {m' : Mem} (h : ∀ id, m' id = m id) : Sat0 F β ok e m' a w := by
  have : m' = m := funext h
  subst this
  exact hs

theorem call_sound (hs : Sat0 F β ok e m a w) (hf : ∀ id, b ≤ id → id < b + 8 → β id = none) {mR : Mem} {bar nd : Bool} (hR : ∀ id o, mR id = some o → m id = some o) {X : Cal} {ps : List PV} {vs : List Value} {K : PV → Mem → Prop}
    (hr : Reps w ok β ps vs) (h : VCall P b X ps mR m bar nd K) :
    EntersX P X ∧ Invokes P β X vs w fun e' w' => ∃ v p m' β' ok', e' = .returned v ∧ K p m' ∧ Rep w' ok' β' p v ∧ Sat0 F β' ok' e m' a w' ∧ ∀ id, (id < b ∨ b + 8 ≤ id) → β' id = β id := by
  have hfm : ∀ id, b ≤ id → id < b + 8 → m id = none := fun id h1 h2 => by
    cases hid : m id with
    | none => rfl
    | some ob =>
      obtain ⟨l, hl, _⟩ := hs.mem.objs id ob hid
      rw [hf id h1 h2] at hl; cases hl
  unfold VCall at h
  induction h generalizing ok with
  | @pure mR m qs r ha hv hk =>
    refine ⟨hv.1, (v_apply hs hf hR hr ha (m0 := mt) (by simp [mt]) hv).mono (fun _ _ h => h) ?_⟩
    rintro e' w' ⟨v, _, _, β', ok', rfl, ⟨rfl, rfl⟩, h1, h2, h3⟩
    refine ⟨v, _, m, β', ok', rfl, hk, h1, h2.congr fun id => ?_, h3⟩
    simp only [patch, mt, Option.isSome_none, Bool.false_eq_true, false_or]
    split
    · rename_i hc; exact hfm id hc.1 hc.2
    · rfl
  | @new mR m qs r ob ha hv hk =>
    refine ⟨hv.1, (v_apply hs hf hR hr ha (m0 := mt) (by simp [mt]) hv).mono (fun _ _ h => h) ?_⟩
    rintro e' w' ⟨v, _, _, β', ok', rfl, ⟨rfl, rfl⟩, h1, h2, h3⟩
    refine ⟨v, _, _, β', ok', rfl, hk, h1, h2.congr fun id => ?_, h3⟩
    simp only [patch, mt, Option.isSome_none, Bool.false_eq_true, false_or, upd]
    by_cases he : id = b
    · simp [he]
    · simp only [he, if_false]
      split
      · rename_i hc; exact hfm id hc.1 hc.2
      · rfl
  | @gen mR m hb qs m0 r m1 ha h0 hv hk =>
    refine ⟨hv.1, (v_apply hs hf hR hr ha h0 hv).mono (fun _ _ h => h) ?_⟩
    rintro e' w' ⟨v, _, _, β', ok', rfl, ⟨rfl, rfl⟩, h1, h2, h3⟩
    exact ⟨v, _, _, β', ok', rfl, hk, h1, h2, h3⟩
  | @own mR m hb qs id o o' r ha h0 h1 h2 hv hk =>
    have hm0 : ∀ i x, upd mt id (some o) i = some x → mR i = some x ∧ i < b ∧ x.lt b = true := fun i x hx => by
      by_cases he : i = id
      · subst he; simp [upd] at hx; subst hx; exact ⟨h0, h1, h2⟩
      · simp [upd, he, mt] at hx
    refine ⟨hv.1, (v_apply hs hf hR hr ha hm0 hv).mono (fun _ _ h => h) ?_⟩
    rintro e' w' ⟨v, _, _, β', ok', rfl, ⟨rfl, rfl⟩, g1, g2, g3⟩
    refine ⟨v, _, _, β', ok', rfl, hk, g1, g2.congr fun i => ?_, g3⟩
    by_cases he : i = id
    · subst he; simp [patch, upd]
    · simp only [patch, upd, he, if_false, mt, Option.isSome_none, Bool.false_eq_true, false_or]
      split
      · rename_i hc; exact hfm i hc.1 hc.2
      · rfl
  | @frz mR m hb l hl h ih =>
    obtain ⟨ok', hs', hok⟩ := hs.frz' l
    refine ih hs' (fun id o ho => ?_) ⟨hr.1, fun j p v hp hv => (hr.2 j p v hp hv).mono (fun _ _ => rfl) hok _ (fun _ _ h => h)⟩ (fun id h1 h2 => ?_)
    · unfold Vx.frz at ho ⊢
      split
      · rename_i hm
        simp only [hm, if_true, Option.map_eq_some_iff] at ho ⊢
        obtain ⟨o', h1, h2⟩ := ho
        exact ⟨o', hR _ _ h1, h2⟩
      · rename_i hm
        rw [if_neg hm] at ho
        exact hR _ _ ho
    · unfold Vx.frz
      rw [hfm id h1 h2]
      simp

  | @ol mR m hb qs l0 l1 r ha h0 h1 hv hk =>
    have hm0 : ∀ id o, ofL l0 id = some o → mR id = some o ∧ id < b ∧ o.lt b = true := fun id o h => h0 (id, o) (ofL_some h)
    refine ⟨hv.1, (v_apply hs hf hR hr ha hm0 hv).mono (fun _ _ h => h) ?_⟩
    rintro e' w' ⟨v, _, _, β', ok', rfl, ⟨rfl, rfl⟩, g1, g2, g3⟩
    refine ⟨v, _, _, β', ok', rfl, hk, g1, g2.congr fun id => ?_, g3⟩
    rw [swap_upds]
    unfold patch
    by_cases hl1 : id ∈ l1.map (·.1)
    · rw [if_pos hl1, if_pos]
      obtain ⟨x, hx, rfl⟩ := List.mem_map.1 hl1
      rcases h1 x hx with h | h
      · cases hz : ofL l0 x.1 with
        | none => exact absurd h (ofL_none hz)
        | some _ => exact .inl rfl
      · exact .inr h
    · rw [if_neg hl1]
      have hn1 : ofL l1 id = none := by
        cases hz : ofL l1 id with
        | none => rfl
        | some o => exact absurd (List.mem_map_of_mem (f := (·.1)) (ofL_some hz)) hl1
      by_cases hl0 : id ∈ l0.map (·.1)
      · rw [if_pos hl0, if_pos, hn1]
        cases hz : ofL l0 id with
        | none => exact absurd hl0 (ofL_none hz)
        | some _ => exact .inl rfl
      · rw [if_neg hl0]
        have hn0 : ofL l0 id = none := by
          cases hz : ofL l0 id with
          | none => rfl
          | some o => exact absurd (List.mem_map_of_mem (f := (·.1)) (ofL_some hz)) hl0
        split
        · rename_i hc
          rcases hc with hc | hc
          · rw [hn0] at hc; cases hc
          · rw [hn1, hfm id hc.1 hc.2]
        · rfl
  | @any mR m hb hn qs m0 K0 ha h0 hv hk =>
    refine ⟨hv.1, (v_apply hs hf hR hr ha h0 hv).mono (fun _ _ h => h) ?_⟩
    rintro e' w' ⟨v, r, m1, β', ok', rfl, hk0, h1, h2, h3⟩
    exact ⟨v, _, _, β', ok', rfl, hk r m1 hk0, h1, h2, h3⟩

end
end Go.Vx
/- The engine, part 14a: a step of a range over a map. -/
set_option linter.unusedVariables false
set_option linter.unusedSimpArgs false
namespace Go.Vx
open Go Go.RowKit

/-- A step of a range over a map: whatever entry comes, or the end. -/
def nextP (p : PV) (m : Mem) (K : PV → Mem → Prop) : Prop :=
  match p with
  | .ptr it 0 0 0 => match m it with
    | some (.iter none _ _ _) => K (.tup [.bool false]) m
    | some (.iter (some id) n seen last) => match m id with
      | some (.map es) => last ≤ es.length ∧ (∀ i r, i ∉ seen → es[i]? = some r → K (.tup [.bool true, r.1, r.2]) (upd m it (some (.iter (some id) n (seen ++ [i]) es.length)))) ∧
          ((∀ i, i < n → i < es.length → i ∈ seen) → K (.tup [.bool false]) m)
      | _ => False
    | _ => False
  | _ => False

section
variable {P : Program} {F : Fr} {β : Ids} {ok : Nat → Prop} {e : Nat → Option PV} {m : Mem} {a : Act} {w : World} {b : Nat} {o : Oper}

theorem Sat0.drew (hs : Sat0 F β ok e m a w) : Sat0 F β ok e m a { w with drawn := w.drawn + 1 } :=
  hs.step (fun _ => False) (fun _ _ _ => rfl) (fun _ _ h => h.elim) rfl rfl rfl (Nat.le_refl _) (Nat.le_succ _) (fun _ _ h => h)
    ⟨fun id o h => by
      obtain ⟨l, hl, hr⟩ := hs.mem.objs id o h
      exact ⟨l, hl, hr.mono (fun _ _ => rfl) (fun _ h => h) (fun _ _ h => h) fun _ _ _ => ⟨rfl, fun h => h⟩⟩, hs.mem.disj⟩ (fun _ h => .inl h)

theorem run_mapNext {n : Nat} (h : 0 < n) : ∃ (j : Nat) (w1 : World), j < n ∧ (w1 = w ∨ w1 = { w with drawn := w.drawn + 1 }) ∧ (choose (Question.mapNext n)).run P w = .ok j w1 := by
  by_cases hf : n ≤ 1
  · exact ⟨0, w, by omega, .inl rfl, by simp [choose, Sem.run, Question.forced, hf]⟩
  · exact ⟨_, _, Nat.mod_lt _ h, .inr rfl, by
      simp only [choose, Sem.run, Question.forced, decide_eq_true_eq, hf, if_false, Question.cut]
      rfl⟩

/-- What a step comes to. -/
theorem next_sound (hs : Sat0 F β ok e m a w) {X : Operand} {x : XA} {p : PV} (ho : o.op = .next X false) (hx : cA X = some x) (hp : x.ev e = some p) {K : PV → Mem → Prop} (h : nextP p m K) :
    ∃ v q m' w', (execOp a.eval o).run P w = .ok (.value v) w' ∧ K q m' ∧ Rep w' ok β q v ∧ Sat0 F β ok e m' a w' := by
  have h1 := ev_rep hs hx hp
  generalize hv : a.eval X = vx at h1
  have over : ∀ w1, (w1 = w ∨ w1 = { w with drawn := w.drawn + 1 }) → Rep w1 ok β (.tup [.bool false]) (.tuple #[.bool false]) ∧ Sat0 F β ok e m a w1 := by
    intro w1 hw1
    refine ⟨.tup _ [_] rfl fun j c v hc hv' => ?_, ?_⟩
    · match j with
      | 0 => simp at hc hv'; subst hc; subst hv'; exact .bool _
      | j + 1 => simp at hc
    · rcases hw1 with rfl | rfl
      · exact hs
      · exact hs.drew
  unfold nextP at h
  split at h
  case h_2 => exact h.elim
  rename_i it
  split at h
  case h_3 => exact h.elim
  case h_1 =>
    rename_i n seen last hit
    cases h1 with
    | ptr _ _ _ _ bl cap hb =>
      obtain ⟨⟨mo, k1, k2, k3⟩, _⟩ := hs.mem.orep hit hb
      simp only at k2; subst k2
      obtain ⟨o1, o2⟩ := over w (.inl rfl)
      refine ⟨_, _, m, w, ?_, h, o1, o2⟩
      simp only [execOp, ho, hv]
      refine exec_value ?_
      simp [Instr.next, run_getObj k1 rfl]
  case h_2 =>
    rename_i id n seen last hit
    split at h
    case h_2 => exact h.elim
    rename_i es hid
    obtain ⟨hlast, hstep, hend⟩ := h
    cases h1 with
    | ptr _ _ _ _ bl cap hb =>
      have hor := hs.mem.orep hit hb
      obtain ⟨⟨mo, k1, k2, k3⟩, k4⟩ := hor
      obtain ⟨mb, cap2, rfl, hmb⟩ := k2
      obtain ⟨ents, g1, g2⟩ := ents_of (hs.mem.orep hid hmb)
      have hl : ents.size = es.length := by simpa using g2.1
      have hborn : ∀ (j : Nat) (hj : j < ents.size), (ents[j]'hj).born = j := fun j hj => (g2.2 j es[j] ents[j] (by simp) (by simp [hj])).2.2
      have hmem : ∀ x, x ∈ ents → ∃ (hj : x.born < ents.size), ents[x.born]'hj = x := fun x hx => by
        obtain ⟨j, hj, rfl⟩ := Array.mem_iff_getElem.1 hx
        have := hborn j hj
        exact ⟨by omega, by simp [this]⟩
      have hgone : (!seen.toArray.isEmpty && !ents.isEmpty && ents.all fun x => decide (x.born ≥ last)) = false := by
        rcases seen with _ | ⟨s0, sr⟩
        · simp
        · have hl0 := k3 (by simp)
          by_cases he : ents.size = 0
          · have : ents = #[] := Array.eq_empty_of_size_eq_zero he
            simp [this]
          · have : ents.all (fun x => decide (x.born ≥ last)) = false := by
              rw [Bool.eq_false_iff]
              intro hall
              rw [Array.all_eq_true] at hall
              have := hall 0 (by omega)
              rw [hborn 0 (by omega)] at this
              simp at this; omega
            simp [this]
      obtain ⟨left, hleft⟩ : ∃ left, left = ents.filter fun x => !seen.toArray.contains x.born := ⟨_, rfl⟩
      obtain ⟨C, hC⟩ : ∃ C : Array (Option MapEntry), C = (if (left.filter (fun x => decide (x.born < n))).isEmpty then #[none] else #[]) ++ ((left.filter (fun x => decide (x.born < n))) ++ (left.filter (fun x => decide (x.born ≥ n)))).map some := ⟨_, rfl⟩
      have hCpos : 0 < C.size := by
        rw [hC]
        by_cases he : (left.filter (fun x => decide (x.born < n))).isEmpty = true
        · simp [he]; omega
        · simp only [he, if_false, Array.size_append, Array.size_map]
          have : 0 < (left.filter (fun x => decide (x.born < n))).size := by
            rcases Nat.eq_zero_or_pos (left.filter (fun x => decide (x.born < n))).size with h | h
            · exact absurd (by simpa [Array.isEmpty] using h) he
            · exact h
          omega
      obtain ⟨j, w1, hj, hw1, hch⟩ := run_mapNext (P := P) (w := w) hCpos
      have k1' : w1.heap[bl]? = w.heap[bl]? := by rcases hw1 with rfl | rfl <;> rfl
      have hCj : C[j]? = some (C[j]'hj) := by simp [hj]
      have hin : C[j]'hj ∈ C := Array.getElem_mem hj
      obtain ⟨o1, o2⟩ := over w1 hw1
      cases hc : C[j]'hj with
      | none =>
        refine ⟨_, _, m, w1, ?_, hend fun i hi hil => ?_, o1, o2⟩
        · simp only [execOp, ho, hv]
          refine exec_val2 ?_
          simp only [Instr.next, Sem.run_bind, run_getObj k1 rfl, run_getObj g1 rfl, Result.andThen_ok, hgone, Bool.false_eq_true, if_false, Sem.run_pure, ← hleft, ← hC, hch, hCj, hc]
        · rw [hc, hC] at hin
          have he : (left.filter (fun x => decide (x.born < n))).isEmpty = true := by
            by_cases he : (left.filter (fun x => decide (x.born < n))).isEmpty = true
            · exact he
            · simp [he] at hin
          have he2 : left.filter (fun x => decide (x.born < n)) = #[] := by simpa using he
          rw [Array.filter_eq_empty_iff] at he2
          rcases Classical.em (i ∈ seen) with h | h
          · exact h
          · exfalso
            have hi' : i < ents.size := by omega
            have := he2 (ents[i]'hi') (by rw [hleft, Array.mem_filter]; exact ⟨Array.getElem_mem hi', by simp [hborn i hi', h]⟩)
            rw [hborn i hi'] at this
            simp at this; omega
      | some x =>
        have hx : x ∈ left := by
          rw [hc, hC, Array.mem_append] at hin
          rcases hin with h | h
          · split at h <;> simp at h
          · simp at h; rcases h with h | h <;> exact h.1
        rw [hleft, Array.mem_filter] at hx
        obtain ⟨hxe, hxs⟩ := hx
        obtain ⟨hxb, hxq⟩ := hmem x hxe
        have hns : x.born ∉ seen := by simpa using hxs
        have hb' : x.born < es.length := by omega
        obtain ⟨j1, j2, j3⟩ := g2.2 x.born (es[x.born]'hb') x (by simp [hb']) (by simp [hxb, hxq])
        have key := hstep x.born (es[x.born]'hb') hns (by simp [hb'])
        have hbl : bl < w1.heap.size := (Array.getElem?_eq_some_iff.1 (k1'.trans k1)).1
        obtain ⟨O, hO⟩ : ∃ O, O = Go.Obj.mapIter (some mb) n (seen.toArray.push x.born) es.length := ⟨_, rfl⟩
        have hs2 : Sat0 F β ok e (upd m it (some (.iter (some id) n (seen ++ [x.born]) es.length))) a (setB w1 bl O) := by
          refine o2.change hit rfl rfl hb rfl rfl rfl setB_size (Nat.le_refl _) (fun k hk => setB_other k hk) fun hr1 hr2 => ?_
          refine ⟨⟨some mb, by rw [setB_same hbl, hO]; simp, ⟨mb, cap2, rfl, hmb⟩, fun _ => by omega⟩, k4⟩
        refine ⟨.tuple #[.bool true, x.key, x.val], _, _, setB w1 bl O, ?_, key, ?_, hs2⟩
        · simp only [execOp, ho, hv]
          refine exec_val2 ?_
          simp only [Instr.next, Sem.run_bind, run_getObj k1 rfl, run_getObj g1 rfl, Result.andThen_ok, hgone, Bool.false_eq_true, if_false, Sem.run_pure, ← hleft, ← hC, hch, hCj, hc, run_setObj _ (k1'.trans k1) rfl, hO]
        · have hown : Owns β m bl := ⟨it, _, cap, hit, rfl, hb⟩
          have hokw : ∀ k, ok k → (setB w1 bl O).heap[k]? = w.heap[k]? := fun k hk => by
            have hne : k ≠ bl := fun h => hs.mem.not_ok hown (by rw [← h]; exact hk)
            rw [setB_other k hne]
            rcases hw1 with rfl | rfl <;> rfl
          refine .tup _ [_, _, _] rfl fun j c v hc hv' => ?_
          match j with
          | 0 => simp at hc hv'; subst hc; subst hv'; exact .bool _
          | 1 => simp at hc hv'; subst hc; subst hv'; exact (j1.any).mono hokw (fun _ h => h) _ (fun _ _ h => h)
          | 2 => simp at hc hv'; subst hc; subst hv'; exact j2.mono hokw (fun _ h => h) _ (fun _ _ h => h)
          | j + 3 => simp at hc

end
end Go.Vx
/- The engine, part 15: regions and code. -/
set_option linter.unusedVariables false
set_option linter.unusedSimpArgs false
namespace Go.Vx
open Go Go.RowKit

def obind {α : Type} (o : Option α) (k : α → Prop) : Prop :=
  match o with
  | some x => k x
  | none => False

/-- May a row be appended to, by the region's own order? nd: the region's first number, where its order is open. -/
def wloc : Option Nat → Option PV → Prop
  | none, _ => True
  | some base, some (.osl id _) => base ≤ id
  | some _, some .nsl => True
  | some _, _ => False

def vop (P : Program) (b : Nat) (bar : Bool) (nd : Option Nat) (x : XI) (e : Env) (mR m : Mem) (K : PV → Mem → Prop) : Prop :=
  match x with
  | .call f args => obind (args.mapM fun x => x.ev e) fun ps => VCall P b (.f f) ps mR m bar nd.isNone K
  | .callv f args => obind (f.ev e) fun
    | .fn g caps => obind (args.mapM fun x => x.ev e) fun ps => VCall P b (.f g) (ps ++ caps) mR m bar nd.isNone K
    | .yld L => obind (args.mapM fun x => x.ev e) fun ps => VCall P b (.y L) ps mR m bar nd.isNone K
    | _ => False
  | .appendL T k bytes s y => wloc nd (s.ev e) ∧ obind (vopF (.append T k bytes s y) e mR b) fun r => K r.1 (m.upds r.2)
  | .next x => nd = none ∧ obind (x.ev e) fun p => nextP p m K
  | x => obind (vopF x e mR b) fun r => K r.1 (m.upds r.2)

def vguard (g : Option (Nat × Bool)) (e : Env) (A B : Prop) : Prop :=
  match g with
  | none => A
  | some (t, want) => obind (e t) fun
    | .bool c => (c = want → A) ∧ (c ≠ want → B)
    | .tup [] => B
    | _ => False

def vops (P : Program) (base : Nat) : Nat → List XOp → Env → Mem → (Env → Mem → Prop) → Prop
  | _, [], e, m, K => K e m
  | i, o :: l, e, m, K =>
    vguard o.guard e (vop P (base + 8 * i) true none o.xi e m m fun p m' => vops P base (i + 1) l (putE e o.dst p) m' K) (vops P base (i + 1) l (putE e o.dst (.tup [])) m K)

/-- What an operation of a region without an order may see: what was there, and what those ahead of it by order made. -/
def restr (base : Nat) (anc : Nat) (m : Mem) : Mem := fun id => if id < base ∨ InA ((id - base) / 8) anc then m id else none

/-- What soft calls that are no ancestors changed is not to be seen. -/
def Seen (anc : Nat) (H : List (Nat × Mem × Mem)) (id : Nat) : Prop := ∀ h ∈ H, InA h.1 anc ∨ h.2.1 id = h.2.2 id
open Classical in
noncomputable def restrH (base : Nat) (anc : Nat) (H : List (Nat × Mem × Mem)) (m : Mem) : Mem := fun id => if Seen anc H id then restr base anc m id else none
/-- The soft calls so far. -/
def addH (so : Bool) (i : Nat) (m m' : Mem) (H : List (Nat × Mem × Mem)) : List (Nat × Mem × Mem) := if so then (i, m, m') :: H else H

def vopsD (P : Program) (base : Nat) : Nat → List (Nat × Mem × Mem) → List XOp → Env → Mem → (Env → Mem → Prop) → Prop
  | _, _, [], e, m, K => K e m
  | i, H, o :: l, e, m, K =>
    vguard o.guard e (vop P (base + 8 * i) (o.bar || o.soft) (some base) o.xi e (restrH base o.anc H m) m fun p m' => vopsD P base (i + 1) (addH o.soft i m m' H) l (putE e o.dst p) m' K) (vopsD P base (i + 1) (addH o.soft i m m H) l (putE e o.dst (.tup [])) m K)

abbrev Post := XEx → Env → Mem → Nat → Prop
def Post.then (next : Env → Mem → Nat → Prop) (Q : Post) : Post
  | .normal => next
  | x => Q x
def Post.block (i : Nat) (Q : Post) : Post
  | .exit j => if j = i then Q .normal else Q (.exit j)
  | x => Q x

inductive Turned (P : Program) (o : Oper) : XI → Prop
  | still (x : XI) (h : comp P o = some x) (hs : x.still = true) : Turned P o x
  | call (c : Call) (f : Nat) (xs : List XA) (ho : o.op = .call c) (hc : c.callee = .value (.func f)) (ha : c.args.toList.mapM cA = some xs) : Turned P o (.call f xs)
  | never : Turned P o .never
  | appL (T k bytes : Nat) (s y : XA) (h : comp P o = some (.append T k bytes s y)) : Turned P o (.appendL T k bytes s y)
  | next (X : Operand) (x : XA) (ho : o.op = .next X false) (hx : cA X = some x) : Turned P o (.next x)
  | callv (c : Call) (t : Nat) (xs : List XA) (ho : o.op = .call c) (hc : c.callee = .value (.tmp t)) (ha : c.args.toList.mapM cA = some xs) : Turned P o (.callv (.t t) xs)

theorem turned' {P : Program} {o : Oper} {x : XI} (h : compX P o = some x) : Turned P o x := by
  have still : (comp P o).bind (fun x => if x.still then some x else none) = some x → Turned P o x := fun h => by
    simp only [Option.bind_eq_some_iff] at h
    obtain ⟨y, hy, h⟩ := h
    split at h
    case isFalse => cases h
    rename_i hs
    injection h with h; subst h
    exact .still y hy hs
  unfold compX at h
  split at h
  · rename_i c ho
    split at h
    · rename_i hc
      simp only [Option.map_eq_some_iff] at h
      obtain ⟨xs, hxs, rfl⟩ := h
      exact .call c _ xs ho hc hxs
    · rename_i hc
      simp only [Option.map_eq_some_iff] at h
      obtain ⟨xs, hxs, rfl⟩ := h
      exact .callv c _ xs ho hc hxs
    · exact still h
  · rename_i X s ho
    split at h
    case isTrue => cases h
    rename_i hs
    simp only [Option.map_eq_some_iff] at h
    obtain ⟨y, hy, rfl⟩ := h
    exact .next X y (by rw [ho]; simpa using hs) hy
  · exact still h

theorem turned {P : Program} {o : Oper} : Turned P o ((compX P o).getD .never) := by
  cases h : compX P o with
  | none => exact .never
  | some x => exact turned' h

theorem turned_own {P : Program} {o : Oper} {x : XI} (h : Turned P o x) : Turned P o x.own := by
  cases h with
  | still x h hs => cases x <;> first | exact .appL _ _ _ _ _ h | exact .still _ h hs
  | never => exact .never
  | appL T k bytes s y h => exact .appL T k bytes s y h
  | next X x ho hx => exact .next X x ho hx
  | call c f xs ho hc ha => exact .call c f xs ho hc ha
  | callv c t xs ho hc ha => exact .callv c t xs ho hc ha

section
variable {P : Program} {F : Fr} {β : Ids} {ok : Nat → Prop} {e : Env} {m : Mem} {a : Act} {w : World} {b : Nat} {o : Oper}

theorem obind_some {α : Type} {o : Option α} {k : α → Prop} (h : obind o k) : ∃ x, o = some x ∧ k x := by
  cases o with
  | none => exact h.elim
  | some x => exact ⟨x, rfl, h⟩

theorem Sat0.put (hs : Sat0 F β ok e m a w) {dst : Option Nat} {p : PV} {v : Value} (hd : dstOk F.n dst = true) (hr : Rep w ok β p v) : Sat0 F β ok (putE e dst p) m (a.put dst v) w := by
  cases dst with
  | none => exact hs
  | some d =>
    have hd' : d < a.tmps.size := by rw [hs.size]; simpa [dstOk] using hd
    refine ⟨by simpa [Act.put] using hs.size, by simpa [Act.put] using hs.defers, fun t q ht => ?_, hs.mem, hs.okb, hs.keeps, hs.own, hs.ok0, hs.oks⟩
    by_cases he : t = d
    · subst he
      simp [putE, upd] at ht
      subst ht
      exact ⟨v, by simp [Act.put, hd'], hr⟩
    · simp [putE, upd, he] at ht
      obtain ⟨u, hu, hru⟩ := hs.env t q ht
      exact ⟨u, by simp [Act.put, Array.getElem?_setIfInBounds_ne (Ne.symm he), hu], hru⟩

/-- What one operation leaves. -/
def After (F : Fr) (β : Ids) (e : Env) (b : Nat) (o : Oper) (a : Act) (K : PV → Mem → Prop) (a' : Act) (w' : World) : Prop :=
  ∃ v p m' β' ok', a' = a.put o.dst v ∧ K p m' ∧ Rep w' ok' β' p v ∧ Sat0 F β' ok' e m' a w' ∧ ∀ id, (id < b ∨ b + 8 ≤ id) → β' id = β id

/-- The fence of a frame: a function's, or a round's. -/
abbrev wf (ro : Option Nat) : Fence := { fn := fun _ => True, depth := none, alive := false, round := ro }

theorem not_defer {x : XI} (hx : Turned P o x) (hn : x ≠ .never) : ∀ c, o.op ≠ .defer c := by
  intro c hc
  cases hx with
  | never => exact hn rfl
  | appL _ _ _ _ _ h => simp [comp, hc] at h
  | still _ h => simp [comp, hc] at h
  | call c f xs ho => rw [hc] at ho; cases ho
  | next X x ho => rw [hc] at ho; cases ho
  | callv c t xs ho => rw [hc] at ho; cases ho

/-- One operation: carried out, or by contract. -/
theorem vop_sound (hs : Sat0 F β ok e m a w) (hf : ∀ id, b ≤ id → id < b + 8 → β id = none) {ro : Option Nat} {mR : Mem} {bar : Bool} {nd : Option Nat} (hR : ∀ id o, mR id = some o → m id = some o) {x : XI} (hx : Turned P o x)
    (hF : ∀ y p d, vopF y e mR b = some (p, d) → vopF y e m b = some (p, d)) {K : PV → Mem → Prop} {Q : Exit → Act → World → Prop} (h : vop P b bar nd x e mR m K) :
    o.wpIn (wf ro) 0 P a w (After F β e b o a K) Q := by
  have hnv : x ≠ .never := fun hn => by subst hn; exact h
  have hsem : o.semAt (wf ro).round a.eval = execOp a.eval o := Oper.semAt_eq _ _ _ (not_defer hx hnv)
  refine ⟨fun _ _ => trivial, ?_⟩
  rw [hsem]
  have enter : ∀ (f : Nat) (vs : List Value) (ps : List PV), Reps w ok β ps vs → VCall P b (.f f) ps mR m bar nd.isNone K → (Enters P f → (execOp a.eval o).run P w = .ok (.enter f vs.toArray) w) → o.uponIn (wf ro) 0 P a (After F β e b o a K) Q ((execOp a.eval o).run P w) := by
    intro f vs ps hr hc hrun
    obtain ⟨hent, hcalls⟩ := call_sound hs hf hR hr hc
    rw [hrun hent]
    simp only [Oper.uponIn_enter]
    refine ⟨fun h => (by cases h), ?_⟩
    have h2 : CallsIn Fence.wide 0 P f vs.toArray w _ := callsIn_wide.2 hcalls
    refine CallsIn.mono (F := wf ro) (R := _) h2 ?_
    rintro e' w' ⟨v, p, m', β', ok', rfl, hk, hrep, hsat, hfar⟩
    exact ⟨v, p, m', β', ok', rfl, hk, hrep, hsat, hfar⟩
  cases hx with
  | never => exact absurd rfl hnv
  | appL T k bytes s y hx =>
    obtain ⟨⟨p, d⟩, hr, hk⟩ := obind_some h.2
    obtain ⟨v, w', β', hrun, hrep, hsat, hb'⟩ := op_sound hs (hf b (Nat.le_refl _) (by omega)) hx (hF _ p d hr)
    have hfar : ∀ id, (id < b ∨ b + 8 ≤ id) → β' id = β id := fun id h => hb' id (by omega)
    rcases hrun with hrun | ⟨hrun, rfl⟩
    · rw [hrun]; exact ⟨v, p, _, β', ok, rfl, hk, hrep, hsat, hfar⟩
    · rw [hrun]; exact ⟨undef, p, _, β', ok, rfl, hk, hrep, hsat, hfar⟩
  | still _ hx hst =>
    have hx' : obind (vopF x e mR b) fun r => K r.1 (m.upds r.2) := by cases x <;> first | exact h | simp [XI.still] at hst
    obtain ⟨⟨p, d⟩, hr, hk⟩ := obind_some hx'
    obtain ⟨v, w', β', hrun, hrep, hsat, hb'⟩ := op_sound hs (hf b (Nat.le_refl _) (by omega)) hx (hF _ p d hr)
    have hfar : ∀ id, (id < b ∨ b + 8 ≤ id) → β' id = β id := fun id h => hb' id (by omega)
    rcases hrun with hrun | ⟨hrun, rfl⟩
    · rw [hrun]; exact ⟨v, p, _, β', ok, rfl, hk, hrep, hsat, hfar⟩
    · rw [hrun]; exact ⟨undef, p, _, β', ok, rfl, hk, hrep, hsat, hfar⟩
  | next X x ho hx =>
    obtain ⟨_, h⟩ := h
    obtain ⟨p, hp, h⟩ := obind_some h
    obtain ⟨v, q, m', w', hrun, hk, hrep, hsat⟩ := next_sound (P := P) hs ho hx hp h
    rw [hrun]
    exact ⟨v, q, m', β, ok, rfl, hk, hrep, hsat, fun _ _ => rfl⟩
  | call c f xs ho hcal hargs =>
    obtain ⟨ps, hps, hc⟩ := obind_some h
    refine enter f _ ps (evs_rep hs hargs hps) hc fun hent => ?_
    have : (c.args.map a.eval) = (c.args.toList.map a.eval).toArray := by apply Array.ext'; simp
    simp only [execOp, ho, resolve, hcal, Act.eval, Deferred.ofValue, Sem.run_bind, Sem.run_pure, Result.andThen_ok, invoke, this, Array.append_empty, Array.empty_append]
    exact hent _ _
  | callv c t xs ho hcal hargs =>
    obtain ⟨pf, hpf, h⟩ := obind_some h
    have h1 : (c.args.map a.eval) = (c.args.toList.map a.eval).toArray := by apply Array.ext'; simp
    cases pf <;> try exact h.elim
    · rename_i g caps
      obtain ⟨ps, hps, hc⟩ := obind_some h
      obtain ⟨vf, hvf, hrf⟩ := hs.env t _ hpf
      obtain ⟨q1, q2⟩ := evs_rep hs hargs hps
      cases hrf with
      | fn _ _ us hul hur =>
        refine enter g ((c.args.toList.map a.eval) ++ us) (ps ++ caps) ⟨by simp at q1 ⊢; omega, fun j p v hp hv => ?_⟩ hc fun hent => ?_
        · by_cases hj : j < ps.length
          · rw [List.getElem?_append_left hj] at hp
            rw [List.getElem?_append_left (by omega)] at hv
            exact q2 j p v hp hv
          · rw [List.getElem?_append_right (by omega)] at hp
            rw [List.getElem?_append_right (by omega), q1] at hv
            exact hur _ p v hp hv
        · have h2 : (c.args.toList.map a.eval).toArray ++ us.toArray = ((c.args.toList.map a.eval) ++ us).toArray := by simp
          have h3 : a.eval (.tmp t) = .func (.func g) #[] us.toArray := by simp [Act.eval, hvf]
          simp only [execOp, ho, resolve, hcal, h3, Deferred.ofValue, Sem.run_bind, Sem.run_pure, Result.andThen_ok, invoke, h1, Array.empty_append, h2]
          exact hent _ _
    · rename_i L
      obtain ⟨ps, hps, hc⟩ := obind_some h
      obtain ⟨vf, hvf, hrf⟩ := hs.env t _ hpf
      have hreps : Reps w ok β ps (c.args.toList.map a.eval) := evs_rep hs hargs hps
      cases hrf with
      | yld _ bl cap hb =>
        obtain ⟨_, l, cap', hl, fn, tm, ca, cb, hy, hround⟩ := call_sound hs hf hR hreps hc
        rw [hb] at hl
        injection hl with hl; injection hl with hl _; subst hl
        have h3 : a.eval (.tmp t) = .func (.yield bl) #[] #[] := by simp [Act.eval, hvf]
        have hrun : (execOp a.eval o).run P w = .ok (.round bl fn tm ca cb) w := by
          simp only [execOp, ho, resolve, hcal, h3, Deferred.ofValue, Sem.run_bind, Sem.run_pure, Result.andThen_ok, invoke, h1, Array.empty_append, Array.append_empty]
          exact hy
        rw [hrun]
        simp only [Oper.uponIn_round]
        refine ⟨fun h => (by cases h), ?_⟩
        have h2 : RoundIn (wf ro) 0 P bl fn tm ca cb w _ := hround
        refine h2.mono ?_
        rintro e' w' ⟨v, p, m', β', ok', rfl, hk, hrep, hsat, hfar⟩
        exact ⟨v, p, m', β', ok', rfl, hk, hrep, hsat, hfar⟩

theorem wanted_none {ops : Array Oper} {t : Array Value} (h : o.guard = none) : Region.wanted o (yielded ops t) = true := by simp [Region.wanted, h]

/-- The guard: what is wanted. -/
theorem guard_sound (hs : Sat0 F β ok e m a w) {ops : Array Oper} {g : Option (Nat × Bool)} (hg : guardOf ops o.guard = some g) {A B : Prop} (h : vguard g e A B) :
    (Region.wanted o (yielded ops a.tmps) = true ∧ A) ∨ (Region.wanted o (yielded ops a.tmps) = false ∧ B) := by
  cases hgd : o.guard with
  | none =>
    rw [hgd] at hg
    simp [guardOf] at hg; subst hg
    exact .inl ⟨wanted_none hgd, h⟩
  | some jw =>
    obtain ⟨j, want⟩ := jw
    rw [hgd] at hg
    simp only [guardOf, Option.map_eq_some_iff] at hg
    obtain ⟨t, ht, rfl⟩ := hg
    obtain ⟨p, hp, h⟩ := obind_some h
    obtain ⟨v, hv, hr⟩ := hs.env t p hp
    have hy : yielded ops a.tmps j = match v with | .bool b => some b | _ => none := by
      simp only [yielded, ht, Option.bind_some, hv]
      cases v <;> rfl
    have hw : Region.wanted o (yielded ops a.tmps) = (yielded ops a.tmps j == some want) := by simp [Region.wanted, hgd]
    cases p <;> try exact h.elim
    · rename_i c
      cases hr
      rw [hw, hy]
      by_cases hc : c = want
      · subst hc; exact .inl ⟨by simp, h.1 rfl⟩
      · exact .inr ⟨by simp [hc], h.2 hc⟩
    · rename_i vs
      cases vs with
      | nil =>
        cases hr
        rw [hw, hy]
        exact .inr ⟨by simp, h⟩
      | cons => exact h.elim

theorem fresh_le {n n' : Nat} (h : ∀ id, n ≤ id → β id = none) (hn : n ≤ n') : ∀ id, n' ≤ id → β id = none := fun id hi => h id (Nat.le_trans hn hi)

theorem reg_sound {ro : Option Nat} {ops : Array Oper} {xs : List XOp} (hx : ops.toList.mapM (compOp P F.n ops) = some xs) {base : Nat} {K : Env → Mem → Prop} {Q : Exit → Act → World → Prop}
    (hb0 : F.b0 ≤ base)
    (hK : ∀ e m β ok a w, Sat0 F β ok e m a w → (∀ id, base + 8 * xs.length ≤ id → β id = none) → (∀ id, id < F.b0 → β id = F.β0 id) → K e m → Q .normal a w) :
    ∀ (k i : Nat) (e : Env) (m : Mem) (β : Ids) (ok : Nat → Prop) (a : Act) (w : World), i + k = ops.size → Sat0 F β ok e m a w → (∀ id, base + 8 * i ≤ id → β id = none) → (∀ id, id < F.b0 → β id = F.β0 id) → vops P base i (xs.drop i) e m K →
      wpOpsIn (wf ro) 0 P ops Q (List.range' i k) a w := by
  obtain ⟨hlen, hel⟩ := mapM_some hx
  have hlen' : xs.length = ops.size := by simpa using hlen
  intro k
  induction k with
  | zero =>
    intro i e m β ok a w hi hs hfr hst h
    have : xs.drop i = [] := List.drop_eq_nil_of_le (by omega)
    rw [this] at h
    exact hK e m β ok a w hs (fun id hid => hfr id (by rw [hlen'] at hid; omega)) hst h
  | succ k ih =>
    intro i e m β ok a w hi hs hfr hst h
    have hio : i < ops.size := by omega
    have hix : i < xs.length := by omega
    have hc := hel i ops[i] xs[i] (by simp [hio]) (by simp [hix])
    rw [List.drop_eq_getElem_cons hix] at h
    generalize hxe : xs[i] = X at h hc
    simp only [compOp, Option.bind_eq_some_iff] at hc
    obtain ⟨g, hg, hc⟩ := hc
    split at hc
    case isFalse => cases hc
    rename_i hd
    injection hc with hc; subst hc
    simp only [vops] at h
    rw [List.range'_succ]
    simp only [wpOpsIn, Array.getElem?_eq_getElem hio]
    rcases guard_sound hs hg h with ⟨hw, hA⟩ | ⟨hw, hB⟩
    · rw [if_pos hw]
      have := vop_sound (ro := ro) hs (fun id h1 _ => hfr id h1) (fun _ _ h => h) turned (fun _ _ _ h => h) hA (Q := Q)
      refine Oper.wpIn_mono ?_ this
      rintro a' w' ⟨v, p, m', β', ok', rfl, hk, hrep, hsat, hfar⟩
      exact ih (i + 1) _ m' β' ok' _ w' (by omega) (hsat.put hd hrep) (fun id hid => by rw [hfar id (by omega)]; exact hfr id (by omega)) (fun id hid => by rw [hfar id (by omega)]; exact hst id hid) hk
    · rw [if_neg (by simp [hw])]
      refine ⟨fun _ _ => trivial, ?_⟩
      exact ih (i + 1) _ m β ok _ w (by omega) (hs.put hd (.tup [] [] rfl (by simp))) (fun id hid => hfr id (by omega)) hst hB

end
end Go.Vx
/- The engine, part 16: regions whose order is open: what an operation hangs on. -/
set_option linter.unusedVariables false
set_option linter.unusedSimpArgs false
namespace Go.Vx
open Go Go.RowKit

section
variable {e e' : Env} {m M : Mem} {b : Nat}

theorem ev_congr {x : XA} (h : ∀ t ∈ x.slots, e' t = e t) : x.ev e' = x.ev e := by
  cases x with
  | t n => exact h n (by simp [XA.slots])
  | c p => rfl
theorem evs_congr {l : List XA} (h : ∀ t ∈ slotsL l, e' t = e t) : (l.mapM fun x => x.ev e') = l.mapM fun x => x.ev e := by
  induction l with
  | nil => rfl
  | cons x l ih =>
    simp only [List.mapM_cons]
    rw [ev_congr (fun t ht => h t (by simp [slotsL, ht])), ih (fun t ht => h t (by simp only [slotsL, List.flatMap_cons]; exact List.mem_append_right _ ht))]
theorem idxo_congr {n : Nat} {x : Option XA} (h : ∀ t ∈ slotsO x, e' t = e t) : idxo n e' x = idxo n e x := by
  cases x with
  | none => rfl
  | some x => simp only [idxo]; rw [ev_congr h]
theorem fillP_congr {ps : List (Nat × Nat × XA)} (h : ∀ t ∈ slotsL (ps.map (·.2.2)), e' t = e t) : ∀ z, fillP e' z ps = fillP e z ps := by
  induction ps with
  | nil => intro z; rfl
  | cons p ps ih =>
    intro z
    obtain ⟨off, n, x⟩ := p
    simp only [fillP]
    rw [ev_congr (fun t ht => h t (by simp [slotsL, ht]))]
    congr 1
    funext q
    rw [ih (fun t ht => h t (by simp only [slotsL, List.map_cons, List.flatMap_cons]; exact List.mem_append_right _ ht))]
theorem fillR_congr {k : Nat} {ps : List (Nat × XA)} (h : ∀ t ∈ slotsL (ps.map (·.2)), e' t = e t) : ∀ xs, fillR e' m k xs ps = fillR e m k xs ps := by
  induction ps with
  | nil => intro z; rfl
  | cons p ps ih =>
    intro z
    obtain ⟨i, x⟩ := p
    simp only [fillR]
    rw [ev_congr (fun t ht => h t (by simp [slotsL, ht]))]
    congr 1
    funext q
    congr 1
    funext q'
    rw [ih (fun t ht => h t (by simp only [slotsL, List.map_cons, List.flatMap_cons]; exact List.mem_append_right _ ht))]

theorem vopF_congr {x : XI} (h : ∀ t ∈ x.slots, e' t = e t) : vopF x e' m b = vopF x e m b := by
  have two : ∀ {x y : XA}, (∀ t ∈ x.slots ++ y.slots, e' t = e t) → x.ev e' = x.ev e ∧ y.ev e' = y.ev e := fun h =>
    ⟨ev_congr fun t ht => h t (List.mem_append_left _ ht), ev_congr fun t ht => h t (List.mem_append_right _ ht)⟩
  cases x <;> simp only [XI.slots] at h
  case nilrow => rfl
  case alloc => rfl
  case pick c x y =>
    have h1 : c.ev e' = c.ev e := ev_congr fun t ht => h t (by simp [ht])
    have h2 : x.ev e' = x.ev e := ev_congr fun t ht => h t (by simp [ht])
    have h3 : y.ev e' = y.ev e := ev_congr fun t ht => h t (by simp [ht])
    simp only [vopF, h1]
    congr 1
    funext q
    cases q <;> try rfl
    rename_i t
    cases t
    · simp only [Bool.false_eq_true, if_false, h3]
    · simp only [if_true, h2]
  case build z ps => simp only [vopF, fillP_congr h]
  case mkrow T k len z ps => simp only [vopF, fillR_congr h]
  case sliceT x lo hi =>
    have h1 : x.ev e' = x.ev e := ev_congr fun t ht => h t (by simp [ht])
    have h2 : ∀ n, idxo n e' lo = idxo n e lo := fun n => idxo_congr fun t ht => h t (by simp [ht])
    have h3 : ∀ n, idxo n e' hi = idxo n e hi := fun n => idxo_congr fun t ht => h t (by simp [ht])
    simp only [vopF, h1, h2, h3]
  case sliceS k x lo hi =>
    have h1 : x.ev e' = x.ev e := ev_congr fun t ht => h t (by simp [ht])
    have h2 : ∀ n, idxo n e' lo = idxo n e lo := fun n => idxo_congr fun t ht => h t (by simp [ht])
    have h3 : ∀ n, idxo n e' hi = idxo n e hi := fun n => idxo_congr fun t ht => h t (by simp [ht])
    simp only [vopF, h1, h2, h3]
  case mapUpd g ks x k v =>
    have h1 : x.ev e' = x.ev e := ev_congr fun t ht => h t (by simp [ht])
    have h2 : k.ev e' = k.ev e := ev_congr fun t ht => h t (by simp [ht])
    have h3 : v.ev e' = v.ev e := ev_congr fun t ht => h t (by simp [ht])
    simp only [vopF, h1, h2, h3]
  case entSto x k v =>
    have h1 : x.ev e' = x.ev e := ev_congr fun t ht => h t (by simp [ht])
    have h2 : k.ev e' = k.ev e := ev_congr fun t ht => h t (by simp [ht])
    have h3 : v.ev e' = v.ev e := ev_congr fun t ht => h t (by simp [ht])
    simp only [vopF, h1, h2, h3]
  case slice3 k x lo hi mx =>
    have h1 : x.ev e' = x.ev e := ev_congr fun t ht => h t (by simp [ht])
    have h2 : ∀ n, idxo n e' lo = idxo n e lo := fun n => idxo_congr fun t ht => h t (by simp [ht])
    have h3 : ∀ n, idxo n e' hi = idxo n e hi := fun n => idxo_congr fun t ht => h t (by simp [ht])
    have h4 : mx.ev e' = mx.ev e := ev_congr fun t ht => h t (by simp [ht])
    simp only [vopF, h1, h2, h3, h4]
  case next x => rfl
  case mkmap => rfl
  case never => rfl
  case appendL => rfl
  case mkfn f cs => simp only [vopF, evs_congr h]
  case call f cs => rfl
  case callv f cs => rfl
  all_goals first
    | (simp only [vopF, ev_congr h]; done)
    | (simp only [vopF, (two h).1, (two h).2]; done)

/-- Memory that holds at least what another one does. -/
def Sub (m M : Mem) : Prop := ∀ id o, m id = some o → M id = some o

theorem pur_sub (hs : Sub m M) {st : Bool} {p q : PV} (h : pur st m p = some q) : pur st M p = some q := by
  cases p <;> try exact h
  rename_i id n
  simp only [pur] at h ⊢
  cases hid : m id with
  | none => simp [hid] at h
  | some ob => rw [hs id ob hid]; rw [hid] at h; exact h
theorem mapM_sub {f g : PV → Option PV} (hfg : ∀ p q, f p = some q → g p = some q) : ∀ {l r : List PV}, l.mapM f = some r → l.mapM g = some r
  | [], r, h => by simpa using h
  | p :: l, r, h => by
    simp only [List.mapM_cons, Option.bind_eq_bind, Option.bind_eq_some_iff] at h ⊢
    obtain ⟨q, hq, qs, hqs, h⟩ := h
    exact ⟨q, hfg p q hq, qs, mapM_sub hfg hqs, h⟩
theorem purA_sub (hs : Sub m M) {st : Bool} {p q : PV} (h : purA st m p = some q) : purA st M p = some q := by
  unfold purA at h ⊢
  cases p
  case agg cs =>
    simp only [Option.map_eq_some_iff] at h ⊢
    obtain ⟨qs, hqs, rfl⟩ := h
    exact ⟨qs, mapM_sub (fun p q h => pur_sub hs h) hqs, rfl⟩
  all_goals (dsimp only at h ⊢; exact pur_sub hs h)
theorem rd_sub (hs : Sub m M) {n : Nat} {p : PV} {cs : List PV} (h : rd m n p = some cs) : rd M n p = some cs := by
  cases p <;> try exact h
  rename_i id k i j
  simp only [rd] at h ⊢
  cases hid : m id with
  | none => simp [hid] at h
  | some ob => rw [hs id ob hid]; rw [hid] at h; exact h
theorem elems_sub (hs : Sub m M) {p : PV} {ys : List (List PV)} (h : elems m p = some ys) : elems M p = some ys := by
  cases p <;> try exact h
  rename_i id n
  simp only [elems] at h ⊢
  cases hid : m id with
  | none => simp [hid] at h
  | some ob => rw [hs id ob hid]; rw [hid] at h; exact h
theorem fillR_sub (hs : Sub m M) {k : Nat} : ∀ {ps : List (Nat × XA)} {xs r : List (List PV)}, fillR e m k xs ps = some r → fillR e M k xs ps = some r
  | [], xs, r, h => h
  | (i, x) :: ps, xs, r, h => by
    simp only [fillR, Option.bind_eq_some_iff] at h ⊢
    obtain ⟨p, hp, q, hq, h⟩ := h
    refine ⟨p, hp, q, purA_sub hs hq, ?_⟩
    split at h
    case isFalse => cases h
    rename_i hc
    rw [if_pos hc]
    exact fillR_sub hs h

theorem mes_sub (hs : Sub m M) {p : PV} {es : List (PV × PV)} (h : mes m p = some es) : mes M p = some es := by
  cases p <;> try exact h
  rename_i id
  simp only [mes] at h ⊢
  cases hid : m id with
  | none => simp [hid] at h
  | some ob => rw [hs id ob hid]; rw [hid] at h; exact h

/-- More memory, the same answer. -/
theorem vopF_sub (hs : Sub m M) {x : XI} {r : PV × Delta} (h : vopF x e m b = some r) : vopF x e M b = some r := by
  cases x <;> try exact h
  case mkrow T k len z ps =>
    simp only [vopF] at h ⊢
    split at h
    case isFalse => cases h
    rename_i hc
    rw [if_pos hc]
    simp only [Option.bind_eq_some_iff] at h ⊢
    obtain ⟨xs, hxs, h⟩ := h
    exact ⟨xs, fillR_sub hs hxs, h⟩
  case load1 x =>
    simp only [vopF, Option.bind_eq_some_iff] at h ⊢
    obtain ⟨p, hp, cs, hcs, h⟩ := h
    exact ⟨p, hp, cs, rd_sub hs hcs, h⟩
  case loadn n x =>
    simp only [vopF, Option.bind_eq_some_iff] at h ⊢
    obtain ⟨p, hp, cs, hcs, h⟩ := h
    exact ⟨p, hp, cs, rd_sub hs hcs, h⟩
  case store n x y =>
    simp only [vopF, Option.bind_eq_some_iff] at h ⊢
    obtain ⟨p, hp, q, hq, h⟩ := h
    refine ⟨p, hp, q, hq, ?_⟩
    cases p <;> try (simp only [reduceCtorEq] at h; done)
    rename_i id k i j
    dsimp only at h ⊢
    cases hid : m id with
    | none => simp [hid] at h
    | some ob =>
      rw [hid] at h
      rw [hs id ob hid]
      cases ob with
      | box cs T => exact h
      | map es => exact h
      | iter => exact h
      | loop => exact h
      | row k' xs T fz =>
        cases fz with
        | true => exact h
        | false =>
          simp only [Option.bind_eq_some_iff] at h ⊢
          obtain ⟨q', hq', h⟩ := h
          exact ⟨q', purA_sub hs hq', h⟩
  case lookup g ks z okb x k =>
    simp only [vopF, Option.bind_eq_some_iff] at h ⊢
    obtain ⟨p, hp, q, hq, es, hes, h⟩ := h
    exact ⟨p, hp, q, hq, es, mes_sub hs hes, h⟩
  case lenM x =>
    simp only [vopF, Option.bind_eq_some_iff] at h ⊢
    obtain ⟨p, hp, es, hes, h⟩ := h
    exact ⟨p, hp, es, mes_sub hs hes, h⟩
  case mapUpd g ks x k v =>
    simp only [vopF, Option.bind_eq_some_iff] at h ⊢
    obtain ⟨p, hp, q, hq, v, hv, h⟩ := h
    refine ⟨p, hp, q, hq, v, hv, ?_⟩
    cases p <;> try exact h
    rename_i id
    dsimp only at h ⊢
    cases hid : m id with
    | none => simp [hid] at h
    | some ob => rw [hs id ob hid]; rw [hid] at h; exact h
  case mapEnt g ks z x k =>
    simp only [vopF, Option.bind_eq_some_iff] at h ⊢
    obtain ⟨p, hp, q, hq, h⟩ := h
    refine ⟨p, hp, q, hq, ?_⟩
    cases p <;> try exact h
    rename_i id
    dsimp only at h ⊢
    cases hid : m id with
    | none => simp [hid] at h
    | some ob => rw [hs id ob hid]; rw [hid] at h; exact h
  case entSto x k v =>
    simp only [vopF, Option.bind_eq_some_iff] at h ⊢
    obtain ⟨p, hp, q, hq, v, hv, i, hi, h⟩ := h
    refine ⟨p, hp, q, hq, v, hv, i, hi, ?_⟩
    cases p <;> try exact h
    rename_i id
    dsimp only at h ⊢
    cases hid : m id with
    | none => simp [hid] at h
    | some ob => rw [hs id ob hid]; rw [hid] at h; exact h
  case range x =>
    simp only [vopF, Option.bind_eq_some_iff] at h ⊢
    obtain ⟨p, hp, h⟩ := h
    refine ⟨p, hp, ?_⟩
    cases p <;> try exact h
    rename_i id
    dsimp only at h ⊢
    cases hid : m id with
    | none => simp [hid] at h
    | some ob => rw [hs id ob hid]; rw [hid] at h; exact h
  case entry x =>
    simp only [vopF, Option.bind_eq_some_iff] at h ⊢
    obtain ⟨p, hp, h⟩ := h
    refine ⟨p, hp, ?_⟩
    split at h
    case h_2 => cases h
    split at h
    case h_2 => cases h
    rename_i hit
    split at h
    case h_2 => cases h
    rename_i hid
    simp only [hs _ _ hit, hs _ _ hid]
    exact h
  case slice3 k x lo hi mx =>
    simp only [vopF, Option.bind_eq_some_iff] at h ⊢
    obtain ⟨p, hp, q, hq, mx, hmx, r, hr, h⟩ := h
    exact ⟨p, hp, q, hq, mx, hmx, r, pur_sub hs hr, h⟩
  case indexS k x i =>
    simp only [vopF, Option.bind_eq_some_iff] at h ⊢
    obtain ⟨p, hp, q, hq, j, hj, h⟩ := h
    refine ⟨p, hp, q, hq, j, hj, ?_⟩
    cases p <;> try exact h
    rename_i id n
    dsimp only at h ⊢
    cases hid : m id with
    | none => simp [hid] at h
    | some ob => rw [hs id ob hid]; rw [hid] at h; exact h
  case sliceS k x lo hi =>
    simp only [vopF, Option.bind_eq_some_iff] at h ⊢
    obtain ⟨p, hp, h⟩ := h
    refine ⟨p, hp, ?_⟩
    cases p <;> try exact h
    rename_i id n
    simp only [Option.bind_eq_some_iff] at h ⊢
    obtain ⟨hh, h1, ll, h2, h⟩ := h
    refine ⟨hh, h1, ll, h2, ?_⟩
    split at h
    · rename_i hc; rw [if_pos hc]; exact h
    · rename_i hc
      rw [if_neg hc]
      simp only [Option.bind_eq_some_iff] at h ⊢
      obtain ⟨q, hq, h⟩ := h
      exact ⟨q, pur_sub hs hq, h⟩
  case append T k bytes s x =>
    simp only [vopF, Option.bind_eq_some_iff] at h ⊢
    obtain ⟨p, hp, q, hq, ys, hys, h⟩ := h
    refine ⟨p, hp, q, hq, ys, elems_sub hs hys, ?_⟩
    cases p <;> try exact h
    rename_i id n
    dsimp only at h ⊢
    cases hid : m id with
    | none => simp [hid] at h
    | some ob => rw [hs id ob hid]; rw [hid] at h; exact h

/-- What touches no object hangs on none. -/
theorem vopF_free {x : XI} (ht : x.touch = false) : vopF x e m b = vopF x e M b := by
  cases x <;> first | rfl | (simp [XI.touch] at ht)

/-- No change, or a new object. -/
def Quiet (b : Nat) (al : Bool) (r : Option (PV × Delta)) : Prop := ∀ p d, r = some (p, d) → d = [] ∨ (al = true ∧ ∃ o, d = [(b, some o)])
theorem Quiet.none {al : Bool} : Quiet b al none := fun p d h => by cases h
theorem Quiet.nil {al : Bool} {p : PV} : Quiet b al (some (p, [])) := fun p d h => by injection h with h; injection h with _ h; exact .inl h.symm
theorem Quiet.one {p : PV} {o : Obj} : Quiet b true (some (p, [(b, some o)])) := fun p d h => by injection h with h; injection h with _ h; exact .inr ⟨rfl, o, h.symm⟩
theorem Quiet.bind {α : Type} {al : Bool} {o : Option α} {f : α → Option (PV × Delta)} (h : ∀ x, Quiet b al (f x)) : Quiet b al (o.bind f) := by
  cases o with
  | none => exact .none
  | some x => exact h x
theorem Quiet.ite {al : Bool} {c : Prop} [Decidable c] {x y : Option (PV × Delta)} (h1 : Quiet b al x) (h2 : Quiet b al y) : Quiet b al (if c then x else y) := by
  split
  · exact h1
  · exact h2

theorem vopF_quiet {x : XI} (hw : x.wr = false) : Quiet b x.mk (vopF x e m b) := by
  cases x <;> first | (simp [XI.wr] at hw; done) | skip
  all_goals
    unfold vopF
    repeat' first
      | exact Quiet.none
      | exact Quiet.nil
      | exact Quiet.one
      | refine Quiet.bind fun _ => ?_
      | refine Quiet.ite ?_ ?_
      | unfold vopEqs
      | split

theorem mk_touch {x : XI} (h : x.mk = true) : x.touch = true := by cases x <;> first | rfl | (simp [XI.mk] at h)

/-- What it changes: a new object; or, where it writes, one that it sees. -/
theorem vopF_dom {x : XI} {p : PV} {d : Delta} (h : vopF x e m b = some (p, d)) : (x.touch = false → d = []) ∧ ∀ id o, (id, o) ∈ d → (id = b ∧ o.isSome ∧ x.mk = true) ∨ (x.wr = true ∧ (m id).isSome) := by
  by_cases hwr : x.wr = false
  · rcases vopF_quiet hwr p d h with rfl | ⟨ht, o, rfl⟩
    · exact ⟨fun _ => rfl, by simp⟩
    · refine ⟨fun h => absurd (mk_touch ht) (by simp [h]), fun id o' hm => ?_⟩
      simp at hm
      exact .inl ⟨hm.1, by simp [hm.2], ht⟩
  cases x <;> first | (exact absurd rfl hwr) | skip
  case appendL => simp [vopF] at h
  case mapUpd g ks x k v =>
    simp only [vopF, Option.bind_eq_some_iff] at h
    obtain ⟨p, hp, q, hq, v, hv, h⟩ := h
    cases p <;> try (simp only [reduceCtorEq] at h; done)
    rename_i id
    dsimp only at h
    cases hid : m id with
    | none => simp [hid] at h
    | some ob =>
      rw [hid] at h
      cases ob <;> try (simp only [reduceCtorEq] at h; done)
      simp only [Option.bind_eq_some_iff] at h
      obtain ⟨r, hr, h⟩ := h
      split at h
      case isFalse => cases h
      simp only [Option.some.injEq, Prod.mk.injEq] at h
      obtain ⟨_, rfl⟩ := h
      refine ⟨by simp [XI.touch], fun id' o hm => ?_⟩
      simp at hm
      obtain ⟨rfl, rfl⟩ := hm
      exact .inr ⟨rfl, by simp [hid]⟩
  case mapEnt g ks z x k =>
    simp only [vopF, Option.bind_eq_some_iff] at h
    obtain ⟨p, hp, q, hq, h⟩ := h
    cases p <;> try (simp only [reduceCtorEq] at h; done)
    rename_i id
    dsimp only at h
    cases hid : m id with
    | none => simp [hid] at h
    | some ob =>
      rw [hid] at h
      cases ob <;> try (simp only [reduceCtorEq] at h; done)
      simp only [Option.bind_eq_some_iff] at h
      obtain ⟨r, hr, h⟩ := h
      split at h
      case isFalse => cases h
      simp only [Option.some.injEq, Prod.mk.injEq] at h
      obtain ⟨_, rfl⟩ := h
      refine ⟨by simp [XI.touch], fun id' o hm => ?_⟩
      simp at hm
      obtain ⟨rfl, rfl⟩ := hm
      exact .inr ⟨rfl, by simp [hid]⟩
  case entSto x k v =>
    simp only [vopF, Option.bind_eq_some_iff] at h
    obtain ⟨p, hp, q, hq, v, hv, i, hi, h⟩ := h
    cases p <;> try (simp only [reduceCtorEq] at h; done)
    rename_i id
    dsimp only at h
    cases hid : m id with
    | none => simp [hid] at h
    | some ob =>
      rw [hid] at h
      cases ob <;> try (simp only [reduceCtorEq] at h; done)
      simp only [Option.bind_eq_some_iff] at h
      obtain ⟨r, hr, h⟩ := h
      split at h
      case isFalse => cases h
      simp only [Option.some.injEq, Prod.mk.injEq] at h
      obtain ⟨_, rfl⟩ := h
      refine ⟨by simp [XI.touch], fun id' o hm => ?_⟩
      simp at hm
      obtain ⟨rfl, rfl⟩ := hm
      exact .inr ⟨rfl, by simp [hid]⟩
  case append T k bytes s x =>
    simp only [vopF, Option.bind_eq_some_iff] at h
    obtain ⟨p, hp, q, hq, ys, hys, h⟩ := h
    cases p <;> try (simp only [reduceCtorEq] at h; done)
    rotate_left
    · dsimp only at h
      split at h
      case isFalse => cases h
      simp only [Option.some.injEq, Prod.mk.injEq] at h
      obtain ⟨_, rfl⟩ := h
      refine ⟨by simp [XI.touch], fun id' o hm => ?_⟩
      simp at hm
      obtain ⟨rfl, rfl⟩ := hm
      exact .inl ⟨rfl, rfl, rfl⟩
    rename_i id n
    dsimp only at h
    cases hid : m id with
    | none => simp [hid] at h
    | some ob =>
      rw [hid] at h
      cases ob <;> try (simp only [reduceCtorEq] at h; done)
      rename_i k' xs T' fz
      cases fz
      case true => simp only [reduceCtorEq] at h
      dsimp only at h
      split at h
      case isFalse => cases h
      simp only [Option.some.injEq, Prod.mk.injEq] at h
      obtain ⟨_, rfl⟩ := h
      refine ⟨by simp [XI.touch], fun id' o hm => ?_⟩
      simp at hm
      rcases hm with ⟨rfl, rfl⟩ | ⟨rfl, rfl⟩
      · exact .inr ⟨rfl, by simp [hid]⟩
      · exact .inl ⟨rfl, rfl, rfl⟩
  case store n x y =>
    simp only [vopF, Option.bind_eq_some_iff] at h
    obtain ⟨p, hp, q, hq, h⟩ := h
    cases p <;> try (simp only [reduceCtorEq] at h; done)
    rename_i id k i j
    dsimp only at h
    cases hid : m id with
    | none => simp [hid] at h
    | some ob =>
      rw [hid] at h
      have : ∃ o, d = [(id, some o)] := by
        cases ob with
        | map es => simp at h
        | iter => simp at h
        | loop => simp at h
        | box cs T =>
          dsimp only at h
          split at h
          case isFalse => cases h
          simp only [Option.some.injEq, Prod.mk.injEq] at h
          exact ⟨_, h.2.symm⟩
        | row k' xs T fz =>
          cases fz with
          | true => simp at h
          | false =>
            simp only [Option.bind_eq_some_iff] at h
            obtain ⟨q', hq', r, hr, h⟩ := h
            split at h
            case isFalse => cases h
            simp only [Option.some.injEq, Prod.mk.injEq] at h
            exact ⟨_, h.2.symm⟩
      obtain ⟨ob', rfl⟩ := this
      refine ⟨by simp [XI.touch], fun id' o hm => ?_⟩
      simp at hm
      obtain ⟨rfl, rfl⟩ := hm
      exact .inr ⟨rfl, by simp [hid]⟩

end
end Go.Vx
/- The engine, part 17: regions whose order is open: whatever the order, the same comes out. -/
set_option linter.unusedVariables false
set_option linter.unusedSimpArgs false
namespace Go.Vx
open Go Go.RowKit

open Classical in
noncomputable def ov (D : Nat → Prop) (f M : Mem) : Mem := fun id => if D id then f id else M id

section
variable {P : Program} {e e' : Env} {m M : Mem} {b : Nat}

theorem upds_in (d : Delta) : ∀ (m m' : Mem) (id : Nat), id ∈ d.map (·.1) → m.upds d id = m'.upds d id := by
  induction d with
  | nil => intro m m' id h; simp at h
  | cons x d ih =>
    intro m m' id h
    obtain ⟨i, o⟩ := x
    show Mem.upds (upd m i o) d id = Mem.upds (upd m' i o) d id
    by_cases hd : id ∈ d.map (·.1)
    · exact ih _ _ id hd
    · have hi : id = i := by
        simp only [List.map_cons, List.mem_cons] at h
        exact h.resolve_right hd
      have out : ∀ (d : Delta) (m : Mem), id ∉ d.map (·.1) → m.upds d id = m id := by
        intro d
        induction d with
        | nil => intro m _; rfl
        | cons y d ih2 =>
          intro m hn
          simp only [List.map_cons, List.mem_cons, not_or] at hn
          show Mem.upds (upd m y.1 y.2) d id = m id
          rw [ih2 _ hn.2, upd_other _ _ hn.1]
      rw [out d _ hd, out d _ hd, hi, upd_same, upd_same]

theorem upds_out (d : Delta) : ∀ (m : Mem) (id : Nat), id ∉ d.map (·.1) → m.upds d id = m id := by
  induction d with
  | nil => intro m id _; rfl
  | cons y d ih2 =>
    intro m id hn
    simp only [List.map_cons, List.mem_cons, not_or] at hn
    show Mem.upds (upd m y.1 y.2) d id = m id
    rw [ih2 _ _ hn.2, upd_other _ _ hn.1]

theorem upds_ov (d : Delta) (m : Mem) : m.upds d = ov (fun id => id ∈ d.map (·.1)) (mt.upds d) m := by
  funext id
  unfold ov
  split
  · rename_i h; exact upds_in d _ _ id h
  · rename_i h; exact upds_out d _ id h

theorem Arg.sub {mR : Mem} (hs : Sub mR M) {p q : PV} (h : Arg b mR p q) : Arg b M p q := by
  rcases h with h | h
  · exact .inl h
  · exact .inr (purA_sub hs h)
theorem Args.sub {mR : Mem} (hs : Sub mR M) : ∀ {ps qs : List PV}, Args b mR ps qs → Args b M ps qs
  | [], [], _ => trivial
  | _ :: _, _ :: _, ⟨h1, h2⟩ => ⟨h1.sub hs, Args.sub hs h2⟩
  | [], _ :: _, h => h.elim
  | _ :: _, [], h => h.elim

/-- What an operation does, wherever its operands and what it sees are as here. -/
structure Does (P : Program) (base b : Nat) (bar : Bool) (x : XI) (e : Env) (mR : Mem) (p : PV) (D : Nat → Prop) (f : Mem) : Prop where
  dom : ∀ id, D id → (b ≤ id ∧ id < b + 8 ∧ x.mk = true) ∨ (((x.wr = true ∧ x.isL = false) ∨ (x.isL = true ∧ base ≤ id)) ∧ (mR id).isSome = true) ∨ (bar = true ∧ (mR id).isSome = true ∧ f id ≠ mR id)
  still : x.touch = false → ∀ id, ¬ D id
  runs : ∀ e' M, (∀ t ∈ x.slots, e' t = e t) → (x.touch = true → Sub mR M) → vop P b bar (some base) x e' M M fun p' m' => p' = p ∧ m' = ov D f M

theorem call_open {bar : Bool} {X : Cal} {ps : List PV} {mR : Mem} {K : PV → Mem → Prop} (h : VCall P b X ps mR m bar false K) :
    ∃ (p : PV) (D : Nat → Prop) (g : Mem), K p (ov D g m) ∧ (∀ id, D id → (b ≤ id ∧ id < b + 8) ∨ (bar = true ∧ (mR id).isSome = true)) ∧
      ∀ M, Sub mR M → VCall P b X ps M M bar false fun p' m' => p' = p ∧ m' = ov D g M := by
  unfold VCall at h ⊢
  induction h with
  | pure qs r ha hv hk =>
    have h0 : ∀ M, ov (fun _ => False) mt M = M := fun M => by funext id; simp [ov]
    exact ⟨r, fun _ => False, mt, by rw [h0]; exact hk, fun _ h => h.elim, fun M hs => .pure qs r (ha.sub hs) hv ⟨rfl, (h0 M).symm⟩⟩
  | new qs r o ha hv hk =>
    have h0 : ∀ M, ov (fun id => id = b) (upd mt b (some o)) M = upd M b (some o) := fun M => by
      funext id
      by_cases he : id = b
      · subst he; simp [ov, upd]
      · simp [ov, upd, he]
    exact ⟨r, fun id => id = b, upd mt b (some o), by rw [h0]; exact hk, fun id h => .inl (by omega), fun M hs => .new qs r o (ha.sub hs) hv ⟨rfl, (h0 M).symm⟩⟩
  | gen hb qs m0 r m1 ha h0 hv hk =>
    have h1 : ∀ M, ov (fun id => (m0 id).isSome = true ∨ (b ≤ id ∧ id < b + 8)) m1 M = patch m0 b m1 M := fun M => by
      funext id
      by_cases hc : (m0 id).isSome = true ∨ (b ≤ id ∧ id < b + 8)
      · simp only [ov, patch, if_pos hc]
      · simp only [ov, patch, if_neg hc]
    refine ⟨r, fun id => (m0 id).isSome = true ∨ (b ≤ id ∧ id < b + 8), m1, by rw [h1]; exact hk, fun id h => ?_, fun M hs => .gen hb qs m0 r m1 (ha.sub hs) (fun id o h => ⟨hs _ _ (h0 id o h).1, (h0 id o h).2⟩) hv ⟨rfl, (h1 M).symm⟩⟩
    rcases h with h | h
    · obtain ⟨o, ho⟩ := Option.isSome_iff_exists.1 h
      exact .inr ⟨hb, by rw [(h0 id o ho).1]; rfl⟩
    · exact .inl h
  | @own mR m hb qs id o o' r ha h0 h1 h2 hv hk =>
    have h3 : ∀ M, ov (fun i => i = id) (upd mt id (some o')) M = upd M id (some o') := fun M => by
      funext i
      by_cases he : i = id
      · subst he; simp [ov, upd]
      · simp [ov, upd, he]
    exact ⟨r, fun i => i = id, upd mt id (some o'), by rw [h3]; exact hk, fun i h => .inr ⟨hb, by rw [h, h0]; rfl⟩, fun M hs => .own hb qs id o o' r (ha.sub hs) (hs _ _ h0) h1 h2 hv ⟨rfl, (h3 M).symm⟩⟩
  | @frz mR m hb l hl h ih =>
    obtain ⟨p, D, g, hk, hd, hr⟩ := ih
    have hlk : ∀ M, (∀ id, id ∈ l → ∃ o, mR id = some o ∧ M id = some o) → ov (fun id => D id ∨ id ∈ l) (ov D g (Vx.frz mR l)) M = ov D g (Vx.frz M l) := fun M hM => by
      funext id
      by_cases h1 : D id
      · simp [ov, h1]
      · by_cases h2 : id ∈ l
        · obtain ⟨o, ho, hmo⟩ := hM id h2
          simp [ov, h1, h2, Vx.frz, ho, hmo]
        · simp [ov, h1, h2, Vx.frz]
    refine ⟨p, fun id => D id ∨ id ∈ l, ov D g (Vx.frz mR l), by rw [hlk m hl]; exact hk, fun id h => ?_, fun M hs => ?_⟩
    · rcases h with h | h
      · rcases hd id h with h | ⟨h1, h2⟩
        · exact .inl h
        · refine .inr ⟨h1, ?_⟩
          unfold Vx.frz at h2
          split at h2
          · simpa using h2
          · exact h2
      · obtain ⟨o, ho, _⟩ := hl id h
        exact .inr ⟨hb, by rw [ho]; rfl⟩
    · have hM : ∀ id, id ∈ l → ∃ o, mR id = some o ∧ M id = some o := fun id h => by
        obtain ⟨o, ho, _⟩ := hl id h
        exact ⟨o, ho, hs _ _ ho⟩
      rw [show (fun p' m' => p' = p ∧ m' = ov (fun id => D id ∨ id ∈ l) (ov D g (Vx.frz mR l)) M) = (fun p' m' => p' = p ∧ m' = ov D g (Vx.frz M l)) from by rw [hlk M hM]]
      refine .frz hb l (fun id h => ?_) (hr (Vx.frz M l) fun id o ho => ?_)
      · obtain ⟨o, _, ho⟩ := hM id h
        exact ⟨o, ho, ho⟩
      · unfold Vx.frz at ho ⊢
        split
        · rename_i hm
          simp only [hm, if_true, Option.map_eq_some_iff] at ho ⊢
          obtain ⟨o', h1, h2⟩ := ho
          exact ⟨o', hs _ _ h1, h2⟩
        · rename_i hm
          rw [if_neg hm] at ho
          exact hs _ _ ho
  | any hb hn => cases hn
  | @ol mR m hb qs l0 l1 r ha h0 h1 hv hk =>
    refine ⟨r, fun id => id ∈ (swap l0 l1).map (·.1), mt.upds (swap l0 l1), by rw [← upds_ov]; exact hk, fun id h => ?_, fun M hs => .ol hb qs l0 l1 r (ha.sub hs) (fun x hx => ⟨hs _ _ (h0 x hx).1, (h0 x hx).2⟩) h1 hv ⟨rfl, upds_ov _ M⟩⟩
    simp only [swap, List.map_append, List.map_map, List.mem_append, List.mem_map, Function.comp] at h
    have old : ∀ x ∈ l0, (mR x.1).isSome = true := fun x hx => by rw [(h0 x hx).1]; rfl
    rcases h with ⟨x, hx, rfl⟩ | ⟨x, hx, rfl⟩
    · exact .inr ⟨hb, old x hx⟩
    · rcases h1 x hx with h | h
      · obtain ⟨y, hy, he⟩ := List.mem_map.1 h
        exact .inr ⟨hb, by rw [← he]; exact old y hy⟩
      · exact .inl h

theorem call_open' {bar : Bool} {X : Cal} {ps : List PV} {mR : Mem} {K : PV → Mem → Prop} (hsub : Sub mR m) (h : VCall P b X ps mR m bar false K) :
    ∃ (p : PV) (D : Nat → Prop) (g : Mem), K p (ov D g m) ∧ (∀ id, D id → (b ≤ id ∧ id < b + 8) ∨ (bar = true ∧ (mR id).isSome = true ∧ g id ≠ mR id)) ∧
      ∀ M, Sub mR M → VCall P b X ps M M bar false fun p' m' => p' = p ∧ m' = ov D g M := by
  obtain ⟨p, D, g, hk, hd, hr⟩ := call_open h
  have e : ∀ M, Sub mR M → ov (fun id => D id ∧ ¬ ((mR id).isSome = true ∧ g id = mR id)) g M = ov D g M := fun M hM => by
    funext id
    by_cases h1 : D id
    · by_cases h2 : (mR id).isSome = true ∧ g id = mR id
      · obtain ⟨o, ho⟩ := Option.isSome_iff_exists.1 h2.1
        have h3 : g id = M id := by rw [h2.2, ho]; exact (hM id o ho).symm
        unfold ov
        rw [if_neg (fun h => h.2 h2), if_pos h1, h3]
      · simp [ov, h1, h2]
    · simp [ov, h1]
  refine ⟨p, _, g, by rw [e m hsub]; exact hk, fun id h => ?_, fun M hM => by rw [e M hM]; exact hr M hM⟩
  rcases hd id h.1 with h1 | ⟨h1, h2⟩
  · exact .inl h1
  · exact .inr ⟨h1, h2, fun h3 => h.2 ⟨h2, h3⟩⟩

theorem vop_open {bar : Bool} {x : XI} {mR : Mem} {K : PV → Mem → Prop} {base : Nat} (hsub : Sub mR m) (h : vop P b bar (some base) x e mR m K) : ∃ p D f, K p (ov D f m) ∧ Does P base b bar x e mR p D f := by
  have still : x.isL = false → (∀ e' M K, vop P b bar (some base) x e' M M K = obind (vopF x e' M b) fun r => K r.1 (M.upds r.2)) → (obind (vopF x e mR b) fun r => K r.1 (m.upds r.2)) → ∃ p D f, K p (ov D f m) ∧ Does P base b bar x e mR p D f := by
    intro hiL hv h
    obtain ⟨⟨p, d⟩, hr, hk⟩ := obind_some h
    refine ⟨p, _, _, by rw [← upds_ov]; exact hk, fun id hid => ?_, fun ht id hid => ?_, fun e' M he hs => ?_⟩
    · obtain ⟨⟨i, o⟩, hm, rfl⟩ := List.mem_map.1 hid
      rcases (vopF_dom hr).2 i o hm with ⟨rfl, _, hk⟩ | h
      · exact .inl ⟨Nat.le_refl _, by simp, hk⟩
      · exact .inr (.inl ⟨.inl ⟨h.1, hiL⟩, h.2⟩)
    · rw [(vopF_dom hr).1 ht] at hid
      simp at hid
    · have : vopF x e M b = some (p, d) := by
        cases ht : x.touch with
        | true => exact vopF_sub (hs ht) hr
        | false => rw [vopF_free (M := mR) ht]; exact hr
      rw [hv, vopF_congr he, this]
      exact ⟨rfl, upds_ov d M⟩
  cases x
  case next x => obtain ⟨h, _⟩ := h; cases h
  case call f args =>
    obtain ⟨ps, hps, hc⟩ := obind_some h
    obtain ⟨p, D, g, hk, hd, hr⟩ := call_open' hsub hc
    refine ⟨p, D, g, hk, fun id h => (hd id h).imp (fun h => ⟨h.1, h.2, rfl⟩) .inr, by simp [XI.touch], fun e' M he hs => ?_⟩
    show obind (args.mapM fun x => x.ev e') _
    rw [evs_congr he, hps]
    exact hr M (hs rfl)
  case callv fx args =>
    obtain ⟨pf, hpf, h⟩ := obind_some h
    cases pf <;> try exact h.elim
    · rename_i g caps
      obtain ⟨ps, hps, hc⟩ := obind_some h
      obtain ⟨p, D, f, hk, hd, hr⟩ := call_open' hsub hc
      refine ⟨p, D, f, hk, fun id h => (hd id h).imp (fun h => ⟨h.1, h.2, rfl⟩) .inr, by simp [XI.touch], fun e' M he hs => ?_⟩
      show obind (fx.ev e') _
      rw [ev_congr (fun t ht => he t (List.mem_append_left _ ht)), hpf]
      show obind (args.mapM fun x => x.ev e') _
      rw [evs_congr (fun t ht => he t (List.mem_append_right _ ht)), hps]
      exact hr M (hs rfl)
    · rename_i L
      obtain ⟨ps, hps, hc⟩ := obind_some h
      obtain ⟨p, D, f, hk, hd, hr⟩ := call_open' hsub hc
      refine ⟨p, D, f, hk, fun id h => (hd id h).imp (fun h => ⟨h.1, h.2, rfl⟩) .inr, by simp [XI.touch], fun e' M he hs => ?_⟩
      show obind (fx.ev e') _
      rw [ev_congr (fun t ht => he t (List.mem_append_left _ ht)), hpf]
      show obind (args.mapM fun x => x.ev e') _
      rw [evs_congr (fun t ht => he t (List.mem_append_right _ ht)), hps]
      exact hr M (hs rfl)
  case appendL T k bytes s y =>
    obtain ⟨hw, h⟩ := h
    obtain ⟨⟨p, d⟩, hr, hk⟩ := obind_some h
    refine ⟨p, _, _, by rw [← upds_ov]; exact hk, fun id hid => ?_, by simp [XI.touch], fun e' M he hs => ?_⟩
    · obtain ⟨⟨i, o⟩, hm, rfl⟩ := List.mem_map.1 hid
      rcases (vopF_dom hr).2 i o hm with ⟨rfl, _, hk⟩ | h
      · exact .inl ⟨Nat.le_refl _, by simp, rfl⟩
      · by_cases hib : i = b
        · exact .inl ⟨by simp [hib], by simp [hib], rfl⟩
        refine .inr (.inl ⟨.inr ⟨rfl, ?_⟩, h.2⟩)
        simp only [vopF, Option.bind_eq_some_iff] at hr
        obtain ⟨q, hq, q', hq', ys, hys, hr⟩ := hr
        rw [hq] at hw
        cases q <;> simp only [reduceCtorEq] at hr
        · rename_i id n
          have hle : base ≤ id := hw
          split at hr
          case h_2 => cases hr
          split at hr
          case isFalse => cases hr
          simp only [Option.some.injEq, Prod.mk.injEq] at hr
          obtain ⟨_, rfl⟩ := hr
          simp only [List.mem_cons, Prod.mk.injEq, List.not_mem_nil, or_false] at hm
          rcases hm with ⟨h, _⟩ | ⟨h, _⟩
          · rw [h]; exact hle
          · exact absurd h hib
        · split at hr
          case isFalse => cases hr
          simp only [Option.some.injEq, Prod.mk.injEq] at hr
          obtain ⟨_, rfl⟩ := hr
          simp only [List.mem_cons, Prod.mk.injEq, List.not_mem_nil, or_false] at hm
          exact absurd hm.1 hib
    · have h1 : vopF (.append T k bytes s y) e' M b = some (p, d) := by
        rw [vopF_congr (x := .append T k bytes s y) (e := e) (fun t ht => he t ht)]; exact vopF_sub (hs rfl) hr
      have h2 : s.ev e' = s.ev e := ev_congr fun t ht => he t (List.mem_append_left _ ht)
      show wloc (some base) (s.ev e') ∧ obind (vopF (.append T k bytes s y) e' M b) _
      rw [h1, h2]
      exact ⟨hw, rfl, upds_ov d M⟩
  all_goals exact still rfl (fun _ _ _ => rfl) h

/-- The textual run of a region. -/
structure Tr (P : Program) (base i0 : Nat) (xs : List XOp) (es : Nat → Env) (ms : Nat → Mem) (pv : Nat → PV) (D : Nat → Nat → Prop) (f : Nat → Mem) (hs : Nat → List (Nat × Mem × Mem)) : Prop where
  hist : ∀ i X, xs[i]? = some X → hs (i + 1) = addH X.soft (i0 + i) (ms i) (ms (i + 1)) (hs i)
  env : ∀ i X, xs[i]? = some X → es (i + 1) = putE (es i) X.dst (pv i)
  mem : ∀ i X, xs[i]? = some X → ms (i + 1) = ov (D i) (f i) (ms i)
  step : ∀ i X, xs[i]? = some X → (vguard X.guard (es i) True False ∧ Does P base (base + 8 * (i0 + i)) (X.bar || X.soft) X.xi (es i) (restrH base X.anc (hs i) (ms i)) (pv i) (D i) (f i)) ∨
    (vguard X.guard (es i) False True ∧ pv i = .tup [] ∧ ∀ id, ¬ D i id)

theorem vguard_cases {g : Option (Nat × Bool)} {A B : Prop} (h : vguard g e A B) : (vguard g e True False ∧ A) ∨ (vguard g e False True ∧ B) := by
  cases g with
  | none => exact .inl ⟨trivial, h⟩
  | some tw =>
    obtain ⟨t, want⟩ := tw
    obtain ⟨p, hp, h⟩ := obind_some h
    simp only [vguard, hp]
    cases p <;> try exact h.elim
    · rename_i c
      by_cases hc : c = want
      · exact .inl ⟨⟨fun _ => trivial, fun h => h hc⟩, h.1 hc⟩
      · exact .inr ⟨⟨fun h => hc h, fun _ => trivial⟩, h.2 hc⟩
    · rename_i vs
      cases vs with
      | nil => exact .inr ⟨trivial, h⟩
      | cons => exact h.elim

theorem trace (base : Nat) (K : Env → Mem → Prop) : ∀ (xs : List XOp) (i0 : Nat) (H : List (Nat × Mem × Mem)) (e : Env) (m : Mem), vopsD P base i0 H xs e m K →
    ∃ es ms pv D f hs, es 0 = e ∧ ms 0 = m ∧ hs 0 = H ∧ Tr P base i0 xs es ms pv D f hs ∧ K (es xs.length) (ms xs.length) := by
  intro xs
  induction xs with
  | nil => intro i0 H e m h; exact ⟨fun _ => e, fun _ => m, fun _ => .tup [], fun _ _ => False, fun _ => m, fun _ => H, rfl, rfl, rfl, ⟨by simp, by simp, by simp, by simp⟩, h⟩
  | cons X xs ih =>
    intro i0 H e m h
    have hsub : Sub (restrH base X.anc H m) m := fun id o ho => by
      unfold restrH restr at ho
      split at ho
      · split at ho
        · exact ho
        · cases ho
      · cases ho
    have build : ∀ (p : PV) (D0 : Nat → Prop) (f0 : Mem), vopsD P base (i0 + 1) (addH X.soft i0 m (ov D0 f0 m) H) xs (putE e X.dst p) (ov D0 f0 m) K →
        ((vguard X.guard e True False ∧ Does P base (base + 8 * (i0 + 0)) (X.bar || X.soft) X.xi e (restrH base X.anc H m) p D0 f0) ∨ (vguard X.guard e False True ∧ p = .tup [] ∧ ∀ id, ¬ D0 id)) →
        ∃ es ms pv D f hs, es 0 = e ∧ ms 0 = m ∧ hs 0 = H ∧ Tr P base i0 (X :: xs) es ms pv D f hs ∧ K (es (X :: xs).length) (ms (X :: xs).length) := by
      intro p D0 f0 h1 h2
      obtain ⟨es, ms, pv, D, f, hs, g1, g2, g0, g3, g4⟩ := ih (i0 + 1) _ _ _ h1
      refine ⟨fun i => match i with | 0 => e | i + 1 => es i, fun i => match i with | 0 => m | i + 1 => ms i, fun i => match i with | 0 => p | i + 1 => pv i, fun i => match i with | 0 => D0 | i + 1 => D i,
        fun i => match i with | 0 => f0 | i + 1 => f i, fun i => match i with | 0 => H | i + 1 => hs i, rfl, rfl, rfl, ⟨fun i Y hY => ?_, fun i Y hY => ?_, fun i Y hY => ?_, fun i Y hY => ?_⟩, g4⟩
      · cases i with
        | zero => simp at hY; subst hY; show hs 0 = addH X.soft (i0 + 0) m (ms 0) H; rw [g2]; exact g0
        | succ i =>
          have := g3.hist i Y (by simpa using hY)
          rw [show i0 + 1 + i = i0 + (i + 1) by omega] at this
          exact this
      · cases i with
        | zero => simp at hY; subst hY; exact g1
        | succ i => exact g3.env i Y (by simpa using hY)
      · cases i with
        | zero => simp at hY; subst hY; exact g2
        | succ i => exact g3.mem i Y (by simpa using hY)
      · cases i with
        | zero => simp at hY; subst hY; exact h2
        | succ i =>
          have := g3.step i Y (by simpa using hY)
          rw [show i0 + 1 + i = i0 + (i + 1) by omega] at this
          exact this
    rcases vguard_cases h with ⟨hg, hA⟩ | ⟨hg, hB⟩
    · obtain ⟨p, D, f, hk, hd⟩ := vop_open hsub hA
      exact build p D f hk (.inl ⟨hg, hd⟩)
    · have h0 : ov (fun _ => False) mt m = m := by funext id; simp [ov]
      exact build (.tup []) (fun _ => False) mt (by rw [h0]; exact hB) (.inr ⟨hg, rfl, fun _ h => h⟩)

end

/-- The order of a region suffices. -/
structure OrdOk (ops : Array Oper) (xs : List XOp) : Prop where
  len : xs.length = ops.size
  back : ∀ i o, ops[i]? = some o → ∀ ed ∈ o.after.toList, Region.binds .any ed = true → ed.on < i
  anc : ∀ (i : Nat) X, xs[i]? = some X → ∀ j, InA j X.anc → ∃ o ed, ops[i]? = some o ∧ ed ∈ o.after.toList ∧ Region.binds .any ed = true ∧ (ed.on = j ∨ ∃ Y, xs[ed.on]? = some Y ∧ InA j Y.anc)
  wr : ∀ (i : Nat) X, xs[i]? = some X → X.xi.wr = true → X.bar = true ∨ X.xi.isL = true
  locs : ∀ (i j : Nat) X Y, xs[i]? = some X → xs[j]? = some Y → i ≠ j → X.xi.isL = true → Y.xi.touch = true → ∀ (q : Nat) Z, xs[q]? = some Z → Z.xi.mk = true → InA q X.anc → InA q Y.anc → InA j X.anc ∨ InA i Y.anc
  dst : ∀ (i j : Nat) X Y t, xs[i]? = some X → xs[j]? = some Y → i ≠ j → Y.dst = some t → X.dst ≠ some t
  reads : ∀ (i j : Nat) X Y t, xs[i]? = some X → xs[j]? = some Y → i ≠ j → Y.dst = some t → t ∈ looks X → (j < i ∧ InA j X.anc) ∨ (i < j ∧ InA i Y.anc)
  soft : ∀ (i j : Nat) X Y, xs[i]? = some X → xs[j]? = some Y → X.soft = true → j < i → Y.xi.touch = true → InA j X.anc
  bars : ∀ (i j : Nat) X Y, xs[i]? = some X → xs[j]? = some Y → i ≠ j → X.bar = true → X.xi.touch = true → Y.xi.touch = true → InA j X.anc ∨ InA i Y.anc

end Go.Vx
/- The engine, part 18: regions whose order is open: the proof. -/
set_option linter.unusedVariables false
set_option linter.unusedSimpArgs false
namespace Go.Vx
open Go Go.RowKit

section
variable {P : Program} {base : Nat} {ops : Array Oper} {xs : List XOp} {es : Nat → Env} {ms : Nat → Mem} {pv : Nat → PV} {D : Nat → Nat → Prop} {f : Nat → Mem} {hs : Nat → List (Nat × Mem × Mem)}

def dstOf (xs : List XOp) (j : Nat) : Option Nat := (xs[j]?).bind (·.dst)

def envL (xs : List XOp) (e0 : Env) (pv : Nat → PV) (L : Nat → Bool) : Nat → Env
  | 0 => e0
  | k + 1 => if L k then putE (envL xs e0 pv L k) (dstOf xs k) (pv k) else envL xs e0 pv L k
noncomputable def memL (m0 : Mem) (D : Nat → Nat → Prop) (f : Nat → Mem) (L : Nat → Bool) : Nat → Mem
  | 0 => m0
  | k + 1 => if L k then ov (D k) (f k) (memL m0 D f L k) else memL m0 D f L k

theorem putE_none {e : Env} {dst : Option Nat} {p : PV} {t : Nat} (h : dst ≠ some t) : putE e dst p t = e t := by
  cases dst with
  | none => rfl
  | some d => exact upd_other _ _ (fun he => h (by rw [he]))

theorem envL_no {e0 : Env} {L : Nat → Bool} {t : Nat} : ∀ (k : Nat), (∀ j, j < k → L j = true → dstOf xs j ≠ some t) → envL xs e0 pv L k t = e0 t
  | 0, _ => rfl
  | k + 1, h => by
    simp only [envL]
    split
    · rename_i hl
      rw [putE_none (h k (by omega) hl)]
      exact envL_no k fun j hj => h j (by omega)
    · exact envL_no k fun j hj => h j (by omega)

theorem envL_yes (hd : ∀ i j t, dstOf xs i = some t → dstOf xs j = some t → i = j) {e0 : Env} {L : Nat → Bool} {t j : Nat} (hL : L j = true) (hj : dstOf xs j = some t) : ∀ (k : Nat), j < k → envL xs e0 pv L k t = some (pv j)
  | 0, h => by omega
  | k + 1, h => by
    simp only [envL]
    by_cases he : j = k
    · subst he
      rw [if_pos hL, hj]
      exact upd_same _ _ _
    · split
      · rw [putE_none fun h2 => he (hd _ _ _ hj h2)]
        exact envL_yes hd hL hj k (by omega)
      · exact envL_yes hd hL hj k (by omega)

theorem es_eq (ht : Tr P base 0 xs es ms pv D f hs) : ∀ (k : Nat), k ≤ xs.length → es k = envL xs (es 0) pv (fun _ => true) k
  | 0, _ => rfl
  | k + 1, h => by
    have hk : xs[k]? = some xs[k] := by simp
    rw [ht.env k _ hk, es_eq ht k (by omega)]
    simp only [envL, if_true]
    congr 1
    simp [dstOf, hk]
theorem ms_eq (ht : Tr P base 0 xs es ms pv D f hs) : ∀ (k : Nat), k ≤ xs.length → ms k = memL (ms 0) D f (fun _ => true) k
  | 0, _ => rfl
  | k + 1, h => by
    have hk : xs[k]? = some xs[k] := by simp
    rw [ht.mem k _ hk, ms_eq ht k (by omega)]
    simp only [memL, if_true]

theorem dst_uniq (hO : OrdOk ops xs) : ∀ i j t, dstOf xs i = some t → dstOf xs j = some t → i = j := by
  intro i j t h1 h2
  simp only [dstOf, Option.bind_eq_some_iff] at h1 h2
  obtain ⟨X, hX, h1⟩ := h1
  obtain ⟨Y, hY, h2⟩ := h2
  rcases Nat.decEq i j with h | h
  · exact absurd h1 (hO.dst i j X Y t hX hY h h2)
  · exact h

theorem anc_lt (hO : OrdOk ops xs) : ∀ (i : Nat) X, xs[i]? = some X → ∀ j, InA j X.anc → j < i := by
  intro i
  induction i using Nat.strongRecOn with
  | _ i ih =>
    intro X hX j hj
    obtain ⟨o, ed, ho, hed, hb, h⟩ := hO.anc i X hX j hj
    have hlt := hO.back i o ho ed hed hb
    rcases h with h | ⟨Y, hY, hjY⟩
    · omega
    · have := ih ed.on hlt Y hY j hjY; omega

def Closed (ops : Array Oper) (L : Nat → Bool) : Prop := ∀ i o, ops[i]? = some o → L i = true → ∀ ed ∈ o.after.toList, Region.binds .any ed = true → L ed.on = true

theorem anc_in (hO : OrdOk ops xs) {L : Nat → Bool} (hc : Closed ops L) : ∀ (i : Nat) X o, xs[i]? = some X → ops[i]? = some o → (∀ ed ∈ o.after.toList, Region.binds .any ed = true → L ed.on = true) → ∀ j, InA j X.anc → L j = true := by
  intro i
  induction i using Nat.strongRecOn with
  | _ i ih =>
    intro X o hX ho hr j hj
    obtain ⟨o', ed, ho', hed, hb, h⟩ := hO.anc i X hX j hj
    rw [ho] at ho'; injection ho' with ho'; subst ho'
    have hlt := hO.back i o ho ed hed hb
    rcases h with h | ⟨Y, hY, hjY⟩
    · exact h ▸ hr ed hed hb
    · have hlo : ed.on < ops.size := by
        have : i < ops.size := by
          rcases Nat.lt_or_ge i ops.size with h | h
          · exact h
          · simp [Array.getElem?_eq_none h] at ho
        omega
      exact ih ed.on hlt Y ops[ed.on] hY (by simp [hlo]) (hc ed.on _ (by simp [hlo]) (hr ed hed hb)) j hjY

/-- What an operation sees of its operands, in whatever order. -/
theorem env_agree (hO : OrdOk ops xs) (ht : Tr P base 0 xs es ms pv D f hs) {L : Nat → Bool} (hc : Closed ops L) {i : Nat} {X : XOp} {o : Oper} (hX : xs[i]? = some X) (ho : ops[i]? = some o) (hL : L i = false)
    (hr : ∀ ed ∈ o.after.toList, Region.binds .any ed = true → L ed.on = true) : ∀ t ∈ looks X, envL xs (es 0) pv L xs.length t = es i t := by
  intro t htl
  have hi : i < xs.length := (List.getElem?_eq_some_iff.1 hX).1
  rw [es_eq ht i (by omega)]
  have hu := dst_uniq hO
  by_cases hj : ∃ (j : Nat) (Y : XOp), xs[j]? = some Y ∧ Y.dst = some t
  · obtain ⟨j, Y, hY, hjt⟩ := hj
    have hjd : dstOf xs j = some t := by simp [dstOf, hY, hjt]
    have hjl : j < xs.length := (List.getElem?_eq_some_iff.1 hY).1
    by_cases hij : i = j
    · subst hij
      rw [envL_no _ fun k hk hLk h => ?_, envL_no _ fun k hk _ h => ?_]
      · have := hu _ _ _ hjd h; omega
      · have := hu _ _ _ hjd h; subst this; rw [hL] at hLk; cases hLk
    · rcases hO.reads i j X Y t hX hY hij hjt htl with ⟨hlt, ha⟩ | ⟨hlt, ha⟩
      · rw [envL_yes hu (anc_in hO hc i X o hX ho hr j ha) hjd _ hjl, envL_yes hu (L := fun _ => true) rfl hjd _ hlt]
      · have hLj : L j = false := by
          cases hh : L j with
          | false => rfl
          | true =>
            have hjo : j < ops.size := by rw [← hO.len]; exact hjl
            have := anc_in hO hc j Y ops[j] hY (by simp [hjo]) (hc j _ (by simp [hjo]) hh) i ha
            rw [hL] at this; cases this
        rw [envL_no _ fun k hk hLk h => ?_, envL_no _ fun k hk _ h => ?_]
        · have := hu _ _ _ hjd h; omega
        · have := hu _ _ _ hjd h; subst this; rw [hLj] at hLk; cases hLk
  · have hno : ∀ k, dstOf xs k ≠ some t := fun k h => by
      simp only [dstOf, Option.bind_eq_some_iff] at h
      obtain ⟨Y, hY, h⟩ := h
      exact hj ⟨k, Y, hY, h⟩
    rw [envL_no _ fun k _ _ => hno k, envL_no _ fun k _ _ => hno k]

theorem restrH_some {base anc : Nat} {H : List (Nat × Mem × Mem)} {m : Mem} {id : Nat} {o : Obj} (h : restrH base anc H m id = some o) : restr base anc m id = some o ∧ Seen anc H id := by
  unfold restrH at h
  split at h
  · rename_i hc; exact ⟨h, hc⟩
  · cases h
theorem restr_some {base : Nat} {anc : Nat} {m : Mem} {id : Nat} {o : Obj} (h : restr base anc m id = some o) : m id = some o ∧ (id < base ∨ InA ((id - base) / 8) anc) := by
  unfold restr at h
  split at h
  · rename_i hc; exact ⟨h, hc⟩
  · cases h

/-- What an operation changes is new, or seen by it, and then it is ordered with all that touch objects, or with all that see it. -/
theorem chg (hO : OrdOk ops xs) (ht : Tr P base 0 xs es ms pv D f hs) {j id : Nat} {X : XOp} (hX : xs[j]? = some X) (h : D j id) : X.xi.touch = true ∧ ((base + 8 * j ≤ id ∧ id < base + 8 * j + 8 ∧ X.xi.mk = true) ∨
    ((X.bar = true ∨ (X.xi.isL = true ∧ base ≤ id)) ∧ ∃ o, restr base X.anc (ms j) id = some o) ∨ (X.soft = true ∧ ∃ o, restr base X.anc (ms j) id = some o ∧ f j id ≠ some o)) := by
  rcases ht.step j X hX with ⟨_, hd⟩ | ⟨_, _, hd⟩
  · refine ⟨?_, ?_⟩
    · cases hh : X.xi.touch with
      | true => rfl
      | false => exact absurd h (hd.still hh id)
    · rcases hd.dom id h with h1 | ⟨h1, h2⟩ | ⟨h1, h2, h3⟩
      · rw [Nat.zero_add] at h1; exact .inl h1
      · obtain ⟨o, ho⟩ := Option.isSome_iff_exists.1 h2
        refine .inr (.inl ⟨?_, o, (restrH_some ho).1⟩)
        rcases h1 with ⟨h1, h3⟩ | h1
        · exact .inl ((hO.wr j X hX h1).resolve_right (by simp [h3]))
        · exact .inr h1
      · obtain ⟨o, ho⟩ := Option.isSome_iff_exists.1 h2
        simp only [Bool.or_eq_true] at h1
        rcases h1 with h1 | h1
        · exact .inr (.inl ⟨.inl h1, o, (restrH_some ho).1⟩)
        · exact .inr (.inr ⟨h1, o, (restrH_some ho).1, by rw [← ho]; exact h3⟩)
  · exact absurd h (hd id)

/-- No object ahead of its making. -/
theorem ms_fresh (hO : OrdOk ops xs) (ht : Tr P base 0 xs es ms pv D f hs) (h0 : ∀ id, base ≤ id → ms 0 id = none) : ∀ (k : Nat), k ≤ xs.length → ∀ id, base + 8 * k ≤ id → ms k id = none
  | 0, _, id, h => h0 id (by omega)
  | k + 1, hk, id, h => by
    have hX : xs[k]? = some xs[k] := by simp
    rw [ht.mem k _ hX]
    unfold ov
    split
    · rename_i hd
      rcases (chg hO ht hX hd).2 with h1 | ⟨_, o, ho⟩ | ⟨_, o, ho, _⟩
      · omega
      all_goals
        have := (restr_some ho).1
        rw [ms_fresh hO ht h0 k (by omega) id (by omega)] at this
        cases this
    · exact ms_fresh hO ht h0 k (by omega) id (by omega)

/-- What is there was made by one that may. -/
theorem ms_mk (hO : OrdOk ops xs) (ht : Tr P base 0 xs es ms pv D f hs) (h0 : ∀ id, base ≤ id → ms 0 id = none) : ∀ (k : Nat), k ≤ xs.length → ∀ id o, base ≤ id → ms k id = some o → ∃ Z, xs[(id - base) / 8]? = some Z ∧ Z.xi.mk = true
  | 0, _, id, o, h, ho => by rw [h0 id h] at ho; cases ho
  | k + 1, hk, id, o, h, ho => by
    have hX : xs[k]? = some xs[k] := by simp
    rw [ht.mem k _ hX] at ho
    unfold ov at ho
    split at ho
    · rename_i hd
      rcases (chg hO ht hX hd).2 with ⟨h1, h2, h3⟩ | ⟨_, o', ho'⟩ | ⟨_, o', ho', _⟩
      · have : (id - base) / 8 = k := by omega
        exact ⟨xs[k], by rw [this]; exact hX, h3⟩
      · exact ms_mk hO ht h0 k (by omega) id o' h (restr_some ho').1
      · exact ms_mk hO ht h0 k (by omega) id o' h (restr_some ho').1
    · exact ms_mk hO ht h0 k (by omega) id o h ho

/-- A soft call is noted. -/
theorem hs_mem (ht : Tr P base 0 xs es ms pv D f hs) {j : Nat} {Y : XOp} (hY : xs[j]? = some Y) (hsoft : Y.soft = true) : ∀ (i : Nat), j < i → i ≤ xs.length → (j, ms j, ms (j + 1)) ∈ hs i
  | 0, h, _ => by omega
  | i + 1, h, hl => by
    have hX : xs[i]? = some xs[i] := by simp
    rw [ht.hist i _ hX, Nat.zero_add]
    by_cases he : j = i
    · subst he
      rw [hX] at hY; injection hY with hY
      simp [addH, hY, hsoft]
    · have := hs_mem ht hY hsoft i (by omega) (by omega)
      unfold addH
      split
      · exact List.mem_cons_of_mem _ this
      · exact this

/-- Two that see one object, one of which turns it. -/
theorem tied (hO : OrdOk ops xs) (ht : Tr P base 0 xs es ms pv D f hs) (h0 : ∀ id, base ≤ id → ms 0 id = none) {i j id : Nat} {X Y : XOp} (hX : xs[i]? = some X) (hY : xs[j]? = some Y) (hne : j ≠ i) (hyt : Y.xi.touch = true) (htc : X.xi.touch = true)
    (hy : Y.bar = true ∨ (Y.xi.isL = true ∧ base ≤ id)) {o' : Obj} (h1 : restr base Y.anc (ms j) id = some o') (h2 : base ≤ id → InA ((id - base) / 8) X.anc) : InA i Y.anc ∨ InA j X.anc := by
  have hjl : j < xs.length := (List.getElem?_eq_some_iff.1 hY).1
  rcases hy with hbar | ⟨hL, hle⟩
  · exact hO.bars j i Y X hY hX hne hbar hyt htc
  · obtain ⟨h1m, h1v⟩ := restr_some h1
    obtain ⟨Z, hZ, hmk⟩ := ms_mk hO ht h0 j (by omega) id o' hle h1m
    have hq1 : InA ((id - base) / 8) Y.anc := h1v.resolve_left (by omega)
    exact hO.locs j i Y X hY hX hne hL htc _ Z hZ hmk hq1 (h2 hle)

/-- Who may change what operation i sees: not those behind it, and of those ahead just its ancestors. -/
theorem sees (hO : OrdOk ops xs) (ht : Tr P base 0 xs es ms pv D f hs) (h0 : ∀ id, base ≤ id → ms 0 id = none) {L : Nat → Bool} (hc : Closed ops L) {i : Nat} {X : XOp} {o : Oper} (hX : xs[i]? = some X) (ho : ops[i]? = some o) (hL : L i = false)
    (hr : ∀ ed ∈ o.after.toList, Region.binds .any ed = true → L ed.on = true) (htc : X.xi.touch = true) {id : Nat} {ob : Obj} (hse : restrH base X.anc (hs i) (ms i) id = some ob) {j : Nat} {Y : XOp} (hY : xs[j]? = some Y) (hd : D j id) :
    (j < i → L j = true) ∧ (i < j → L j = false) := by
  have hjl : j < xs.length := (List.getElem?_eq_some_iff.1 hY).1
  have hil : i < xs.length := (List.getElem?_eq_some_iff.1 hX).1
  have hanc := anc_in hO hc i X o hX ho hr
  obtain ⟨hse1, hseen⟩ := restrH_some hse
  obtain ⟨hms, hvis⟩ := restr_some hse1
  obtain ⟨hyt, hch⟩ := chg hO ht hY hd
  have back : ∀ (h : InA i Y.anc), i < j → L j = false := fun h hlt => by
    cases hh : L j with
    | false => rfl
    | true =>
      have hjo : j < ops.size := by rw [← hO.len]; exact hjl
      have := anc_in hO hc j Y ops[j] hY (by simp [hjo]) (hc j _ (by simp [hjo]) hh) i h
      rw [hL] at this; cases this
  rcases hch with h1 | ⟨hbar, oy, hoy⟩ | ⟨hsoft, oy, hoy, hchg⟩
  · refine ⟨fun hlt => ?_, fun hlt => ?_⟩
    · rcases hvis with h | h
      · omega
      · have : (id - base) / 8 = j := by omega
        exact hanc j (this ▸ h)
    · have := ms_fresh hO ht h0 i (by omega) id (by omega)
      rw [hms] at this; cases this
  · have two : i ≠ j → InA i Y.anc ∨ InA j X.anc := fun hne => tied hO ht h0 hX hY (Ne.symm hne) hyt htc hbar (o' := oy) hoy fun hle => hvis.resolve_left (by omega)
    refine ⟨fun hlt => ?_, fun hlt => ?_⟩
    · rcases two (by omega) with h | h
      · have := anc_lt hO j Y hY i h; omega
      · exact hanc j h
    · rcases two (by omega) with h | h
      · exact back h hlt
      · have := anc_lt hO i X hX j h; omega
  · refine ⟨fun hlt => ?_, fun hlt => back (hO.soft j i Y X hY hX hsoft hlt htc) hlt⟩
    rcases hseen _ (hs_mem ht hY hsoft i hlt (by omega)) with h | h
    · exact hanc j h
    · have h1 := (restr_some hoy).1
      have h2 : ms (j + 1) id = f j id := by rw [ht.mem j Y hY]; simp only [ov, if_pos hd]
      have h3 : ms j id = ms (j + 1) id := h
      exact absurd (h2.symm.trans (h3.symm.trans h1)) hchg

theorem memL_same {m0 : Mem} {L : Nat → Bool} {id : Nat} : ∀ (k k0 : Nat), k0 ≤ k → (∀ j, k0 ≤ j → j < k → L j = true → ¬ D j id) → memL m0 D f L k id = memL m0 D f L k0 id
  | 0, k0, h, _ => by have : k0 = 0 := by omega
                      subst this; rfl
  | k + 1, k0, h, hd => by
    rcases Nat.lt_or_ge k0 (k + 1) with hlt | hge
    · simp only [memL]
      split
      · rename_i hl
        simp only [ov, if_neg (hd k (by omega) (by omega) hl)]
        exact memL_same k k0 (by omega) fun j h1 h2 => hd j h1 (by omega)
      · exact memL_same k k0 (by omega) fun j h1 h2 => hd j h1 (by omega)
    · have : k0 = k + 1 := by omega
      subst this; rfl

theorem memL_agree {m0 : Mem} {L L' : Nat → Bool} {id : Nat} : ∀ (k : Nat), (∀ j, j < k → D j id → L j = L' j) → memL m0 D f L k id = memL m0 D f L' k id
  | 0, _ => rfl
  | k + 1, h => by
    have ih := memL_agree (m0 := m0) (L := L) (L' := L') (id := id) k fun j hj => h j (by omega)
    simp only [memL]
    by_cases hd : D k id
    · rw [h k (by omega) hd]
      split
      · simp only [ov, if_pos hd]
      · exact ih
    · have e : ∀ (c : Bool) (M : Mem), (if c = true then ov (D k) (f k) M else M) id = M id := fun c M => by
        cases c
        · rfl
        · simp only [if_true, ov, if_neg hd]
      rw [e, e]; exact ih

/-- What an operation sees is there, in whatever order. -/
theorem mem_agree (hO : OrdOk ops xs) (ht : Tr P base 0 xs es ms pv D f hs) (h0 : ∀ id, base ≤ id → ms 0 id = none) {L : Nat → Bool} (hc : Closed ops L) {i : Nat} {X : XOp} {o : Oper} (hX : xs[i]? = some X) (ho : ops[i]? = some o) (hL : L i = false)
    (hr : ∀ ed ∈ o.after.toList, Region.binds .any ed = true → L ed.on = true) (htc : X.xi.touch = true) : Sub (restrH base X.anc (hs i) (ms i)) (memL (ms 0) D f L xs.length) := by
  intro id ob hse
  have hil : i < xs.length := (List.getElem?_eq_some_iff.1 hX).1
  have h1 := (restr_some (restrH_some hse).1).1
  rw [memL_same xs.length i (by omega) fun j hij hjl hLj hd => ?_]
  · rw [← h1, ms_eq ht i (by omega)]
    exact memL_agree i fun j hj hd => (sees hO ht h0 hc hX ho hL hr htc hse (by simp : xs[j]? = some (xs[j]'(by omega))) hd).1 hj
  · rcases Nat.lt_or_ge i j with h | h
    · have := (sees hO ht h0 hc hX ho hL hr htc hse (by simp : xs[j]? = some (xs[j]'hjl)) hd).2 h
      rw [hLj] at this; cases this
    · have : i = j := by omega
      subst this; rw [hL] at hLj; cases hLj

end
end Go.Vx
/- The engine, part 19: code. -/
set_option linter.unusedVariables false
set_option linter.unusedSimpArgs false
namespace Go.Vx
open Go Go.RowKit

section
variable {P : Program} {F : Fr} {base : Nat} {ops : Array Oper} {xs : List XOp} {es : Nat → Env} {ms : Nat → Mem} {pv : Nat → PV} {D : Nat → Nat → Prop} {f : Nat → Mem} {hs : Nat → List (Nat × Mem × Mem)}

theorem envL_agree {e0 : Env} {L L' : Nat → Bool} {t : Nat} : ∀ (k : Nat), (∀ j, j < k → dstOf xs j = some t → L j = L' j) → envL xs e0 pv L k t = envL xs e0 pv L' k t
  | 0, _ => rfl
  | k + 1, h => by
    have ih := envL_agree (e0 := e0) (L := L) (L' := L') (t := t) k fun j hj => h j (by omega)
    simp only [envL]
    by_cases hd : dstOf xs k = some t
    · rw [h k (by omega) hd, hd]
      split
      · simp only [putE, upd_same]
      · exact ih
    · have e : ∀ (c : Bool) (E : Env), (if c = true then putE E (dstOf xs k) (pv k) else E) t = E t := fun c E => by
        cases c
        · rfl
        · exact putE_none hd
      rw [e, e]; exact ih

def add (L : Nat → Bool) (i : Nat) : Nat → Bool := fun j => if j = i then true else L j

theorem env_add (hO : OrdOk ops xs) {e0 : Env} {L : Nat → Bool} {i : Nat} (hi : i < xs.length) : envL xs e0 pv (add L i) xs.length = putE (envL xs e0 pv L xs.length) (dstOf xs i) (pv i) := by
  funext t
  by_cases hd : dstOf xs i = some t
  · rw [envL_yes (dst_uniq hO) (L := add L i) (j := i) (by simp [add]) hd _ hi, hd]
    simp [putE, upd_same]
  · rw [putE_none hd]
    exact envL_agree _ fun j hj hjt => by
      have : j ≠ i := fun h => hd (h ▸ hjt)
      simp [add, this]

theorem mem_add (hO : OrdOk ops xs) (ht : Tr P base 0 xs es ms pv D f hs) (h0 : ∀ id, base ≤ id → ms 0 id = none) {L : Nat → Bool} (hc : Closed ops L) {i : Nat} {X : XOp} (hX : xs[i]? = some X) (hL : L i = false) :
    memL (ms 0) D f (add L i) xs.length = ov (D i) (f i) (memL (ms 0) D f L xs.length) := by
  have hi : i < xs.length := (List.getElem?_eq_some_iff.1 hX).1
  funext id
  by_cases hd : D i id
  · simp only [ov, if_pos hd]
    rw [memL_same xs.length (i + 1) (by omega) fun j hij hjl hLj hdj => ?_]
    · simp only [memL, add, if_true, ov, if_pos hd]
    · have hne : j ≠ i := by omega
      simp [add, hne] at hLj
      have hY : xs[j]? = some (xs[j]'hjl) := by simp
      obtain ⟨hti, hci⟩ := chg hO ht hX hd
      obtain ⟨htj, hcj⟩ := chg hO ht hY hdj
      have hjo : j < ops.size := by rw [← hO.len]; exact hjl
      have up : InA i (xs[j]'hjl).anc → False := fun h => by
        have := anc_in hO hc j _ ops[j] hY (by simp [hjo]) (hc j _ (by simp [hjo]) hLj) i h
        rw [hL] at this; cases this
      rcases hcj with h | ⟨hbar, oj, hoj⟩ | ⟨hsoft, _⟩
      · rcases hci with h2 | ⟨_, o, ho⟩ | ⟨_, o, ho, _⟩
        · omega
        all_goals
          have := ms_fresh hO ht h0 i (by omega) id (by omega)
          rw [(restr_some ho).1] at this; cases this
      · have two : InA i (xs[j]'hjl).anc ∨ InA j X.anc := by
          rcases hci with h2 | ⟨_, o, ho⟩ | ⟨_, o, ho, _⟩
          · have hv := (restr_some hoj).2.resolve_left (by omega)
            have : (id - base) / 8 = i := by omega
            exact .inl (this ▸ hv)
          all_goals exact tied hO ht h0 hX hY hne htj hti hbar (o' := oj) hoj fun hle => (restr_some ho).2.resolve_left (by omega)
        rcases two with h | h
        · exact up h
        · have := anc_lt hO i X hX j h; omega
      · exact up (hO.soft j i _ X hY hX hsoft (by omega) hti)
  · simp only [ov, if_neg hd]
    exact memL_agree _ fun j hj hdj => by
      have : j ≠ i := fun h => hd (h ▸ hdj)
      simp [add, this]

theorem vguard_congr {g : Option (Nat × Bool)} {e e' : Env} {A B : Prop} (h : ∀ t want, g = some (t, want) → e' t = e t) : vguard g e' A B = vguard g e A B := by
  cases g with
  | none => rfl
  | some tw => obtain ⟨t, want⟩ := tw; simp only [vguard, h t want rfl]

/-- What the parts of a region are turned into. -/
def Parts (P : Program) (n : Nat) (ops : Array Oper) (xs : List XOp) : Prop :=
  ∀ (i : Nat) (o : Oper) (X : XOp), ops[i]? = some o → xs[i]? = some X → Turned P o X.xi ∧ guardOf ops o.guard = some X.guard ∧ X.dst = o.dst ∧ dstOk n o.dst = true

def Inv (F : Fr) (base : Nat) (xs : List XOp) (es : Nat → Env) (ms : Nat → Mem) (pv : Nat → PV) (D : Nat → Nat → Prop) (f : Nat → Mem) (L : Nat → Bool) (a : Act) (w : World) : Prop :=
  ∃ β ok, Sat0 F β ok (envL xs (es 0) pv L xs.length) (memL (ms 0) D f L xs.length) a w ∧ (∀ id, base + 8 * xs.length ≤ id → β id = none) ∧
    (∀ i, i < xs.length → L i = false → ∀ id, base + 8 * i ≤ id → id < base + 8 * i + 8 → β id = none) ∧ ∀ id, id < F.b0 → β id = F.β0 id

theorem inv_step {ro : Option Nat} (hb0 : F.b0 ≤ base) (hO : OrdOk ops xs) (hp : Parts P F.n ops xs) (ht : Tr P base 0 xs es ms pv D f hs) (h0 : ∀ id, base ≤ id → ms 0 id = none) {L : Nat → Bool} (hc : Closed ops L) {i : Nat} {o : Oper} (ho : ops[i]? = some o) (hL : L i = false)
    (hr : ∀ ed ∈ o.after.toList, Region.binds .any ed = true → L ed.on = true) {a : Act} {w : World} (hI : Inv F base xs es ms pv D f L a w) {Q : Exit → Act → World → Prop} {K : Act → World → Prop}
    (hK : ∀ a w, Inv F base xs es ms pv D f (add L i) a w → K a w) : wpOpIn (wf ro) 0 P ops Q i K a w := by
  obtain ⟨β, ok, hs, hf1, hf2, hf3⟩ := hI
  have hio : i < ops.size := by
    rcases Nat.lt_or_ge i ops.size with h | h
    · exact h
    · simp [Array.getElem?_eq_none h] at ho
  have hi : i < xs.length := by rw [hO.len]; exact hio
  have hX : xs[i]? = some xs[i] := by simp
  generalize hxe : xs[i] = X at hX
  obtain ⟨htu, hg, hdst, hdok⟩ := hp i o X ho hX
  have hag := env_agree hO ht hc hX ho hL hr
  have hgag : ∀ A B, vguard X.guard (envL xs (es 0) pv L xs.length) A B = vguard X.guard (es i) A B := fun A B => vguard_congr fun t want hh => hag t (by simp [looks, hh])
  have hda : dstOf xs i = o.dst := by simp [dstOf, hX, hdst]
  -- the new state
  have next : ∀ v β' ok' w', Rep w' ok' β' (pv i) v → Sat0 F β' ok' (envL xs (es 0) pv L xs.length) (ov (D i) (f i) (memL (ms 0) D f L xs.length)) a w' →
      (∀ id, (id < base + 8 * i ∨ base + 8 * i + 8 ≤ id) → β' id = β id) → K (a.put o.dst v) w' := by
    intro v β' ok' w' hrep hsat hfar
    refine hK _ _ ⟨β', ok', ?_, fun id hid => by rw [hfar id (by omega)]; exact hf1 id hid, fun j hj hLj id h1 h2 => ?_, fun id hid => by rw [hfar id (by omega)]; exact hf3 id hid⟩
    · rw [env_add hO hi, mem_add hO ht h0 hc hX hL, hda]
      exact hsat.put hdok hrep
    · by_cases he : j = i
      · simp [add, he] at hLj
      · simp [add, he] at hLj
        rw [hfar id (by omega)]
        exact hf2 j hj hLj id h1 h2
  unfold wpOpIn
  simp only [ho]
  rcases ht.step i X hX with ⟨hgd, hdo⟩ | ⟨hgd, hpv, hnd⟩
  · rcases guard_sound hs hg (by rw [hgag]; exact hgd) with ⟨hw, _⟩ | ⟨_, hfalse⟩
    · rw [if_pos hw]
      rw [Nat.zero_add] at hdo
      have hv := hdo.runs (envL xs (es 0) pv L xs.length) (memL (ms 0) D f L xs.length) (fun t htt => hag t (by simp [looks, htt])) (fun htc => mem_agree hO ht h0 hc hX ho hL hr htc)
      have := vop_sound (ro := ro) hs (fun id h1 h2 => hf2 i hi hL id h1 h2) (fun _ _ h => h) htu (fun _ _ _ h => h) hv (Q := Q)
      refine Oper.wpIn_mono ?_ this
      rintro a' w' ⟨v, p, m', β', ok', rfl, ⟨rfl, rfl⟩, hrep, hsat, hfar⟩
      exact next v β' ok' w' hrep hsat hfar
    · exact hfalse.elim
  · rcases guard_sound hs hg (by rw [hgag]; exact hgd) with ⟨_, hfalse⟩ | ⟨hw, _⟩
    · exact hfalse.elim
    · rw [if_neg (by simp [hw])]
      refine ⟨fun _ _ => trivial, ?_⟩
      have h1 : ov (D i) (f i) (memL (ms 0) D f L xs.length) = memL (ms 0) D f L xs.length := by funext id; simp only [ov, if_neg (hnd id)]
      exact next undef β ok w (by rw [hpv]; exact .tup [] [] rfl (by simp)) (by rw [h1]; exact hs) (fun _ _ => rfl)

def cnt (L : Nat → Bool) : Nat → Nat
  | 0 => 0
  | n + 1 => cnt L n + if L n then 0 else 1
theorem cnt_zero {L : Nat → Bool} : ∀ (n : Nat), cnt L n = 0 → ∀ i, i < n → L i = true
  | 0, _, i, h => by omega
  | n + 1, h, i, hi => by
    simp only [cnt] at h
    by_cases he : i = n
    · subst he
      cases hh : L i with
      | true => rfl
      | false => rw [hh] at h; simp at h
    · exact cnt_zero n (by omega) i (by omega)
theorem cnt_add {L : Nat → Bool} {i : Nat} (hL : L i = false) : ∀ (n : Nat), (i < n → cnt (add L i) n + 1 = cnt L n) ∧ (n ≤ i → cnt (add L i) n = cnt L n)
  | 0 => ⟨fun h => by omega, fun _ => rfl⟩
  | n + 1 => by
    obtain ⟨h1, h2⟩ := cnt_add hL n
    simp only [cnt]
    refine ⟨fun h => ?_, fun h => ?_⟩
    · by_cases he : n = i
      · subst he
        rw [h2 (Nat.le_refl _)]
        simp [add, hL]
      · have := h1 (by omega)
        have : add L i n = L n := by simp [add, he]
        rw [this]; omega
    · have : add L i n = L n := by simp [add]; omega
      rw [this, h2 (by omega)]

theorem any_sound {ro : Option Nat} (hb0 : F.b0 ≤ base) (hO : OrdOk ops xs) (hp : Parts P F.n ops xs) (ht : Tr P base 0 xs es ms pv D f hs) (h0 : ∀ id, base ≤ id → ms 0 id = none) {Q : Exit → Act → World → Prop}
    (hQ : ∀ L a w, (∀ i, i < xs.length → L i = true) → Inv F base xs es ms pv D f L a w → Q .normal a w) :
    ∀ (fuel : Nat) (listed : Array Bool) (a : Act) (w : World), listed.size = ops.size → cnt (fun i => listed.getD i true) ops.size ≤ fuel → Closed ops (fun i => listed.getD i true) →
      Inv F base xs es ms pv D f (fun i => listed.getD i true) a w → wpAnyIn (wf ro) 0 P .any ops Q fuel listed a w := by
  have ready_of : ∀ (listed : Array Bool) i, i ∈ Region.ready .any ops listed → listed.getD i true = false ∧ ∃ o, ops[i]? = some o ∧ ∀ ed ∈ o.after.toList, Region.binds .any ed = true → listed.getD ed.on false = true := by
    intro listed i hi
    simp only [Region.ready, List.mem_filter, List.mem_range, Bool.and_eq_true, Bool.not_eq_true'] at hi
    obtain ⟨hlt, h1, h2⟩ := hi
    refine ⟨h1, ops[i], by simp [hlt], fun ed hed hb => ?_⟩
    simp only [Array.getElem?_eq_getElem hlt, Option.map_some, Option.getD_some, Array.all_eq_true] at h2
    obtain ⟨k, hk, hke⟩ := List.getElem_of_mem hed
    have := h2 k (by simpa using hk)
    simp only [Array.getElem_toList] at hke
    rw [hke, hb] at this
    simpa using this
  have none_of : ∀ (listed : Array Bool), listed.size = ops.size → Region.ready .any ops listed = [] → ∀ i, i < ops.size → listed.getD i true = true := by
    intro listed hsz hn i
    induction i using Nat.strongRecOn with
    | _ i ih =>
      intro hi
      cases hh : listed.getD i true with
      | true => rfl
      | false =>
        exfalso
        have : i ∈ Region.ready .any ops listed := by
          simp only [Region.ready, List.mem_filter, List.mem_range, Bool.and_eq_true, Bool.not_eq_true']
          refine ⟨hi, hh, ?_⟩
          simp only [Array.getElem?_eq_getElem hi, Option.map_some, Option.getD_some, Array.all_eq_true]
          intro k hk
          have hmem : ops[i].after[k] ∈ ops[i].after.toList := by simp
          cases hb : Region.binds .any ops[i].after[k] with
          | false => simp
          | true =>
            have hlt := hO.back i ops[i] (by simp [hi]) _ hmem hb
            have hlo : ops[i].after[k].on < ops.size := by omega
            have := ih _ hlt hlo
            simp [Array.getD, hsz, hlo] at this ⊢
            exact this
        rw [hn] at this
        cases this
  intro fuel
  induction fuel with
  | zero =>
    intro listed a w hsz hcnt hc hI
    have hall : ∀ i, i < ops.size → listed.getD i true = true := cnt_zero _ (by omega)
    refine ⟨?_, hQ _ a w (fun i hi => hall i (by rw [← hO.len]; exact hi)) hI⟩
    rcases hre : Region.ready .any ops listed with _ | ⟨i, l⟩
    · rfl
    · have hm : i ∈ Region.ready .any ops listed := by rw [hre]; exact List.mem_cons_self
      obtain ⟨h1, o, ho, _⟩ := ready_of listed i hm
      have : i < ops.size := by
        rcases Nat.lt_or_ge i ops.size with h | h
        · exact h
        · simp [Array.getElem?_eq_none h] at ho
      rw [hall i this] at h1; cases h1
  | succ fuel ih =>
    intro listed a w hsz hcnt hc hI
    refine ⟨fun hn => hQ _ a w (fun i hi => none_of listed hsz hn i (by rw [← hO.len]; exact hi)) hI, fun i hi => ?_⟩
    obtain ⟨hL, o, ho, hr⟩ := ready_of listed i hi
    have hio : i < ops.size := by
      rcases Nat.lt_or_ge i ops.size with h | h
      · exact h
      · simp [Array.getElem?_eq_none h] at ho
    have hr' : ∀ ed ∈ o.after.toList, Region.binds .any ed = true → listed.getD ed.on true = true := fun ed hed hb => by
      have h1 := hr ed hed hb
      have hlt := hO.back i o ho ed hed hb
      have : ed.on < listed.size := by omega
      simp [Array.getD, this] at h1 ⊢
      exact h1
    have hadd : (fun j => (listed.setIfInBounds i true).getD j true) = add (fun i => listed.getD i true) i := by
      funext j
      unfold add
      by_cases he : j = i
      · subst he; simp [Array.getD, hsz, hio]
      · rw [if_neg he]
        by_cases hj : j < listed.size
        · simp [Array.getD, hj, Array.getElem_setIfInBounds_ne, Ne.symm he]
        · simp [Array.getD, hj]
    refine inv_step hb0 hO hp ht h0 hc ho hL hr' hI fun a' w' hI' => ?_
    refine ih _ a' w' (by simpa using hsz) ?_ ?_ (by rw [hadd]; exact hI')
    · rw [hadd]
      have := (cnt_add (L := fun i => listed.getD i true) hL ops.size).1 hio
      omega
    · rw [hadd]
      intro j oj hoj hLj ed hed hb
      by_cases he : j = i
      · subst he
        rw [ho] at hoj; injection hoj with hoj; subst hoj
        have := hr' ed hed hb
        unfold add
        split
        · rfl
        · exact this
      · have hLj' : listed.getD j true = true := by simpa only [add, if_neg he] using hLj
        have := hc j oj hoj hLj' ed hed hb
        unfold add
        split
        · rfl
        · exact this

theorem regD_sound {ro : Option Nat} (hm : P.follows .mixedOrders = true) (hO : OrdOk ops xs) (hp : Parts P F.n ops xs) {e : Env} {m : Mem} {β : Ids} {ok : Nat → Prop} {a : Act} {w : World} {id : Nat} {K : Env → Mem → Prop} {Q : Exit → Act → World → Prop} (hb0 : F.b0 ≤ base)
    (hK : ∀ e m β ok a w, Sat0 F β ok e m a w → (∀ id, base + 8 * xs.length ≤ id → β id = none) → (∀ id, id < F.b0 → β id = F.β0 id) → K e m → Q .normal a w)
    (hs : Sat0 F β ok e m a w) (hf : ∀ id, base ≤ id → β id = none) (hst : ∀ id, id < F.b0 → β id = F.β0 id) (h : vopsD P base 0 [] xs e m K) : (Code.region id ops true).wpIn (wf ro) 0 P Q a w := by
  obtain ⟨es, ms, pv, D, f, hh, rfl, rfl, _, ht, hk⟩ := trace base K xs 0 [] e m h
  have h0 : ∀ id, base ≤ id → ms 0 id = none := fun id hid => by
    cases hh : ms 0 id with
    | none => rfl
    | some o =>
      obtain ⟨l, hl, _⟩ := hs.mem.objs id o hh
      rw [hf id hid] at hl; cases hl
  have hL0 : ∀ i, i < ops.size → (Array.replicate ops.size false).getD i true = false := fun i hi => by simp [Array.getD, hi]
  have hnoE : ∀ (L : Nat → Bool), (∀ i, i < xs.length → L i = false) → envL xs (es 0) pv L xs.length = es 0 := fun L hL => by
    funext t; exact envL_no _ fun j hj hLj => by rw [hL j hj] at hLj; cases hLj
  have hnoM : ∀ (L : Nat → Bool), (∀ i, i < xs.length → L i = false) → memL (ms 0) D f L xs.length = ms 0 := fun L hL => by
    funext id; exact memL_same xs.length 0 (Nat.zero_le _) fun j _ hj hLj => by rw [hL j hj] at hLj; cases hLj
  refine wpIn_region_any hm (any_sound hb0 hO hp ht h0 (fun L a w hL hI => ?_) ops.size _ a _ (by simp) ?_ ?_ ?_)
  · obtain ⟨β, ok, hs, hf1, _, hf3⟩ := hI
    have e1 : envL xs (es 0) pv L xs.length = es xs.length := by
      rw [es_eq ht _ (Nat.le_refl _)]
      funext t
      exact envL_agree _ fun j hj _ => hL j hj
    have e2 : memL (ms 0) D f L xs.length = ms xs.length := by
      rw [ms_eq ht _ (Nat.le_refl _)]
      funext id
      exact memL_agree _ fun j hj _ => hL j hj
    rw [e1, e2] at hs
    exact hK _ _ β ok a w hs hf1 hf3 hk
  · have : ∀ n (L : Nat → Bool), cnt L n ≤ n := fun n L => by
      induction n with
      | zero => exact Nat.le_refl _
      | succ n ih => simp only [cnt]; split <;> omega
    exact this _ _
  · intro i o ho hLi ed hed hb
    have hio : i < ops.size := by
      rcases Nat.lt_or_ge i ops.size with h | h
      · exact h
      · simp [Array.getElem?_eq_none h] at ho
    have h1 := hL0 i hio
    rw [show (Array.replicate ops.size false).getD i true = true from hLi] at h1; cases h1
  · refine ⟨β, ok, ?_, fun id hid => hf id (by omega), fun i hi _ id h1 _ => hf id (by omega), hst⟩
    rw [hnoE _ fun i hi => hL0 i (by rw [← hO.len]; exact hi), hnoM _ fun i hi => hL0 i (by rw [← hO.len]; exact hi)]
    exact hs.drew

end
end Go.Vx
