/- The engine, part 14: contracts, and calls by contract. -/
import Derived.Test.YtgkkffhoflgpoaaVm
set_option linter.unusedVariables false
set_option linter.unusedSimpArgs false
namespace Go.Vx
open Go Go.RowKit

def Reps (w : World) (ok : Nat → Prop) (β : Ids) (ps : List PV) (vs : List Value) : Prop :=
  vs.length = ps.length ∧ ∀ (j : Nat) p v, ps[j]? = some p → vs[j]? = some v → Rep w ok β p v

def mt : Mem := fun _ => none

def Enters (P : Program) (f : Nat) : Prop := ∀ args w, (callFunc f args).run P w = .ok (.enter f args) w

/-- What is called: a function; the body of a range over a function. -/
inductive Cal where
  | f (n : Nat)
  | y (L : Nat)

def EntersX (P : Program) : Cal → Prop
  | .f f => Enters P f
  | .y _ => True

/-- The body of a range over a function is called. -/
def CallsY (P : Program) (l : Nat) (args : Array Value) (w : World) (R : Ending → World → Prop) : Prop :=
  ∃ fn tmps ca cb, (Instr.yield l args).run P w = .ok (.round l fn tmps ca cb) w ∧ RoundIn Fence.wide 0 P l fn tmps ca cb w R

def Invokes (P : Program) (β : Ids) (X : Cal) (vs : List Value) (w : World) (R : Ending → World → Prop) : Prop :=
  match X with
  | .f f => Calls P f vs.toArray w R
  | .y L => ∃ l cap, β L = some (.at l cap) ∧ CallsY P l vs.toArray w R

theorem Invokes.mono {P : Program} {β β' : Ids} {X : Cal} {vs : List Value} {w : World} {R R' : Ending → World → Prop} (h : Invokes P β X vs w R) (hβ : ∀ id x, β id = some x → β' id = some x) (hr : ∀ e w', R e w' → R' e w') : Invokes P β' X vs w R' := by
  cases X with
  | f f => exact Calls.mono h hr
  | y L =>
    obtain ⟨l, cap, h1, fn, t, ca, cb, h2, h3⟩ := h
    exact ⟨l, cap, hβ _ _ h1, fn, t, ca, cb, h2, h3.mono hr⟩

/-- **A contract**: called with these arguments, over the objects m, what is called returns r, and leaves the objects m', so that K r m'; new objects take the numbers b .. b + 7. -/
def VX (P : Program) (X : Cal) (args : List PV) (m : Mem) (b : Nat) (K : PV → Mem → Prop) : Prop :=
  EntersX P X ∧ ∀ (w : World) (β : Ids) (ok : Nat → Prop) (vs : List Value), MSat w ok β m → (∀ id, b ≤ id → β id = none) → (∀ k, ok k → k < w.heap.size) → Reps w ok β args vs →
    Invokes P β X vs w fun e w' => ∃ (v : Value) (r : PV) (m' : Mem) (β' : Ids) (ok' : Nat → Prop), e = .returned v ∧ K r m' ∧ Rep w' ok' β' r v ∧ MSat w' ok' β' m' ∧ Keeps w (Owns β m) w' ∧
      (∀ id, id < b → β' id = β id) ∧ (∀ id, b + 8 ≤ id → β' id = none) ∧ (∀ k, ok k → ok' k) ∧ (∀ k, ok' k → k < w'.heap.size) ∧
      (∀ k, ok' k → ok k ∨ Owns β m k ∨ w.heap.size ≤ k) ∧ ∀ k, Owns β' m' k → Owns β m k ∨ w.heap.size ≤ k

/-- Just this. -/
def Just (r : PV) (m' : Mem) (q : PV) (M : Mem) : Prop := q = r ∧ M = m'
/-- A function's contract. -/
abbrev V (P : Program) (f : Nat) (args : List PV) (m : Mem) (b : Nat) (r : PV) (m' : Mem) : Prop := VX P (.f f) args m b (Just r m')
/-- A loop body's contract. -/
abbrev VL (P : Program) (L : Nat) (args : List PV) (m : Mem) (b : Nat) (r : PV) (m' : Mem) : Prop := VX P (.y L) args m b (Just r m')

theorem VX.mono {P : Program} {X : Cal} {args : List PV} {m : Mem} {b : Nat} {K K' : PV → Mem → Prop} (h : VX P X args m b K) (hk : ∀ r m, K r m → K' r m) : VX P X args m b K' :=
  ⟨h.1, fun w β ok vs h1 h2 h3 h4 => (h.2 w β ok vs h1 h2 h3 h4).mono (fun _ _ h => h) fun e w' ⟨v, r, m', β', ok', he, hK, rest⟩ => ⟨v, r, m', β', ok', he, hk _ _ hK, rest⟩⟩

def lt1 (b : Nat) : PV → Bool
  | .ptr id _ _ _ => decide (id < b)
  | .osl id _ => decide (id < b)
  | .map id => decide (id < b)
  | .yld id => decide (id < b)
  | .fn _ cs => cs.isEmpty
  | .agg _ | .tup _ => false
  | _ => true
def PV.lt (b : Nat) : PV → Bool
  | .agg cs | .tup cs | .fn _ cs => cs.all (lt1 b)
  | p => lt1 b p
def Obj.lt (b : Nat) : Obj → Bool
  | .box cs _ => cs.all (PV.lt b)
  | .map es => es.all fun e => e.2.lt b
  | .iter mid _ _ _ => mid.all fun id => decide (id < b)
  | .loop k _ _ => decide (k.top ≤ b)
  | .row .. => true

def PV.scalar : PV → Bool
  | .bool _ | .int _ _ | .str _ => true
  | .tup vs => vs.all fun | .bool _ | .int _ _ | .str _ => true | _ => false
  | _ => false

/-- An argument is handed on as it is, or as what stays. -/
def Arg (b : Nat) (mR : Mem) (p q : PV) : Prop := (q = p ∧ p.lt b = true) ∨ purA true mR p = some q
def Args (b : Nat) (mR : Mem) : List PV → List PV → Prop
  | [], [] => True
  | p :: ps, q :: qs => Arg b mR p q ∧ Args b mR ps qs
  | _, _ => False

def patch (m0 : Mem) (b : Nat) (m1 m : Mem) : Mem := fun id => if (m0 id).isSome = true ∨ (b ≤ id ∧ id < b + 8) then m1 id else m id

def Obj.freeze : Obj → Obj
  | .row k xs T _ => .row k xs T true
  | o => o
def frz (m : Mem) (l : List Nat) : Mem := fun id => if id ∈ l then (m id).map Obj.freeze else m id

/-- Memory out of a list of objects (of two of one number the last one holds). -/
def ofL (l : List (Nat × Obj)) : Mem := mt.upds (l.map fun x => (x.1, some x.2))
/-- What is there instead: the old objects are gone, the new ones are there. -/
def swap (l0 l1 : List (Nat × Obj)) : Delta := l0.map (fun x => (x.1, none)) ++ l1.map fun x => (x.1, some x.2)

/-- A call by contract. mR: the objects that the call may see; bar: may it change them? nd: may what comes out hang on what is drawn? -/
inductive VC (P : Program) (b : Nat) (X : Cal) (ps : List PV) (bar nd : Bool) (K : PV → Mem → Prop) : Mem → Mem → Prop
  | pure {mR m : Mem} (qs : List PV) (r : PV) (ha : Args b mR ps qs) (hv : VX P X qs mt b (Just r mt)) (hk : K r m) : VC P b X ps bar nd K mR m
  | new {mR m : Mem} (qs : List PV) (r : PV) (o : Obj) (ha : Args b mR ps qs) (hv : VX P X qs mt b (Just r (upd mt b (some o)))) (hk : K r (upd m b (some o))) : VC P b X ps bar nd K mR m
  | gen {mR m : Mem} (hb : bar = true) (qs : List PV) (m0 : Mem) (r : PV) (m1 : Mem) (ha : Args b mR ps qs) (h0 : ∀ id o, m0 id = some o → mR id = some o ∧ id < b ∧ o.lt b = true) (hv : VX P X qs m0 b (Just r m1)) (hk : K r (patch m0 b m1 m)) : VC P b X ps bar nd K mR m
  | own {mR m : Mem} (hb : bar = true) (qs : List PV) (id : Nat) (o o' : Obj) (r : PV) (ha : Args b mR ps qs) (h0 : mR id = some o) (h1 : id < b) (h2 : o.lt b = true) (hv : VX P X qs (upd mt id (some o)) b (Just r (upd mt id (some o')))) (hk : K r (upd m id (some o'))) : VC P b X ps bar nd K mR m
  | frz {mR m : Mem} (hb : bar = true) (l : List Nat) (hl : ∀ id, id ∈ l → ∃ o, mR id = some o ∧ m id = some o) (h : VC P b X ps bar nd K (frz mR l) (frz m l)) : VC P b X ps bar nd K mR m
  | ol {mR m : Mem} (hb : bar = true) (qs : List PV) (l0 l1 : List (Nat × Obj)) (r : PV) (ha : Args b mR ps qs) (h0 : ∀ x ∈ l0, mR x.1 = some x.2 ∧ x.1 < b ∧ x.2.lt b = true) (h1 : ∀ x ∈ l1, x.1 ∈ l0.map (·.1) ∨ (b ≤ x.1 ∧ x.1 < b + 8)) (hv : VX P X qs (ofL l0) b (Just r (ofL l1))) (hk : K r (m.upds (swap l0 l1))) : VC P b X ps bar nd K mR m
  | any {mR m : Mem} (hb : bar = true) (hn : nd = true) (qs : List PV) (m0 : Mem) (K0 : PV → Mem → Prop) (ha : Args b mR ps qs) (h0 : ∀ id o, m0 id = some o → mR id = some o ∧ id < b ∧ o.lt b = true) (hv : VX P X qs m0 b K0) (hk : ∀ r m1, K0 r m1 → K r (patch m0 b m1 m)) : VC P b X ps bar nd K mR m
abbrev VCall (P : Program) (b : Nat) (X : Cal) (ps : List PV) (mR m : Mem) (bar nd : Bool) (K : PV → Mem → Prop) : Prop := VC P b X ps bar nd K mR m

theorem upds_last (d : Delta) : ∀ (m : Mem) (id : Nat), (id ∉ d.map (·.1) ∧ m.upds d id = m id) ∨ ∃ o, (id, o) ∈ d ∧ ∀ m', Mem.upds m' d id = o := by
  induction d with
  | nil => intro m id; exact .inl ⟨by simp, rfl⟩
  | cons x d ih =>
    intro m id
    obtain ⟨i, o⟩ := x
    have e : ∀ m : Mem, m.upds ((i, o) :: d) = Mem.upds (upd m i o) d := fun _ => rfl
    rcases ih (upd m i o) id with ⟨h1, h2⟩ | ⟨o', h1, h2⟩
    · by_cases he : id = i
      · subst he
        refine .inr ⟨o, List.mem_cons_self, fun m' => ?_⟩
        rw [e]
        rcases ih (upd m' id o) id with ⟨_, h3⟩ | ⟨o', h3, _⟩
        · rw [h3, upd_same]
        · exact absurd (List.mem_map_of_mem (f := (·.1)) h3) h1
      · refine .inl ⟨by simp only [List.map_cons, List.mem_cons, not_or]; exact ⟨he, h1⟩, ?_⟩
        rw [e, h2, upd_other _ _ he]
    · exact .inr ⟨o', List.mem_cons_of_mem _ h1, fun m' => by rw [e]; exact h2 _⟩

theorem ofL_some {l : List (Nat × Obj)} {id : Nat} {o : Obj} (h : ofL l id = some o) : (id, o) ∈ l := by
  unfold ofL at h
  rcases upds_last (l.map fun x => (x.1, some x.2)) mt id with ⟨_, h2⟩ | ⟨o', h1, h2⟩
  · rw [h2] at h; cases h
  · rw [h2 mt] at h; subst h
    simp only [List.mem_map, Prod.mk.injEq, Option.some.injEq] at h1
    obtain ⟨x, hx, h3, h4⟩ := h1
    have : x = (id, o) := Prod.ext h3 h4
    exact this ▸ hx
theorem ofL_none {l : List (Nat × Obj)} {id : Nat} (h : ofL l id = none) : id ∉ l.map (·.1) := by
  unfold ofL at h
  rcases upds_last (l.map fun x => (x.1, some x.2)) mt id with ⟨h1, _⟩ | ⟨o', h1, h2⟩
  · simpa using h1
  · rw [h2 mt] at h; subst h
    simp at h1
theorem swap_upds {l0 l1 : List (Nat × Obj)} {m : Mem} {id : Nat} : m.upds (swap l0 l1) id = if id ∈ l1.map (·.1) then ofL l1 id else if id ∈ l0.map (·.1) then none else m id := by
  have e : m.upds (swap l0 l1) = Mem.upds (m.upds (l0.map fun x => (x.1, none))) (l1.map fun x => (x.1, some x.2)) := by simp [swap, Mem.upds, List.foldl_append]
  rw [e]
  rcases upds_last (l1.map fun x => (x.1, some x.2)) (m.upds (l0.map fun x => (x.1, none))) id with ⟨h1, h2⟩ | ⟨o, h1, h2⟩
  · have h1' : id ∉ l1.map (·.1) := by simpa using h1
    rw [if_neg h1', h2]
    rcases upds_last (l0.map fun x => (x.1, (none : Option Obj))) m id with ⟨h3, h4⟩ | ⟨o, h3, h4⟩
    · have h3' : id ∉ l0.map (·.1) := by simpa using h3
      rw [if_neg h3', h4]
    · have h3' : id ∈ l0.map (·.1) := by
        simp only [List.mem_map, Prod.mk.injEq] at h3
        obtain ⟨x, hx, h5, _⟩ := h3
        exact List.mem_map.2 ⟨x, hx, h5⟩
      have : o = none := by
        simp only [List.mem_map, Prod.mk.injEq] at h3
        obtain ⟨x, hx, _, h6⟩ := h3
        exact h6.symm
      rw [if_pos h3', h4 m, this]
  · have h1' : id ∈ l1.map (·.1) := by
      simp only [List.mem_map, Prod.mk.injEq] at h1
      obtain ⟨x, hx, h5, _⟩ := h1
      exact List.mem_map.2 ⟨x, hx, h5⟩
    rw [if_pos h1', h2]
    unfold ofL
    rw [h2]

section
variable {P : Program} {F : Fr} {β : Ids} {ok : Nat → Prop} {e : Nat → Option PV} {m : Mem} {a : Act} {w : World} {b : Nat} {o : Oper}

def cut (b : Nat) (β : Ids) : Ids := fun id => if id < b then β id else none

theorem Rep.cut1 {p : PV} {v : Value} (h : Rep w ok β p v) (hl : lt1 b p = true) : Rep w ok (cut b β) p v := by
  cases h with
  | bool b => exact .bool b
  | int k n => exact .int k n
  | str s => exact .str s
  | nilp => exact .nilp
  | nilm => exact .nilm
  | nilf => exact .nilf
  | ptr id k i j bl cap h => exact .ptr id k i j bl cap (by simp [lt1] at hl; simp [cut, hl, h])
  | cptr cs A f hs hok h1 hc hr => exact .cptr cs A f hs hok h1 hc hr
  | sl0 A cap h => exact .sl0 A cap h
  | sl k xs A cap f h1 h2 h3 h4 h5 h6 h7 h8 h9 => exact .sl k xs A cap f h1 h2 h3 h4 h5 h6 h7 h8 h9
  | osl0 id A h => exact .osl0 id A (by simp [lt1] at hl; simp [cut, hl, h])
  | yld id bl cap h => exact .yld id bl cap (by simp [lt1] at hl; simp [cut, hl, h])
  | nsl => exact .nsl
  | osl id n bl cap h hn => exact .osl id n bl cap (by simp [lt1] at hl; simp [cut, hl, h]) hn
  | map id bl cap h => exact .map id bl cap (by simp [lt1] at hl; simp [cut, hl, h])
  | fn f caps vs h1 hr =>
    simp [lt1] at hl
    subst hl
    exact .fn f [] vs h1 (by simp)
  | agg cs vs _ _ _ => simp [lt1] at hl
  | tup cs vs _ _ => simp [lt1] at hl

theorem Rep.cut {p : PV} {v : Value} (h : Rep w ok β p v) (hl : p.lt b = true) : Rep w ok (cut b β) p v := by
  have key : ∀ {cs : List PV} {vs : List Value}, (∀ (j : Nat) c v, cs[j]? = some c → vs[j]? = some v → Rep w ok β c v) → cs.all (lt1 b) = true → ∀ (j : Nat) c v, cs[j]? = some c → vs[j]? = some v → Rep w ok (Vx.cut b β) c v :=
    fun hr ha j c v hc hv => (hr j c v hc hv).cut1 (List.all_eq_true.1 ha c (List.mem_of_getElem? hc))
  cases h with
  | fn f caps vs h1 hr => exact .fn f caps vs h1 (key hr hl)
  | agg cs vs h1 h2 hr => exact .agg cs vs h1 h2 (key hr hl)
  | tup cs vs h1 hr => exact .tup cs vs h1 (key hr hl)
  | bool b => exact .bool b
  | int k n => exact .int k n
  | str s => exact .str s
  | nilp => exact .nilp
  | nilm => exact .nilm
  | nilf => exact .nilf
  | ptr id k i j bl cap h => exact (Rep.ptr id k i j bl cap h).cut1 hl
  | cptr cs A f hs hok h1 hc hr => exact .cptr cs A f hs hok h1 hc hr
  | sl0 A cap h => exact .sl0 A cap h
  | sl k xs A cap f h1 h2 h3 h4 h5 h6 h7 h8 h9 => exact .sl k xs A cap f h1 h2 h3 h4 h5 h6 h7 h8 h9
  | osl0 id A h => exact (Rep.osl0 id A h).cut1 hl
  | yld id bl cap h => exact (Rep.yld id bl cap h).cut1 hl
  | nsl => exact .nsl
  | osl id n bl cap h hn => exact (Rep.osl id n bl cap h hn).cut1 hl
  | map id bl cap h => exact (Rep.map id bl cap h).cut1 hl

theorem MSat.sub {m0 : Mem} (hm : MSat w ok β m) (h : ∀ id o, m0 id = some o → m id = some o) : MSat w ok β m0 :=
  ⟨fun id o ho => hm.objs id o (h id o ho), fun i1 i2 o1 o2 bb c1 c2 h1 h2 h3 h4 => hm.disj i1 i2 o1 o2 bb c1 c2 (h _ _ h1) (h _ _ h2) h3 h4⟩

theorem MSat.cut {m0 : Mem} (hm : MSat w ok β m0) (h : ∀ id o, m0 id = some o → id < b ∧ o.lt b = true) : MSat w ok (cut b β) m0 := by
  have hid : ∀ id o, m0 id = some o → Vx.cut b β id = β id := fun id o ho => by simp [Vx.cut, (h id o ho).1]
  refine ⟨fun id o ho => ?_, fun i1 i2 o1 o2 bb c1 c2 h1 h2 h3 h4 => ?_⟩
  · obtain ⟨l, hl, hr⟩ := hm.objs id o ho
    refine ⟨l, by rw [hid id o ho]; exact hl, ?_⟩
    have hlt := (h id o ho).2
    cases l with
    | nil => cases o <;> first | exact hr | exact hr.elim
    | «at» bl cap =>
      cases o with
      | row k xs T fz => exact hr
      | map es =>
        obtain ⟨⟨cur, g1, g2, g4⟩, g5⟩ := hr
        refine ⟨⟨cur, g1, g2, fun j c hj => ?_⟩, g5⟩
        obtain ⟨u, hu, hk, hru, hbn⟩ := g4 j c hj
        exact ⟨u, hu, hk, hru.cut (List.all_eq_true.1 hlt c (List.mem_of_getElem? hj)), hbn⟩
      | iter mid q seen last =>
        obtain ⟨⟨mo, g1, g2, g4⟩, g5⟩ := hr
        refine ⟨⟨mo, g1, ?_, g4⟩, g5⟩
        cases mid with
        | none => exact g2
        | some id2 =>
          obtain ⟨mb, cp, e1, e2⟩ := g2
          have hl2 : id2 < b := by simpa [Obj.lt] using hlt
          exact ⟨mb, cp, e1, by simp [Vx.cut, hl2, e2]⟩
      | loop k st pend =>
        obtain ⟨⟨tm, ca, cb, dl, g1, g2, g3, g4, g6, g7, g8, g9⟩, g5⟩ := hr
        have hl2 : k.top ≤ b := by simpa [Obj.lt] using hlt
        refine ⟨⟨tm, ca, cb, dl, g1, g2, g3, g4, g6, g7, fun id2 x hx => ?_, g9⟩, g5⟩
        have : id2 < b := by
          rcases Nat.lt_or_ge id2 k.top with h | h
          · omega
          · rw [g9 id2 h] at hx; cases hx
        simp [Vx.cut, this, g8 id2 x hx]
      | box cs T =>
        obtain ⟨⟨cur, g1, g2, g3, g4⟩, g5⟩ := hr
        refine ⟨⟨cur, g1, g2, g3, fun j c hj => ?_⟩, g5⟩
        obtain ⟨u, hu, hru⟩ := g4 j c hj
        exact ⟨u, hu, hru.cut (List.all_eq_true.1 hlt c (List.mem_of_getElem? hj))⟩
  · rw [hid _ _ h1] at h3
    rw [hid _ _ h2] at h4
    exact hm.disj i1 i2 o1 o2 bb c1 c2 h1 h2 h3 h4

theorem args_rep {mR : Mem} (hm : MSat w ok β mR) : ∀ {ps qs : List PV} {vs : List Value}, Args b mR ps qs → Reps w ok β ps vs → Reps w ok (cut b β) qs vs
  | [], [], vs, _, h => ⟨h.1, by simp⟩
  | p :: ps, q :: qs, [], _, h => by simp [Reps] at h
  | p :: ps, q :: qs, v :: vs, ⟨h1, h2⟩, h => by
    have hrest : Reps w ok β ps vs := ⟨by simpa using h.1, fun j c u hc hu => h.2 (j + 1) c u (by simpa using hc) (by simpa using hu)⟩
    obtain ⟨g1, g2⟩ := args_rep hm h2 hrest
    have h0 := h.2 0 p v rfl rfl
    refine ⟨by simp [g1], fun j c u hc hu => ?_⟩
    cases j with
    | zero =>
      simp at hc hu
      subst hc; subst hu
      rcases h1 with ⟨rfl, hl⟩ | hq
      · exact h0.cut hl
      · exact (purA_rep hm hq h0).1.any
    | succ j => exact g2 j c u (by simpa using hc) (by simpa using hu)
  | [], _ :: _, _, h, _ => h.elim
  | _ :: _, [], _, h, _ => h.elim

/-- What a call by contract leaves. -/
theorem v_apply (hs : Sat0 F β ok e m a w) (hf : ∀ id, b ≤ id → id < b + 8 → β id = none) {mR : Mem} (hR : ∀ id o, mR id = some o → m id = some o) {X : Cal} {ps qs : List PV} {vs : List Value} {m0 : Mem} {K0 : PV → Mem → Prop}
    (hr : Reps w ok β ps vs) (ha : Args b mR ps qs) (h0 : ∀ id o, m0 id = some o → mR id = some o ∧ id < b ∧ o.lt b = true) (hv : VX P X qs m0 b K0) :
    Invokes P β X vs w fun e' w' => ∃ v r m1 β' ok', e' = .returned v ∧ K0 r m1 ∧ Rep w' ok' β' r v ∧ Sat0 F β' ok' e (patch m0 b m1 m) a w' ∧ ∀ id, (id < b ∨ b + 8 ≤ id) → β' id = β id := by
  have hmR : MSat w ok β mR := hs.mem.sub hR
  have hm0 : ∀ id o, m0 id = some o → m id = some o := fun id o h => hR id o (h0 id o h).1
  have hm0s : MSat w ok (cut b β) m0 := (hs.mem.sub hm0).cut fun id o h => (h0 id o h).2
  refine (hv.2 w (cut b β) ok vs hm0s (fun id h => by simp [cut]; omega) hs.okb (args_rep hmR ha hr)).mono (fun id x h => by unfold Vx.cut at h; split at h; exact h; cases h) ?_
  rintro e' w' ⟨v, r, m1, β1, ok1, rfl, hk0, hrep, hms, hkeep, hb1, hb2, hok1, hok2, hok3, hown⟩
  have hcut : ∀ id, id < b → β1 id = β id := fun id h => by rw [hb1 id h]; simp [cut, h]
  have hOw : ∀ k, Owns (cut b β) m0 k → Owns β m k ∧ ∃ id o cap, m0 id = some o ∧ o.fz = false ∧ m id = some o ∧ β id = some (.at k cap) := by
    rintro k ⟨id, o, cap, h1, h2, h3⟩
    have : id < b := (h0 id o h1).2.1
    simp [cut, this] at h3
    exact ⟨⟨id, o, cap, hm0 _ _ h1, h2, h3⟩, id, o, cap, h1, h2, hm0 _ _ h1, h3⟩
  have hblk : ∀ k, k < w.heap.size → ¬ Owns (cut b β) m0 k → w'.heap[k]? = w.heap[k]? := hkeep.block
  have hokw : ∀ k, ok k → w'.heap[k]? = w.heap[k]? := fun k hk => hblk k (hs.okb k hk) fun h => hs.mem.not_ok (hOw k h).1 hk
  let β2 : Ids := fun id => if id < b + 8 then β1 id else β id
  have h12 : ∀ id x, β1 id = some x → β2 id = some x := fun id x h => by
    by_cases hl : id < b + 8
    · simp [β2, hl, h]
    · rw [hb2 id (by omega)] at h; cases h
  have h02 : ∀ id x, β id = some x → β2 id = some x := fun id x h => by
    by_cases hl : id < b
    · simp [β2, show id < b + 8 by omega, hcut id hl, h]
    · by_cases hl2 : id < b + 8
      · rw [hf id (by omega) hl2] at h; cases h
      · simp [β2, hl2, h]
  have hfar : ∀ id, (id < b ∨ b + 8 ≤ id) → β2 id = β id := fun id h => by
    rcases h with h | h
    · simp [β2, show id < b + 8 by omega, hcut id h]
    · simp [β2, show ¬ id < b + 8 by omega]
  -- an object that is not of the call's
  have hstay : ∀ id o bb cap, m id = some o → m0 id = none → β id = some (.at bb cap) → w'.heap[bb]? = w.heap[bb]? ∧ ¬ Owns (cut b β) m0 bb := fun id o bb cap h1 h2 h3 => by
    have : ¬ Owns (cut b β) m0 bb := fun hO => by
      obtain ⟨_, id2, o2, cap2, g1, g2, g3, g4⟩ := hOw bb hO
      have := hs.mem.disj' h1 g3 h3 g4 g2
      subst this
      rw [g1] at h2; cases h2
    exact ⟨hblk bb (hs.mem.lt h1 h3) this, this⟩
  have look : ∀ id o, patch m0 b m1 m id = some o → (m1 id = some o ∧ β2 id = β1 id) ∨ (m id = some o ∧ m0 id = none ∧ (id < b ∨ b + 8 ≤ id)) := fun id o h => by
    unfold patch at h
    split at h
    · rename_i hc
      refine .inl ⟨h, ?_⟩
      have : id < b + 8 := by
        rcases hc with hc | hc
        · obtain ⟨o', ho'⟩ := Option.isSome_iff_exists.1 hc
          have := (h0 id o' ho').2.1; omega
        · exact hc.2
      simp [β2, this]
    · rename_i hc
      have hn : m0 id = none := by
        cases hh : m0 id with
        | none => rfl
        | some x => exact absurd (.inl (by rw [hh]; rfl)) hc
      refine .inr ⟨h, hn, ?_⟩
      rcases Nat.lt_or_ge id b with h1 | h1
      · exact .inl h1
      · rcases Nat.lt_or_ge id (b + 8) with h2 | h2
        · exact absurd (.inr ⟨h1, h2⟩) hc
        · exact .inr h2
  have hownP : ∀ k, Owns β2 (patch m0 b m1 m) k → Owns β m k ∨ w.heap.size ≤ k := by
    rintro k ⟨id, o, cap, h1, h2, h3⟩
    rcases look id o h1 with ⟨g1, g2⟩ | ⟨g1, g2, g3⟩
    · rw [g2] at h3
      rcases hown k ⟨id, o, cap, g1, h2, h3⟩ with h | h
      · exact .inl (hOw k h).1
      · exact .inr h
    · rw [hfar _ g3] at h3
      exact .inl ⟨id, o, cap, g1, h2, h3⟩
  refine ⟨v, r, m1, β2, ok1, rfl, hk0, hrep.mono (fun _ _ => rfl) (fun _ h => h) _ h12, ?_, hfar⟩
  refine ⟨hs.size, hs.defers.step (Owns (Vx.cut b β) m0) (fun k hk hn => hblk k hk hn) (fun k _ hk => (hOw k hk).1) hownP (fun k hk => (hok3 k hk).imp (fun h => h) (fun h => h.imp (fun h => (hOw k h).1) (fun h => h))), fun t p ht => ?_, ⟨fun id o ho => ?_, fun i1 i2 o1 o2 bb c1 c2 h1 h2 h3 h4 f1 f2 => ?_⟩, hok2, ?_, fun k hk => ?_, fun k hk => hok1 k (hs.ok0 k hk), fun k hk => ?_⟩
  · obtain ⟨u, hu, hru⟩ := hs.env t p ht
    exact ⟨u, hu, hru.mono hokw hok1 _ h02⟩
  · rcases look id o ho with ⟨h1, h2⟩ | ⟨h1, h2, h3⟩
    · obtain ⟨l, hl, hlr⟩ := hms.objs id o h1
      exact ⟨l, h2.trans hl, hlr.mono (fun _ _ => rfl) (fun _ h => h) h12 fun _ _ _ => ⟨rfl, fun h => h⟩⟩
    · obtain ⟨l, hl, hlr⟩ := hs.mem.objs id o h1
      refine ⟨l, h02 _ _ hl, hlr.mono hokw hok1 h02 fun bb cap hll => ?_⟩
      subst hll
      obtain ⟨q1, q2⟩ := hstay id o bb cap h1 h2 hl
      refine ⟨q1, fun hk => ?_⟩
      rcases hok3 bb hk with h | h | h
      · exact h
      · exact absurd h q2
      · have := hs.mem.lt h1 hl; omega
  · have clash : ∀ i j o1 o2 c1 c2, m1 i = some o1 → β1 i = some (.at bb c1) → o1.fz = false → m j = some o2 → m0 j = none → β j = some (.at bb c2) → False := by
      intro i j o1 o2 c1 c2 g1 g2 g3 g4 g5 g6
      obtain ⟨q1, q2⟩ := hstay j o2 bb c2 g4 g5 g6
      rcases hown bb ⟨i, o1, c1, g1, g3, g2⟩ with h | h
      · exact q2 h
      · have := hs.mem.lt g4 g6; omega
    rcases look i1 o1 h1 with ⟨g1, g2⟩ | ⟨g1, g2, g3⟩ <;> rcases look i2 o2 h2 with ⟨k1, k2⟩ | ⟨k1, k2, k3⟩
    · rw [g2] at h3; rw [k2] at h4
      exact hms.disj i1 i2 o1 o2 bb c1 c2 g1 k1 h3 h4 f1 f2
    · rw [g2] at h3; rw [hfar _ k3] at h4
      exact (clash i1 i2 o1 o2 c1 c2 g1 h3 f1 k1 k2 h4).elim
    · rw [hfar _ g3] at h3; rw [k2] at h4
      exact (clash i2 i1 o2 o1 c2 c1 k1 h4 f2 g1 g2 h3).elim
    · rw [hfar _ g3] at h3; rw [hfar _ k3] at h4
      exact hs.mem.disj i1 i2 o1 o2 bb c1 c2 g1 k1 h3 h4 f1 f2
  · refine ⟨hkeep.os.trans hs.keeps.os, hkeep.tape.trans hs.keeps.tape, hkeep.output.trans hs.keeps.output, Nat.le_trans hs.keeps.size hkeep.size, fun k hk hn => ?_, Nat.le_trans hs.keeps.drawn hkeep.drawn⟩
    rw [hblk k (Nat.lt_of_lt_of_le hk hs.keeps.size) fun hO => ?_]
    · exact hs.keeps.block k hk hn
    · rcases hs.own k (hOw k hO).1 with h | h
      · exact hn h
      · omega
  · rcases hownP k hk with h | h
    · exact hs.own k h
    · exact .inr (Nat.le_trans hs.keeps.size h)
  · rcases hok3 k hk with h | h | h
    · exact hs.oks k h
    · rcases hs.own k (hOw k h).1 with h | h
      · exact .inr (.inl h)
      · exact .inr (.inr h)
    · exact .inr (.inr (Nat.le_trans hs.keeps.size h))

theorem Sat0.frz' {β : Ids} {ok : Nat → Prop} {a : Act} {w : World} (hs : Sat0 F β ok e m a w) (l : List Nat) : ∃ ok', Sat0 F β ok' e (frz m l) a w ∧ ∀ k, ok k → ok' k := by
  let ok' : Nat → Prop := fun k => ok k ∨ ∃ id kk xs T cap, id ∈ l ∧ m id = some (.row kk xs T false) ∧ β id = some (.at k cap)
  have hok : ∀ k, ok k → ok' k := fun k h => .inl h
  have lookup : ∀ id o, Vx.frz m l id = some o → m id = some o ∧ (id ∉ l ∨ o.fz = true ∨ ∀ k xs T fz, o ≠ .row k xs T fz) ∨ (id ∈ l ∧ ∃ k xs T, m id = some (.row k xs T false) ∧ o = .row k xs T true) := fun id o h => by
    unfold Vx.frz at h
    split at h
    · rename_i hm
      simp only [Option.map_eq_some_iff] at h
      obtain ⟨o', ho', rfl⟩ := h
      cases o' with
      | row k xs T fz =>
        cases fz with
        | true => exact .inl ⟨ho', .inr (.inl rfl)⟩
        | false => exact .inr ⟨hm, k, xs, T, ho', rfl⟩
      | box cs T => exact .inl ⟨ho', .inr (.inr (by simp [Obj.freeze]))⟩
      | map es => exact .inl ⟨ho', .inr (.inr (by simp [Obj.freeze]))⟩
      | iter => exact .inl ⟨ho', .inr (.inr (by simp [Obj.freeze]))⟩
      | loop => exact .inl ⟨ho', .inr (.inr (by simp [Obj.freeze]))⟩
    · rename_i hm
      exact .inl ⟨h, .inl hm⟩
  have hownF : ∀ k, Owns β (Vx.frz m l) k → Owns β m k := by
    rintro k ⟨id, o, cap, h1, h2, h3⟩
    rcases lookup id o h1 with ⟨g1, _⟩ | ⟨_, _, _, _, _, rfl⟩
    · exact ⟨id, o, cap, g1, h2, h3⟩
    · cases h2
  have hokF : ∀ k, ok' k → ok k ∨ Owns β m k := by
    rintro k (hk | ⟨id2, kk, xs2, T2, cap2, g1, g2, g3⟩)
    · exact .inl hk
    · exact .inr ⟨id2, _, cap2, g2, rfl, g3⟩
  refine ⟨ok', ⟨hs.size, hs.defers.step (fun _ => False) (fun _ _ _ => rfl) (fun _ _ h => h.elim) (fun k hk => .inl (hownF k hk)) (fun k hk => (hokF k hk).imp (fun h => h) .inl), fun t p ht => ?_, ⟨fun id o ho => ?_, fun i1 i2 o1 o2 bb c1 c2 h1 h2 h3 h4 f1 f2 => ?_⟩, fun k hk => ?_, hs.keeps, fun k hk => ?_, fun k hk => .inl (hs.ok0 k hk), fun k hk => ?_⟩, hok⟩
  · obtain ⟨v, hv, hr⟩ := hs.env t p ht
    exact ⟨v, hv, hr.mono (fun _ _ => rfl) hok _ (fun _ _ h => h)⟩
  · rcases lookup id o ho with ⟨h1, h2⟩ | ⟨hl, k, xs, T, h1, rfl⟩
    · obtain ⟨lc, hlc, hr⟩ := hs.mem.objs id o h1
      cases hfz : o.fz with
      | true =>
        refine ⟨lc, hlc, ?_⟩
        cases o with
        | row k xs T fz =>
          simp [Obj.fz] at hfz; subst hfz
          cases lc with
          | nil => exact hr
          | «at» b cap =>
            obtain ⟨⟨cur, g1, g2, g3, g4, g5, g6, g7⟩, g8, g9⟩ := hr
            exact ⟨⟨cur, g1, g2, g3, g4, g5, g6, fun j c hj => by obtain ⟨v, hv, hr⟩ := g7 j c hj; exact ⟨v, hv, hr.mono (fun _ _ => rfl) hok _ (fun _ _ h => h)⟩⟩, fun _ => .inl (g8 rfl), by simp⟩
        | box cs T => simp [Obj.fz] at hfz
        | map es => simp [Obj.fz] at hfz
        | iter => simp [Obj.fz] at hfz
        | loop => simp [Obj.fz] at hfz
      | false =>
        refine ⟨lc, hlc, hr.mono (fun _ _ => rfl) hok (fun _ _ h => h) fun bb cap hll => ⟨rfl, fun hk => ?_⟩⟩
        subst hll
        rcases hk with hk | ⟨id2, kk, xs2, T2, cap2, g1, g2, g3⟩
        · exact hk
        · exfalso
          have := hs.mem.disj' g2 h1 g3 hlc hfz
          subst this
          rw [h1] at g2; injection g2 with g2; subst g2
          rcases h2 with h2 | h2 | h2
          · exact h2 g1
          · rw [hfz] at h2; cases h2
          · exact h2 _ _ _ _ rfl
    · obtain ⟨lc, hlc, hr⟩ := hs.mem.objs id _ h1
      refine ⟨lc, hlc, ?_⟩
      cases lc with
      | nil => exact hr
      | «at» b cap =>
        obtain ⟨⟨cur, g1, g2, g3, g4, g5, g6, g7⟩, g8, g9⟩ := hr
        exact ⟨⟨cur, g1, g2, g3, g4, g5, g6, fun j c hj => by obtain ⟨v, hv, hr⟩ := g7 j c hj; exact ⟨v, hv, hr.mono (fun _ _ => rfl) hok _ (fun _ _ h => h)⟩⟩, fun _ => .inr ⟨id, k, xs, T, cap, hl, h1, hlc⟩, by simp⟩
  · rcases lookup i1 o1 h1 with ⟨g1, _⟩ | ⟨_, _, _, _, _, rfl⟩
    · rcases lookup i2 o2 h2 with ⟨g2, _⟩ | ⟨_, _, _, _, _, rfl⟩
      · exact hs.mem.disj i1 i2 o1 o2 bb c1 c2 g1 g2 h3 h4 f1 f2
      · cases f2
    · cases f1
  · rcases hk with hk | ⟨id2, kk, xs2, T2, cap2, g1, g2, g3⟩
    · exact hs.okb k hk
    · exact hs.mem.lt g2 g3
  · obtain ⟨id, o, cap, h1, h2, h3⟩ := hk
    rcases lookup id o h1 with ⟨g1, _⟩ | ⟨_, _, _, _, _, rfl⟩
    · exact hs.own k ⟨id, o, cap, g1, h2, h3⟩
    · cases h2
  · rcases hk with hk | ⟨id2, kk, xs2, T2, cap2, g1, g2, g3⟩
    · exact hs.oks k hk
    · exact (hs.own k ⟨id2, _, cap2, g2, rfl, g3⟩).elim (fun h => .inr (.inl h)) (fun h => .inr (.inr h))

theorem Sat0.congr (hs : Sat0 F β ok e m a w) {m' : Mem} (h : ∀ id, m' id = m id) : Sat0 F β ok e m' a w := by
  have : m' = m := funext h
  subst this
  exact hs

theorem call_sound (hs : Sat0 F β ok e m a w) (hf : ∀ id, b ≤ id → id < b + 8 → β id = none) {mR : Mem} {bar nd : Bool} (hR : ∀ id o, mR id = some o → m id = some o) {X : Cal} {ps : List PV} {vs : List Value} {K : PV → Mem → Prop}
    (hr : Reps w ok β ps vs) (h : VCall P b X ps mR m bar nd K) :
    EntersX P X ∧ Invokes P β X vs w fun e' w' => ∃ v p m' β' ok', e' = .returned v ∧ K p m' ∧ Rep w' ok' β' p v ∧ Sat0 F β' ok' e m' a w' ∧ ∀ id, (id < b ∨ b + 8 ≤ id) → β' id = β id := by
  have hfm : ∀ id, b ≤ id → id < b + 8 → m id = none := fun id h1 h2 => by
    cases hid : m id with
    | none => rfl
    | some ob =>
      obtain ⟨l, hl, _⟩ := hs.mem.objs id ob hid
      rw [hf id h1 h2] at hl; cases hl
  unfold VCall at h
  induction h generalizing ok with
  | @pure mR m qs r ha hv hk =>
    refine ⟨hv.1, (v_apply hs hf hR hr ha (m0 := mt) (by simp [mt]) hv).mono (fun _ _ h => h) ?_⟩
    rintro e' w' ⟨v, _, _, β', ok', rfl, ⟨rfl, rfl⟩, h1, h2, h3⟩
    refine ⟨v, _, m, β', ok', rfl, hk, h1, h2.congr fun id => ?_, h3⟩
    simp only [patch, mt, Option.isSome_none, Bool.false_eq_true, false_or]
    split
    · rename_i hc; exact hfm id hc.1 hc.2
    · rfl
  | @new mR m qs r ob ha hv hk =>
    refine ⟨hv.1, (v_apply hs hf hR hr ha (m0 := mt) (by simp [mt]) hv).mono (fun _ _ h => h) ?_⟩
    rintro e' w' ⟨v, _, _, β', ok', rfl, ⟨rfl, rfl⟩, h1, h2, h3⟩
    refine ⟨v, _, _, β', ok', rfl, hk, h1, h2.congr fun id => ?_, h3⟩
    simp only [patch, mt, Option.isSome_none, Bool.false_eq_true, false_or, upd]
    by_cases he : id = b
    · simp [he]
    · simp only [he, if_false]
      split
      · rename_i hc; exact hfm id hc.1 hc.2
      · rfl
  | @gen mR m hb qs m0 r m1 ha h0 hv hk =>
    refine ⟨hv.1, (v_apply hs hf hR hr ha h0 hv).mono (fun _ _ h => h) ?_⟩
    rintro e' w' ⟨v, _, _, β', ok', rfl, ⟨rfl, rfl⟩, h1, h2, h3⟩
    exact ⟨v, _, _, β', ok', rfl, hk, h1, h2, h3⟩
  | @own mR m hb qs id o o' r ha h0 h1 h2 hv hk =>
    have hm0 : ∀ i x, upd mt id (some o) i = some x → mR i = some x ∧ i < b ∧ x.lt b = true := fun i x hx => by
      by_cases he : i = id
      · subst he; simp [upd] at hx; subst hx; exact ⟨h0, h1, h2⟩
      · simp [upd, he, mt] at hx
    refine ⟨hv.1, (v_apply hs hf hR hr ha hm0 hv).mono (fun _ _ h => h) ?_⟩
    rintro e' w' ⟨v, _, _, β', ok', rfl, ⟨rfl, rfl⟩, g1, g2, g3⟩
    refine ⟨v, _, _, β', ok', rfl, hk, g1, g2.congr fun i => ?_, g3⟩
    by_cases he : i = id
    · subst he; simp [patch, upd]
    · simp only [patch, upd, he, if_false, mt, Option.isSome_none, Bool.false_eq_true, false_or]
      split
      · rename_i hc; exact hfm i hc.1 hc.2
      · rfl
  | @frz mR m hb l hl h ih =>
    obtain ⟨ok', hs', hok⟩ := hs.frz' l
    refine ih hs' (fun id o ho => ?_) ⟨hr.1, fun j p v hp hv => (hr.2 j p v hp hv).mono (fun _ _ => rfl) hok _ (fun _ _ h => h)⟩ (fun id h1 h2 => ?_)
    · unfold Vx.frz at ho ⊢
      split
      · rename_i hm
        simp only [hm, if_true, Option.map_eq_some_iff] at ho ⊢
        obtain ⟨o', h1, h2⟩ := ho
        exact ⟨o', hR _ _ h1, h2⟩
      · rename_i hm
        rw [if_neg hm] at ho
        exact hR _ _ ho
    · unfold Vx.frz
      rw [hfm id h1 h2]
      simp

  | @ol mR m hb qs l0 l1 r ha h0 h1 hv hk =>
    have hm0 : ∀ id o, ofL l0 id = some o → mR id = some o ∧ id < b ∧ o.lt b = true := fun id o h => h0 (id, o) (ofL_some h)
    refine ⟨hv.1, (v_apply hs hf hR hr ha hm0 hv).mono (fun _ _ h => h) ?_⟩
    rintro e' w' ⟨v, _, _, β', ok', rfl, ⟨rfl, rfl⟩, g1, g2, g3⟩
    refine ⟨v, _, _, β', ok', rfl, hk, g1, g2.congr fun id => ?_, g3⟩
    rw [swap_upds]
    unfold patch
    by_cases hl1 : id ∈ l1.map (·.1)
    · rw [if_pos hl1, if_pos]
      obtain ⟨x, hx, rfl⟩ := List.mem_map.1 hl1
      rcases h1 x hx with h | h
      · cases hz : ofL l0 x.1 with
        | none => exact absurd h (ofL_none hz)
        | some _ => exact .inl rfl
      · exact .inr h
    · rw [if_neg hl1]
      have hn1 : ofL l1 id = none := by
        cases hz : ofL l1 id with
        | none => rfl
        | some o => exact absurd (List.mem_map_of_mem (f := (·.1)) (ofL_some hz)) hl1
      by_cases hl0 : id ∈ l0.map (·.1)
      · rw [if_pos hl0, if_pos, hn1]
        cases hz : ofL l0 id with
        | none => exact absurd hl0 (ofL_none hz)
        | some _ => exact .inl rfl
      · rw [if_neg hl0]
        have hn0 : ofL l0 id = none := by
          cases hz : ofL l0 id with
          | none => rfl
          | some o => exact absurd (List.mem_map_of_mem (f := (·.1)) (ofL_some hz)) hl0
        split
        · rename_i hc
          rcases hc with hc | hc
          · rw [hn0] at hc; cases hc
          · rw [hn1, hfm id hc.1 hc.2]
        · rfl
  | @any mR m hb hn qs m0 K0 ha h0 hv hk =>
    refine ⟨hv.1, (v_apply hs hf hR hr ha h0 hv).mono (fun _ _ h => h) ?_⟩
    rintro e' w' ⟨v, r, m1, β', ok', rfl, hk0, h1, h2, h3⟩
    exact ⟨v, _, _, β', ok', rfl, hk r m1 hk0, h1, h2, h3⟩

end
end Go.Vx
