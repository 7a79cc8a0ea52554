/- The engine, part 1: pure values, and how they lie in memory. -/
import Derived.WalkKit
import Derived.Orders
set_option linter.unusedVariables false
set_option linter.unusedSimpArgs false
namespace Go.Vx
open Go Go.RowKit

/-- A pure value. -/
inductive PV where
  | bool (b : Bool)
  | int (k : IntKind) (n : Int)
  | str (s : List UInt8)
  | nilp | nilm | nilf
  | ptr (id k i j : Nat)
  | cptr (cs : List PV)
  | sl (xs : List (List PV))
  | osl (id n : Nat)
  | map (id : Nat)
  | fn (f : Nat) (caps : List PV)
  | agg (cs : List PV)
  | tup (vs : List PV)
instance : Inhabited PV := ⟨.nilp⟩

def PV.one : PV → Bool
  | .agg _ | .tup _ => false
  | _ => true

def PV.cells : PV → List PV
  | .agg cs => cs
  | p => [p]

/-- Where an object lies: nowhere (the nil slice), or in a block, with a capacity. -/
inductive Loc where
  | nil
  | at (b cap : Nat)

abbrev Ids := Nat → Option Loc
def noIds : Ids := fun _ => none

inductive Rep (w : World) (ok : Nat → Prop) : Ids → PV → Value → Prop
  | bool {β} (b) : Rep w ok β (.bool b) (.bool b)
  | int {β} (k n) : Rep w ok β (.int k n) (.int k n)
  | str {β} (s) : Rep w ok β (.str s) (.string ⟨s.toArray⟩)
  | nilp {β} : Rep w ok β .nilp (.pointer none)
  | nilm {β} : Rep w ok β .nilm (.map none)
  | nilf {β} : Rep w ok β .nilf .nilFunc
  | ptr {β} (id k i j b cap) (h : β id = some (.at b cap)) : Rep w ok β (.ptr id k i j) (.pointer (some ⟨b, i * k + j, none⟩))
  | cptr {β} (cs : List PV) (a : Addr) (f : Nat → Value) (hs : a.spot = none) (hok : ok a.block) (h1 : ∀ c ∈ cs, c.one = true)
      (hc : ∀ (j : Nat) c, cs[j]? = some c → w.cell? (a.add j) = some (f j)) (hr : ∀ (j : Nat) c, cs[j]? = some c → Rep w ok noIds c (f j)) :
      Rep w ok β (.cptr cs) (.pointer (some a))
  | sl0 {β} (a cap) (hcap : cap ≤ maxLen) : Rep w ok β (.sl []) (.slice a 0 cap)
  | sl {β} (k : Nat) (xs : List (List PV)) (a : Addr) (cap : Nat) (f : Nat → Value) (hne : xs ≠ []) (hl : xs.length ≤ cap) (hcap : cap ≤ maxLen)
      (hk : ∀ x ∈ xs, x.length = k) (hs : a.spot = none) (hok : ok a.block) (h1 : ∀ c ∈ xs.flatten, c.one = true)
      (hc : ∀ (j : Nat) c, xs.flatten[j]? = some c → w.cell? (a.add j) = some (f j)) (hr : ∀ (j : Nat) c, xs.flatten[j]? = some c → Rep w ok noIds c (f j)) :
      Rep w ok β (.sl xs) (.slice (some a) xs.length cap)
  | osl0 {β} (id) (h : β id = some .nil) : Rep w ok β (.osl id 0) (.slice none 0 0)
  | osl {β} (id n b cap) (h : β id = some (.at b cap)) (hn : n ≤ cap) : Rep w ok β (.osl id n) (.slice (some ⟨b, 0, none⟩) n cap)
  | map {β} (id b cap) (h : β id = some (.at b cap)) : Rep w ok β (.map id) (.map (some b))
  | fn {β} (f : Nat) (caps : List PV) (vs : List Value) (hl : vs.length = caps.length) (hr : ∀ (j : Nat) c v, caps[j]? = some c → vs[j]? = some v → Rep w ok β c v) :
      Rep w ok β (.fn f caps) (.func (.func f) #[] vs.toArray)
  | agg {β} (cs : List PV) (vs : List Value) (hl : vs.length = cs.length) (h1 : ∀ c ∈ cs, c.one = true) (hr : ∀ (j : Nat) c v, cs[j]? = some c → vs[j]? = some v → Rep w ok β c v) :
      Rep w ok β (.agg cs) (.agg vs.toArray)
  | tup {β} (cs : List PV) (vs : List Value) (hl : vs.length = cs.length) (hr : ∀ (j : Nat) c v, cs[j]? = some c → vs[j]? = some v → Rep w ok β c v) :
      Rep w ok β (.tup cs) (.tuple vs.toArray)

theorem add_block (a : Addr) (n : Nat) : (a.add n).block = a.block := by unfold Addr.add; split <;> rfl

theorem Rep.mono {w w' : World} {ok ok' : Nat → Prop} {β : Ids} {p : PV} {v : Value} (h : Rep w ok β p v)
    (hw : ∀ b, ok b → w'.heap[b]? = w.heap[b]?) (ho : ∀ b, ok b → ok' b) : ∀ β' : Ids, (∀ id x, β id = some x → β' id = some x) → Rep w' ok' β' p v := by
  induction h with
  | bool b => intro β' hb; exact .bool b
  | int k n => intro β' hb; exact .int k n
  | str s => intro β' hb; exact .str s
  | nilp => intro β' hb; exact .nilp
  | nilm => intro β' hb; exact .nilm
  | nilf => intro β' hb; exact .nilf
  | ptr id k i j b cap h => intro β' hb; exact .ptr id k i j b cap (hb _ _ h)
  | cptr cs a f hs hok h1 hc hr ih =>
    intro β' hb
    exact .cptr cs a f hs (ho _ hok) h1 (fun j c hj => by
      rw [World.cell?_of_block (w := w) (w' := w') (by rw [add_block]; exact hw _ hok)]; exact hc j c hj) (fun j c hj => ih j c hj _ (fun _ _ h => h))
  | sl0 a cap hcap => intro β' hb; exact .sl0 a cap hcap
  | sl k xs a cap f hne hl hcap hk hs hok h1 hc hr ih =>
    intro β' hb
    exact .sl k xs a cap f hne hl hcap hk hs (ho _ hok) h1 (fun j c hj => by
      rw [World.cell?_of_block (w := w) (w' := w') (by rw [add_block]; exact hw _ hok)]; exact hc j c hj) (fun j c hj => ih j c hj _ (fun _ _ h => h))
  | osl0 id h => intro β' hb; exact .osl0 id (hb _ _ h)
  | osl id n b cap h hn => intro β' hb; exact .osl id n b cap (hb _ _ h) hn
  | map id b cap h => intro β' hb; exact .map id b cap (hb _ _ h)
  | fn f caps vs hl hr ih => intro β' hb; exact .fn f caps vs hl (fun j c v h1 h2 => ih j c v h1 h2 _ hb)
  | agg cs vs hl h1 hr ih => intro β' hb; exact .agg cs vs hl h1 (fun j c v h1 h2 => ih j c v h1 h2 _ hb)
  | tup cs vs hl hr ih => intro β' hb; exact .tup cs vs hl (fun j c v h1 h2 => ih j c v h1 h2 _ hb)

/-- An object: a row of elements (the array behind a slice) with pure contents; a variable or struct with any contents; a map. -/
inductive Obj where
  | row (k : Nat) (xs : List (List PV)) (T : TypeId) (fz : Bool)
  | box (cs : List PV) (T : TypeId)
  | map (es : List (PV × PV))

abbrev Mem := Nat → Option Obj

def upd {α : Type} (f : Nat → Option α) (i : Nat) (x : Option α) : Nat → Option α := fun j => if j = i then x else f j
theorem upd_same {α : Type} (f : Nat → Option α) (i : Nat) (x : Option α) : upd f i x i = x := by simp [upd]
theorem upd_other {α : Type} (f : Nat → Option α) {i j : Nat} (x : Option α) (h : j ≠ i) : upd f i x j = f j := by simp [upd, h]
theorem upd_at {α : Type} (f : Nat → Option α) (i j : Nat) (x : Option α) : upd f i x j = if j = i then x else f j := rfl

def Obj.fz : Obj → Bool
  | .row _ _ _ fz => fz
  | _ => false

/-- How an object lies in memory. -/
def ORep (w : World) (ok : Nat → Prop) (β : Ids) : Loc → Obj → Prop
  | .nil, .row _ xs _ _ => xs = []
  | .at b cap, .row k xs T fz =>
    (∃ cur : Array Value, w.heap[b]? = some (.cells cur T (0, 0)) ∧ cur.size = cap * k ∧ xs.length ≤ cap ∧ cap ≤ maxLen ∧ (∀ x ∈ xs, x.length = k) ∧ (∀ c ∈ xs.flatten, c.one = true) ∧
      ∀ (j : Nat) c, xs.flatten[j]? = some c → ∃ v, cur[j]? = some v ∧ Rep w ok noIds c v) ∧ (fz = true → ok b) ∧ (fz = false → ¬ ok b)
  | .at b _, .box cs T =>
    (∃ cur : Array Value, w.heap[b]? = some (.cells cur T (0, 0)) ∧ cur.size = cs.length ∧ (∀ c ∈ cs, c.one = true) ∧
      ∀ (j : Nat) c, cs[j]? = some c → ∃ v, cur[j]? = some v ∧ Rep w ok β c v) ∧ ¬ ok b
  | .at b _, .map es =>
    (∃ (ents : Array MapEntry) (clock : Nat), w.heap[b]? = some (.map ents clock) ∧ ents.size = es.length ∧
      ∀ (j : Nat) e, es[j]? = some e → ∃ x, ents[j]? = some x ∧ Rep w ok noIds e.1 x.key ∧ Rep w ok noIds e.2 x.val ∧ x.born < clock) ∧ ¬ ok b
  | _, _ => False

/-- The blocks that live, unfrozen objects own. -/
def Owns (β : Ids) (m : Mem) (b : Nat) : Prop := ∃ id o cap, m id = some o ∧ o.fz = false ∧ β id = some (.at b cap)

structure MSat (w : World) (ok : Nat → Prop) (β : Ids) (m : Mem) : Prop where
  objs : ∀ id o, m id = some o → ∃ l, β id = some l ∧ ORep w ok β l o
  disj : ∀ id id' o o' b cap cap', m id = some o → m id' = some o' → β id = some (.at b cap) → β id' = some (.at b cap') → o.fz = false → o'.fz = false → id = id'

/-- What has not turned: all blocks of the world w0 but those of own0. -/
structure Keeps (w0 : World) (own0 : Nat → Prop) (w : World) : Prop where
  os : w.os = w0.os
  tape : w.tape = w0.tape
  output : w.output = w0.output
  size : w0.heap.size ≤ w.heap.size
  block : ∀ b, b < w0.heap.size → ¬ own0 b → w.heap[b]? = w0.heap[b]?
  drawn : w0.drawn ≤ w.drawn

theorem Keeps.refl (w : World) (own : Nat → Prop) : Keeps w own w := ⟨rfl, rfl, rfl, Nat.le_refl _, fun _ _ _ => rfl, Nat.le_refl _⟩

structure St where
  env : Nat → Option PV
  mem : Mem
  nxt : Nat

/-- The frame of a function's walk: the world and the memory that it found. -/
structure Fr where
  n : Nat
  w0 : World
  own0 : Nat → Prop
  ok0 : Nat → Prop
  b0 : Nat
  β0 : Ids

structure Sat0 (F : Fr) (β : Ids) (ok : Nat → Prop) (e : Nat → Option PV) (m : Mem) (a : Act) (w : World) : Prop where
  size : a.tmps.size = F.n
  defers : a.defers = []
  env : ∀ t p, e t = some p → ∃ v, a.tmps[t]? = some v ∧ Rep w ok β p v
  mem : MSat w ok β m
  okb : ∀ b, ok b → b < w.heap.size
  keeps : Keeps F.w0 F.own0 w
  own : ∀ b, Owns β m b → F.own0 b ∨ F.w0.heap.size ≤ b
  ok0 : ∀ b, F.ok0 b → ok b
  oks : ∀ b, ok b → F.ok0 b ∨ F.own0 b ∨ F.w0.heap.size ≤ b

theorem ORep.lt {w : World} {ok : Nat → Prop} {β : Ids} {b cap : Nat} {o : Obj} (h : ORep w ok β (.at b cap) o) : b < w.heap.size := by
  cases o with
  | row k xs T fz => obtain ⟨⟨cur, hc, _⟩, _⟩ := h; exact (Array.getElem?_eq_some_iff.1 hc).1
  | box cs T => obtain ⟨⟨cur, hc, _⟩, _⟩ := h; exact (Array.getElem?_eq_some_iff.1 hc).1
  | map es => obtain ⟨⟨cur, cl, hc, _⟩, _⟩ := h; exact (Array.getElem?_eq_some_iff.1 hc).1

theorem ORep.froz {w : World} {ok : Nat → Prop} {β : Ids} {b cap : Nat} {o : Obj} (h : ORep w ok β (.at b cap) o) (hf : o.fz = true) : ok b := by
  cases o with
  | row k xs T fz => exact h.2.1 hf
  | box cs T => cases hf
  | map es => cases hf

theorem ORep.not_ok {w : World} {ok : Nat → Prop} {β : Ids} {b cap : Nat} {o : Obj} (h : ORep w ok β (.at b cap) o) (hf : o.fz = false) : ¬ ok b := by
  cases o with
  | row k xs T fz => exact h.2.2 hf
  | box cs T => exact h.2
  | map es => exact h.2

theorem MSat.orep {w : World} {ok : Nat → Prop} {β : Ids} {m : Mem} (hm : MSat w ok β m) {id : Nat} {o : Obj} {l : Loc} (h : m id = some o) (hb : β id = some l) : ORep w ok β l o := by
  obtain ⟨l', hl, hr⟩ := hm.objs id o h
  rw [hb] at hl
  injection hl with hl
  subst hl
  exact hr

theorem MSat.disj' {w : World} {ok : Nat → Prop} {β : Ids} {m : Mem} (hm : MSat w ok β m) {id id' : Nat} {o o' : Obj} {b cap cap' : Nat} (h : m id = some o) (h' : m id' = some o') (hb : β id = some (.at b cap)) (hb' : β id' = some (.at b cap'))
    (hf : o'.fz = false) : id = id' := by
  cases hfo : o.fz with
  | false => exact hm.disj id id' o o' b cap cap' h h' hb hb' hfo hf
  | true => exact absurd ((hm.orep h hb).froz hfo) ((hm.orep h' hb').not_ok hf)

theorem ORep.mono {w w' : World} {ok ok' : Nat → Prop} {β β' : Ids} {l : Loc} {o : Obj} (h : ORep w ok β l o)
    (hw : ∀ b, ok b → w'.heap[b]? = w.heap[b]?) (ho : ∀ b, ok b → ok' b) (hβ : ∀ id x, β id = some x → β' id = some x)
    (hb : ∀ b cap, l = .at b cap → w'.heap[b]? = w.heap[b]? ∧ (ok' b → ok b)) : ORep w' ok' β' l o := by
  cases l with
  | nil => cases o <;> first | exact h | exact h.elim
  | «at» b cap =>
    obtain ⟨hbe, hbo⟩ := hb b cap rfl
    cases o with
    | row k xs T fz =>
      obtain ⟨⟨cur, h1, h2, h3, h4, h5, h6, h7⟩, h8, h9⟩ := h
      refine ⟨⟨cur, hbe.trans h1, h2, h3, h4, h5, h6, fun j c hj => ?_⟩, fun e => ho _ (h8 e), fun e k => h9 e (hbo k)⟩
      obtain ⟨v, hv, hr⟩ := h7 j c hj
      exact ⟨v, hv, hr.mono hw ho _ (fun _ _ h => h)⟩
    | box cs T =>
      obtain ⟨⟨cur, h1, h2, h3, h7⟩, h8⟩ := h
      refine ⟨⟨cur, hbe.trans h1, h2, h3, fun j c hj => ?_⟩, fun k => h8 (hbo k)⟩
      obtain ⟨v, hv, hr⟩ := h7 j c hj
      exact ⟨v, hv, hr.mono hw ho _ hβ⟩
    | map es =>
      obtain ⟨⟨cur, cl, h1, h2, h7⟩, h8⟩ := h
      refine ⟨⟨cur, cl, hbe.trans h1, h2, fun j c hj => ?_⟩, fun k => h8 (hbo k)⟩
      obtain ⟨x, hv, hr, hr2, hcl⟩ := h7 j c hj
      exact ⟨x, hv, hr.mono hw ho _ (fun _ _ h => h), hr2.mono hw ho _ (fun _ _ h => h), hcl⟩

end Go.Vx
