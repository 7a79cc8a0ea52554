/- The engine, part 1: pure values, and how they lie in memory. -/
import Derived.Test.YtgkkffhoflgpoaaV0
set_option linter.unusedVariables false
set_option linter.unusedSimpArgs false
namespace Go.Vx
open Go Go.RowKit

/-- Where an object lies: nowhere (the nil slice), or in a block, with a capacity. -/
inductive Loc where
  | nil
  | at (b cap : Nat)

abbrev Ids := Nat → Option Loc
def noIds : Ids := fun _ => none

inductive Rep (w : World) (ok : Nat → Prop) : Ids → PV → Value → Prop
  | bool {β} (b) : Rep w ok β (.bool b) (.bool b)
  | int {β} (k n) : Rep w ok β (.int k n) (.int k n)
  | str {β} (s) : Rep w ok β (.str s) (.string ⟨s.toArray⟩)
  | nilp {β} : Rep w ok β .nilp (.pointer none)
  | nilm {β} : Rep w ok β .nilm (.map none)
  | nilf {β} : Rep w ok β .nilf .nilFunc
  | ptr {β} (id k i j b cap) (h : β id = some (.at b cap)) : Rep w ok β (.ptr id k i j) (.pointer (some ⟨b, i * k + j, none⟩))
  | cptr {β} (cs : List PV) (a : Addr) (f : Nat → Value) (hs : a.spot = none) (hok : ok a.block) (h1 : ∀ c ∈ cs, c.one = true)
      (hc : ∀ (j : Nat) c, cs[j]? = some c → w.cell? (a.add j) = some (f j)) (hr : ∀ (j : Nat) c, cs[j]? = some c → Rep w ok noIds c (f j)) :
      Rep w ok β (.cptr cs) (.pointer (some a))
  | sl0 {β} (a cap) (hcap : cap ≤ maxLen) : Rep w ok β (.sl []) (.slice a 0 cap)
  | sl {β} (k : Nat) (xs : List (List PV)) (a : Addr) (cap : Nat) (f : Nat → Value) (hne : xs ≠ []) (hl : xs.length ≤ cap) (hcap : cap ≤ maxLen)
      (hk : ∀ x ∈ xs, x.length = k) (hs : a.spot = none) (hok : ok a.block) (h1 : ∀ c ∈ xs.flatten, c.one = true)
      (hc : ∀ (j : Nat) c, xs.flatten[j]? = some c → w.cell? (a.add j) = some (f j)) (hr : ∀ (j : Nat) c, xs.flatten[j]? = some c → Rep w ok noIds c (f j)) :
      Rep w ok β (.sl xs) (.slice (some a) xs.length cap)
  | osl0 {β} (id) (A) (h : β id = some .nil) : Rep w ok β (.osl id 0) (.slice A 0 0)
  | osl {β} (id n b cap) (h : β id = some (.at b cap)) (hn : n ≤ cap) : Rep w ok β (.osl id n) (.slice (some ⟨b, 0, none⟩) n cap)
  | map {β} (id b cap) (h : β id = some (.at b cap)) : Rep w ok β (.map id) (.map (some b))
  | yld {β} (id b cap) (h : β id = some (.at b cap)) : Rep w ok β (.yld id) (.func (.yield b) #[] #[])
  | nsl {β} : Rep w ok β .nsl (.slice none 0 0)
  | fn {β} (f : Nat) (caps : List PV) (vs : List Value) (hl : vs.length = caps.length) (hr : ∀ (j : Nat) c v, caps[j]? = some c → vs[j]? = some v → Rep w ok β c v) :
      Rep w ok β (.fn f caps) (.func (.func f) #[] vs.toArray)
  | agg {β} (cs : List PV) (vs : List Value) (hl : vs.length = cs.length) (h1 : ∀ c ∈ cs, c.one = true) (hr : ∀ (j : Nat) c v, cs[j]? = some c → vs[j]? = some v → Rep w ok β c v) :
      Rep w ok β (.agg cs) (.agg vs.toArray)
  | tup {β} (cs : List PV) (vs : List Value) (hl : vs.length = cs.length) (hr : ∀ (j : Nat) c v, cs[j]? = some c → vs[j]? = some v → Rep w ok β c v) :
      Rep w ok β (.tup cs) (.tuple vs.toArray)

theorem add_block (a : Addr) (n : Nat) : (a.add n).block = a.block := by unfold Addr.add; split <;> rfl

theorem Rep.mono {w w' : World} {ok ok' : Nat → Prop} {β : Ids} {p : PV} {v : Value} (h : Rep w ok β p v)
    (hw : ∀ b, ok b → w'.heap[b]? = w.heap[b]?) (ho : ∀ b, ok b → ok' b) : ∀ β' : Ids, (∀ id x, β id = some x → β' id = some x) → Rep w' ok' β' p v := by
  induction h with
  | bool b => intro β' hb; exact .bool b
  | int k n => intro β' hb; exact .int k n
  | str s => intro β' hb; exact .str s
  | nilp => intro β' hb; exact .nilp
  | nilm => intro β' hb; exact .nilm
  | nilf => intro β' hb; exact .nilf
  | ptr id k i j b cap h => intro β' hb; exact .ptr id k i j b cap (hb _ _ h)
  | cptr cs a f hs hok h1 hc hr ih =>
    intro β' hb
    exact .cptr cs a f hs (ho _ hok) h1 (fun j c hj => by
      rw [World.cell?_of_block (w := w) (w' := w') (by rw [add_block]; exact hw _ hok)]; exact hc j c hj) (fun j c hj => ih j c hj _ (fun _ _ h => h))
  | sl0 a cap hcap => intro β' hb; exact .sl0 a cap hcap
  | sl k xs a cap f hne hl hcap hk hs hok h1 hc hr ih =>
    intro β' hb
    exact .sl k xs a cap f hne hl hcap hk hs (ho _ hok) h1 (fun j c hj => by
      rw [World.cell?_of_block (w := w) (w' := w') (by rw [add_block]; exact hw _ hok)]; exact hc j c hj) (fun j c hj => ih j c hj _ (fun _ _ h => h))
  | osl0 id A h => intro β' hb; exact .osl0 id A (hb _ _ h)
  | yld id b cap h => intro β' hb; exact .yld id b cap (hb _ _ h)
  | nsl => intro β' hb; exact .nsl
  | osl id n b cap h hn => intro β' hb; exact .osl id n b cap (hb _ _ h) hn
  | map id b cap h => intro β' hb; exact .map id b cap (hb _ _ h)
  | fn f caps vs hl hr ih => intro β' hb; exact .fn f caps vs hl (fun j c v h1 h2 => ih j c v h1 h2 _ hb)
  | agg cs vs hl h1 hr ih => intro β' hb; exact .agg cs vs hl h1 (fun j c v h1 h2 => ih j c v h1 h2 _ hb)
  | tup cs vs hl hr ih => intro β' hb; exact .tup cs vs hl (fun j c v h1 h2 => ih j c v h1 h2 _ hb)

/-- A range over a function, as its rounds see it: the code, the slots at its head, where objects lay. -/
structure LoopKey where
  P : Program
  n : Nat
  e : Nat → Option PV
  ps : List Nat
  xa : XCode
  xb : XCode
  β0 : Ids
  top : Nat
  fn : Nat

/-- An object: a row of elements (the array behind a slice) with pure contents; a variable or struct with any contents; a map; where a range over a map stands; a range over a function. -/
inductive Obj where
  | row (k : Nat) (xs : List (List PV)) (T : TypeId) (fz : Bool)
  | box (cs : List PV) (T : TypeId)
  | map (es : List (PV × PV))
  | iter (mid : Option Nat) (n : Nat) (seen : List Nat) (last : Nat)
  | loop (k : LoopKey) (st : LoopState) (pend : Option (Option Nat))

abbrev Mem := Nat → Option Obj

def Obj.fz : Obj → Bool
  | .row _ _ _ fz => fz
  | _ => false

def jumpOf : Option (Option Nat) → Option Code
  | none => none
  | some none => some .ret
  | some (some i) => some (.exit i)

/-- How an object lies in memory. -/
def ORep (w : World) (ok : Nat → Prop) (β : Ids) : Loc → Obj → Prop
  | .nil, .row _ xs _ _ => xs = []
  | .at b cap, .row k xs T fz =>
    (∃ cur : Array Value, w.heap[b]? = some (.cells cur T (0, 0)) ∧ cur.size = cap * k ∧ xs.length ≤ cap ∧ cap ≤ maxLen ∧ (∀ x ∈ xs, x.length = k) ∧ (∀ c ∈ xs.flatten, c.one = true) ∧
      ∀ (j : Nat) c, xs.flatten[j]? = some c → ∃ v, cur[j]? = some v ∧ Rep w ok noIds c v) ∧ (fz = true → ok b) ∧ (fz = false → ¬ ok b)
  | .at b _, .box cs T =>
    (∃ cur : Array Value, w.heap[b]? = some (.cells cur T (0, 0)) ∧ cur.size = cs.length ∧ (∀ c ∈ cs, c.one = true) ∧
      ∀ (j : Nat) c, cs[j]? = some c → ∃ v, cur[j]? = some v ∧ Rep w ok β c v) ∧ ¬ ok b
  | .at b _, .map es =>
    (∃ ents : Array MapEntry, w.heap[b]? = some (.map ents es.length) ∧ ents.size = es.length ∧
      ∀ (j : Nat) e, es[j]? = some e → ∃ x, ents[j]? = some x ∧ Rep w ok noIds e.1 x.key ∧ Rep w ok β e.2 x.val ∧ x.born = j) ∧ ¬ ok b
  | .at b _, .iter mid n seen last =>
    (∃ mo, w.heap[b]? = some (.mapIter mo n seen.toArray last) ∧ (match mid with
      | none => mo = none
      | some id => ∃ mb cap, mo = some mb ∧ β id = some (.at mb cap)) ∧ (seen ≠ [] → 0 < last)) ∧ ¬ ok b
  | .at b _, .loop k st pend =>
    (∃ tmps ca cb dl, w.heap[b]? = some (.loop { state := st, pending := jumpOf pend, fn := k.fn, tmps := tmps, params := k.ps.toArray, assign := ca, body := cb, defers := dl }) ∧
      tmps.size = k.n ∧ (∀ t p, k.e t = some p → ∃ v, tmps[t]? = some v ∧ Rep w ok k.β0 p v) ∧ compC k.P k.n ca = some k.xa ∧ compC k.P k.n cb = some k.xb ∧
      (∀ t ∈ k.ps, t < k.n) ∧ (∀ id x, k.β0 id = some x → β id = some x) ∧ ∀ id, k.top ≤ id → k.β0 id = none) ∧ ¬ ok b
  | _, _ => False

/-- The blocks that live, unfrozen objects own. -/
def Owns (β : Ids) (m : Mem) (b : Nat) : Prop := ∃ id o cap, m id = some o ∧ o.fz = false ∧ β id = some (.at b cap)

structure MSat (w : World) (ok : Nat → Prop) (β : Ids) (m : Mem) : Prop where
  objs : ∀ id o, m id = some o → ∃ l, β id = some l ∧ ORep w ok β l o
  disj : ∀ id id' o o' b cap cap', m id = some o → m id' = some o' → β id = some (.at b cap) → β id' = some (.at b cap') → o.fz = false → o'.fz = false → id = id'

/-- What has not turned: all blocks of the world w0 but those of own0. -/
structure Keeps (w0 : World) (own0 : Nat → Prop) (w : World) : Prop where
  os : w.os = w0.os
  tape : w.tape = w0.tape
  output : w.output = w0.output
  size : w0.heap.size ≤ w.heap.size
  block : ∀ b, b < w0.heap.size → ¬ own0 b → w.heap[b]? = w0.heap[b]?
  drawn : w0.drawn ≤ w.drawn

theorem Keeps.refl (w : World) (own : Nat → Prop) : Keeps w own w := ⟨rfl, rfl, rfl, Nat.le_refl _, fun _ _ _ => rfl, Nat.le_refl _⟩

structure St where
  env : Nat → Option PV
  mem : Mem
  nxt : Nat

/-- The frame of a function's walk: the world and the memory that it found. -/
structure Fr where
  n : Nat
  w0 : World
  own0 : Nat → Prop
  ok0 : Nat → Prop
  b0 : Nat
  β0 : Ids

/-- What is deferred: marks of ranges over functions, each with an empty block of its own. -/
structure Marks (F : Fr) (β : Ids) (ok : Nat → Prop) (m : Mem) (ds : List Deferred) (w : World) : Prop where
  each : ∀ d ∈ ds, ∃ D, d.target = .collected D ∧ w.heap[D]? = some (.deferred (some [])) ∧ F.w0.heap.size ≤ D ∧ ¬ ok D ∧ ¬ Owns β m D
  apart : ds.Pairwise fun d d' => d.target ≠ d'.target

theorem Marks.nil {F : Fr} {β : Ids} {ok : Nat → Prop} {m : Mem} {w : World} : Marks F β ok m [] w := ⟨by simp, .nil⟩

structure Sat0 (F : Fr) (β : Ids) (ok : Nat → Prop) (e : Nat → Option PV) (m : Mem) (a : Act) (w : World) : Prop where
  size : a.tmps.size = F.n
  defers : Marks F β ok m a.defers w
  env : ∀ t p, e t = some p → ∃ v, a.tmps[t]? = some v ∧ Rep w ok β p v
  mem : MSat w ok β m
  okb : ∀ b, ok b → b < w.heap.size
  keeps : Keeps F.w0 F.own0 w
  own : ∀ b, Owns β m b → F.own0 b ∨ F.w0.heap.size ≤ b
  ok0 : ∀ b, F.ok0 b → ok b
  oks : ∀ b, ok b → F.ok0 b ∨ F.own0 b ∨ F.w0.heap.size ≤ b

theorem ORep.lt {w : World} {ok : Nat → Prop} {β : Ids} {b cap : Nat} {o : Obj} (h : ORep w ok β (.at b cap) o) : b < w.heap.size := by
  cases o with
  | row k xs T fz => obtain ⟨⟨cur, hc, _⟩, _⟩ := h; exact (Array.getElem?_eq_some_iff.1 hc).1
  | box cs T => obtain ⟨⟨cur, hc, _⟩, _⟩ := h; exact (Array.getElem?_eq_some_iff.1 hc).1
  | map es => obtain ⟨⟨cur, hc, _⟩, _⟩ := h; exact (Array.getElem?_eq_some_iff.1 hc).1
  | iter mid n seen last => obtain ⟨⟨cur, hc, _⟩, _⟩ := h; exact (Array.getElem?_eq_some_iff.1 hc).1
  | loop k st pend => obtain ⟨⟨t, ca, cb, dl, hc, _⟩, _⟩ := h; exact (Array.getElem?_eq_some_iff.1 hc).1

theorem ORep.froz {w : World} {ok : Nat → Prop} {β : Ids} {b cap : Nat} {o : Obj} (h : ORep w ok β (.at b cap) o) (hf : o.fz = true) : ok b := by
  cases o with
  | row k xs T fz => exact h.2.1 hf
  | _ => cases hf

theorem ORep.not_ok {w : World} {ok : Nat → Prop} {β : Ids} {b cap : Nat} {o : Obj} (h : ORep w ok β (.at b cap) o) (hf : o.fz = false) : ¬ ok b := by
  cases o with
  | row k xs T fz => exact h.2.2 hf
  | _ => exact h.2

theorem MSat.orep {w : World} {ok : Nat → Prop} {β : Ids} {m : Mem} (hm : MSat w ok β m) {id : Nat} {o : Obj} {l : Loc} (h : m id = some o) (hb : β id = some l) : ORep w ok β l o := by
  obtain ⟨l', hl, hr⟩ := hm.objs id o h
  rw [hb] at hl
  injection hl with hl
  subst hl
  exact hr

theorem MSat.disj' {w : World} {ok : Nat → Prop} {β : Ids} {m : Mem} (hm : MSat w ok β m) {id id' : Nat} {o o' : Obj} {b cap cap' : Nat} (h : m id = some o) (h' : m id' = some o') (hb : β id = some (.at b cap)) (hb' : β id' = some (.at b cap'))
    (hf : o'.fz = false) : id = id' := by
  cases hfo : o.fz with
  | false => exact hm.disj id id' o o' b cap cap' h h' hb hb' hfo hf
  | true => exact absurd ((hm.orep h hb).froz hfo) ((hm.orep h' hb').not_ok hf)

theorem ORep.mono {w w' : World} {ok ok' : Nat → Prop} {β β' : Ids} {l : Loc} {o : Obj} (h : ORep w ok β l o)
    (hw : ∀ b, ok b → w'.heap[b]? = w.heap[b]?) (ho : ∀ b, ok b → ok' b) (hβ : ∀ id x, β id = some x → β' id = some x)
    (hb : ∀ b cap, l = .at b cap → w'.heap[b]? = w.heap[b]? ∧ (ok' b → ok b)) : ORep w' ok' β' l o := by
  cases l with
  | nil => cases o <;> first | exact h | exact h.elim
  | «at» b cap =>
    obtain ⟨hbe, hbo⟩ := hb b cap rfl
    cases o with
    | row k xs T fz =>
      obtain ⟨⟨cur, h1, h2, h3, h4, h5, h6, h7⟩, h8, h9⟩ := h
      refine ⟨⟨cur, hbe.trans h1, h2, h3, h4, h5, h6, fun j c hj => ?_⟩, fun e => ho _ (h8 e), fun e k => h9 e (hbo k)⟩
      obtain ⟨v, hv, hr⟩ := h7 j c hj
      exact ⟨v, hv, hr.mono hw ho _ (fun _ _ h => h)⟩
    | box cs T =>
      obtain ⟨⟨cur, h1, h2, h3, h7⟩, h8⟩ := h
      refine ⟨⟨cur, hbe.trans h1, h2, h3, fun j c hj => ?_⟩, fun k => h8 (hbo k)⟩
      obtain ⟨v, hv, hr⟩ := h7 j c hj
      exact ⟨v, hv, hr.mono hw ho _ hβ⟩
    | map es =>
      obtain ⟨⟨cur, h1, h2, h7⟩, h8⟩ := h
      refine ⟨⟨cur, hbe.trans h1, h2, fun j c hj => ?_⟩, fun k => h8 (hbo k)⟩
      obtain ⟨x, hv, hr, hr2, hcl⟩ := h7 j c hj
      exact ⟨x, hv, hr.mono hw ho _ (fun _ _ h => h), hr2.mono hw ho _ hβ, hcl⟩
    | iter mid n seen last =>
      obtain ⟨⟨mo, h1, h2, h3⟩, h8⟩ := h
      refine ⟨⟨mo, hbe.trans h1, ?_, h3⟩, fun k => h8 (hbo k)⟩
      cases mid with
      | none => exact h2
      | some id => obtain ⟨mb, cap, g1, g2⟩ := h2; exact ⟨mb, cap, g1, hβ _ _ g2⟩
    | loop k st pend =>
      obtain ⟨⟨tm, ca, cb, dl, h1, h2, h3, h4, h5, h6, h7, h9⟩, h8⟩ := h
      refine ⟨⟨tm, ca, cb, dl, hbe.trans h1, h2, fun t p ht => ?_, h4, h5, h6, fun id x hx => hβ _ _ (h7 id x hx), h9⟩, fun k => h8 (hbo k)⟩
      obtain ⟨v, hv, hr⟩ := h3 t p ht
      exact ⟨v, hv, hr.mono hw ho _ (fun _ _ h => h)⟩

end Go.Vx
