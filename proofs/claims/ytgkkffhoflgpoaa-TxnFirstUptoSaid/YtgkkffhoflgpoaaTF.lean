/- The manager with no memory in sight. -/
import Derived.Test.YtgkkffhoflgpoaaTE
set_option linter.unusedSimpArgs false
set_option linter.unusedVariables false
set_option maxRecDepth 4000
set_option maxHeartbeats 2000000
namespace Go.Vx
open Go Go.Proofs

/-- Clock, highest instant, who is open (since when, and which keys), and what is written when. -/
structure Ab where
  c : Int
  h : Int
  se : Nat → Option (Int × List Str)
  wr : Str → Option Int
def Ab.set (a : Ab) (i : Nat) (x : Option (Int × List Str)) : Nat → Option (Int × List Str) := fun j => if j = i then x else a.se j
def addK (ks : List Str) (k : Str) : List Str := if k ∈ ks then ks else ks ++ [k]
def In (z : Int) : Prop := 0 ≤ z ∧ z < 4
theorem In.ix {z : Int} (h : In z) : Ix z z.toNat := by unfold In at h; exact ⟨by omega, by omega⟩
theorem In.out {z : Int} (h : ¬ In z) : z < 0 ∨ 4 ≤ z := by unfold In at h; omega

def seF (a : Ab) (K : Nat → Nat) (i : Nat) : Se := match a.se i with | none => ⟨false, 0, .nilm⟩ | some x => ⟨true, x.1, .map (K i)⟩
def gOf (a : Ab) (K : Nat → Nat) (W : Nat) : Mg := ⟨a.c, a.h, seF a K 0, seF a K 1, seF a K 2, seF a K 3, .map W⟩
theorem gOf_get {a : Ab} {K : Nat → Nat} {W i : Nat} (hi : i < 4) : (gOf a K W).get i = seF a K i := by
  have : i = 0 ∨ i = 1 ∨ i = 2 ∨ i = 3 := by omega
  rcases this with rfl | rfl | rfl | rfl <;> rfl
theorem gOf_put {a a' : Ab} {K K' : Nat → Nat} {W i : Nat} {x : Se} (hi : i < 4) (hx : seF a' K' i = x) (ho : ∀ j, j ≠ i → seF a' K' j = seF a K j) : ({ gOf a K W with c := a'.c, h := a'.h } : Mg).put i x = gOf a' K' W := by
  have : i = 0 ∨ i = 1 ∨ i = 2 ∨ i = 3 := by omega
  rcases this with rfl | rfl | rfl | rfl
  · rw [gOf, gOf, hx, ho 1 (by omega), ho 2 (by omega), ho 3 (by omega)]; rfl
  · rw [gOf, gOf, hx, ho 0 (by omega), ho 2 (by omega), ho 3 (by omega)]; rfl
  · rw [gOf, gOf, hx, ho 0 (by omega), ho 1 (by omega), ho 3 (by omega)]; rfl
  · rw [gOf, gOf, hx, ho 0 (by omega), ho 1 (by omega), ho 2 (by omega)]; rfl

/-- How a manager lies in memory. -/
structure MRw (a : Ab) (M W : Nat) (K : Nat → Nat) (wl : List (Str × Int)) (m : Mem) (b : Nat) : Prop where
  hM : M < b
  hW : W < b
  hMW : M ≠ W
  m0 : m M = some (gOf a K W).box
  m1 : m W = some (.map (wmap wl))
  mw : sval wl = a.wr
  k : ∀ i, i < 4 → ∀ x, a.se i = some x → K i < b ∧ M ≠ K i ∧ W ≠ K i ∧ m (K i) = some (.map (kmap x.2))
  kk : ∀ i j, i < 4 → j < 4 → i ≠ j → a.se i ≠ none → a.se j ≠ none → K i ≠ K j
def MR (a : Ab) (M : Nat) (m : Mem) (b : Nat) : Prop := ∃ W K wl, MRw a M W K wl m b

theorem MRw.of {a : Ab} {M W : Nat} {K : Nat → Nat} {wl : List (Str × Int)} {m m' : Mem} {b b' : Nat} (h : MRw a M W K wl m b) (hm : ∀ id, id < b → m' id = m id) (hb : b ≤ b') : MRw a M W K wl m' b' :=
  ⟨Nat.lt_of_lt_of_le h.hM hb, Nat.lt_of_lt_of_le h.hW hb, h.hMW, by rw [hm _ h.hM]; exact h.m0, by rw [hm _ h.hW]; exact h.m1, h.mw, fun i hi x hx => by
    obtain ⟨h1, h2, h3, h4⟩ := h.k i hi x hx
    exact ⟨Nat.lt_of_lt_of_le h1 hb, h2, h3, by rw [hm _ h1]; exact h4⟩, h.kk⟩
theorem MR.of {a : Ab} {M : Nat} {m m' : Mem} {b b' : Nat} (h : MR a M m b) (hm : ∀ id, id < b → m' id = m id) (hb : b ≤ b') : MR a M m' b' := by
  obtain ⟨W, K, wl, h⟩ := h
  exact ⟨W, K, wl, h.of hm hb⟩
theorem MR.mono {a : Ab} {M : Nat} {m : Mem} {b b' : Nat} (h : MR a M m b) (hb : b ≤ b') : MR a M m b' := h.of (fun _ _ => rfl) hb
theorem MR.upd {a : Ab} {M : Nat} {m : Mem} {b b' id : Nat} {o : Option Obj} (h : MR a M m b) (hi : b ≤ id) (hb : b ≤ b') : MR a M (upd m id o) b' :=
  h.of (fun j hj => by simp only [Go.Vx.upd]; rw [if_neg (by omega)]) hb

theorem lt1s_map {W b : Nat} (h : W < b) : lt1s b (.map W) = true := by
  simp only [lt1s, PV.lt, lt1, Bool.and_eq_true, decide_eq_true_eq]
  exact ⟨rfl, h⟩
theorem seF_lt {a : Ab} {K : Nat → Nat} {b i : Nat} (h : ∀ x, a.se i = some x → K i < b) : lt1s b (seF a K i).k = true := by
  unfold seF
  cases hx : a.se i with
  | none => rfl
  | some x => exact lt1s_map (h x hx)
theorem MRw.ok {a : Ab} {M W : Nat} {K : Nat → Nat} {wl : List (Str × Int)} {m : Mem} {b : Nat} (h : MRw a M W K wl m b) : (gOf a K W).ok b :=
  ⟨seF_lt fun x hx => (h.k 0 (by omega) x hx).1, seF_lt fun x hx => (h.k 1 (by omega) x hx).1, seF_lt fun x hx => (h.k 2 (by omega) x hx).1, seF_lt fun x hx => (h.k 3 (by omega) x hx).1, lt1s_map h.hW⟩

/- What a deed does. -/
def Ab.beg (a : Ab) (i : Nat) : Ab := { a with h := max a.h a.c, se := a.set i (some (max a.h a.c, [])) }
def Ab.wri (a : Ab) (i : Nat) (s : Int) (ks : List Str) : Ab := { a with se := a.set i (some (s, ks)) }
def Ab.fin (a : Ab) (i : Nat) : Ab := { a with se := a.set i none }
def Ab.com (a : Ab) (i : Nat) (ks : List Str) (v : Int) : Ab := { a with h := v, se := a.set i none, wr := fun x => if x ∈ ks then some v else a.wr x }

def Beg (a : Ab) (z v e : Int) (a' : Ab) : Prop :=
  (¬ In z ∧ v = 0 ∧ e = 2 ∧ a' = a) ∨ (∃ x, In z ∧ a.se z.toNat = some x ∧ v = 0 ∧ e = 7 ∧ a' = a) ∨ (In z ∧ a.se z.toNat = none ∧ v = max a.h a.c ∧ e = 0 ∧ a' = a.beg z.toNat)
def Wri (a : Ab) (z : Int) (k : Str) (e : Int) (a' : Ab) : Prop :=
  (¬ In z ∧ e = 2 ∧ a' = a) ∨ (In z ∧ a.se z.toNat = none ∧ e = 7 ∧ a' = a) ∨ (∃ s ks, In z ∧ a.se z.toNat = some (s, ks) ∧ e = 0 ∧ a' = a.wri z.toNat s (addK ks k))
def Fin' (a : Ab) (z e : Int) (a' : Ab) : Prop :=
  (¬ In z ∧ e = 2 ∧ a' = a) ∨ (In z ∧ a.se z.toNat = none ∧ e = 7 ∧ a' = a) ∨ (∃ x, In z ∧ a.se z.toNat = some x ∧ e = 0 ∧ a' = a.fin z.toNat)
def Com (a : Ab) (z v e : Int) (a' : Ab) : Prop :=
  (¬ In z ∧ v = 0 ∧ e = 2 ∧ a' = a) ∨ (In z ∧ a.se z.toNat = none ∧ v = 0 ∧ e = 7 ∧ a' = a) ∨
  (∃ s ks, In z ∧ a.se z.toNat = some (s, ks) ∧ testF ks a.wr s a.h ≠ 0 ∧ v = 0 ∧ e = testF ks a.wr s a.h ∧ a' = a) ∨
  (∃ s ks, In z ∧ a.se z.toNat = some (s, ks) ∧ testF ks a.wr s a.h = 0 ∧ v = max (IntKind.i64.wrap (a.h + 1)) a.c ∧ e = 0 ∧ a' = a.com z.toNat ks v)
def opB (a : Ab) (z : Int) : Bool := if 0 ≤ z ∧ z < 4 then (a.se z.toNat).isSome else false
def sinF (a : Ab) (z : Int) : PV := if 0 ≤ z ∧ z < 4 then (match a.se z.toNat with | some x => .tup [iv x.1, .bool true] | none => .tup [iv 0, .bool false]) else .tup [iv 0, .bool false]
def Ab.opens (a : Ab) : List Int := ([0, 1, 2, 3].filterMap a.se).map (·.1)

theorem seF_none {a : Ab} {K : Nat → Nat} {i : Nat} (h : a.se i = none) : seF a K i = ⟨false, 0, .nilm⟩ := by simp [seF, h]
theorem seF_some {a : Ab} {K : Nat → Nat} {i : Nat} {x : Int × List Str} (h : a.se i = some x) : seF a K i = ⟨true, x.1, .map (K i)⟩ := by simp [seF, h]

theorem kmap_look (ks : List Str) (k : Str) : ∃ r, mget false [.str []] (.str k) (kmap ks) = some r ∧ mput (kmap ks) (.str k) (.bool true) r = kmap (addK ks k) := by
  have he : ∀ ks : List Str, kmap ks = mapE PV.str (fun _ : Unit => PV.bool true) (ks.map fun x => (x, ())) := fun ks => by simp [kmap, mapE]
  refine ⟨_, by rw [he]; exact mget_map MK.str k _, ?_⟩
  rw [he ks, mput_map (ev := fun _ : Unit => PV.bool true) k () (ks.map fun x => (x, ())), he]
  congr 1
  have hk := sput_keys (l := ks.map fun x => (x, ())) (k := k) (v := ())
  have hkk : ((ks.map fun x => (x, ())).map (·.1)) = ks := by simp [List.map_map, Function.comp_def]
  rw [hkk] at hk
  have : ∀ l : List (Str × Unit), l = (l.map (·.1)).map fun x => (x, ()) := fun l => by simp [List.map_map, Function.comp_def]
  rw [this (sput _ _ _), hk]
  by_cases h : k ∈ ks <;> simp [addK, h]

section
theorem cOne : One Try.prog := ⟨fun M b hM z i hi => V.code mixed k28 (by simp) (w_one M b hM z i hi), fun M b hM z hi => V.code mixed k28 (by simp) (w_oneR M b hM z hi), fun b z => V.code mixed k28 (by simp) (w_oneN b z)⟩
theorem ofL_at {M : Nat} {o : Obj} : ofL [(M, o)] M = some o := by simp [ofL, Mem.upds, upd]
theorem cOpened : Opened Try.prog := ⟨fun M b hM g z i hi hg => V.code mixed k29 (by simp) (w_opened cOne M b hM g z i hi hg _ rfl _ ofL_at), fun M b hM z hi => V.code mixed k29 (by simp) (w_openedR cOne M b hM z hi)⟩
theorem ofL_3 {M W K : Nat} {o p q : Obj} (h1 : M ≠ W) (h2 : M ≠ K) (h3 : W ≠ K) : ofL [(M, o), (W, p), (K, q)] M = some o ∧ ofL [(M, o), (W, p), (K, q)] W = some p ∧ ofL [(M, o), (W, p), (K, q)] K = some q := by
  refine ⟨?_, ?_, ?_⟩ <;> simp [ofL, Mem.upds, upd, h1, h2, h3, h1.symm, h2.symm, h3.symm]
theorem ofL_2 {M W : Nat} {o p : Obj} (h1 : M ≠ W) : ofL [(M, o), (W, p)] M = some o ∧ ofL [(M, o), (W, p)] W = some p := by
  refine ⟨?_, ?_⟩ <;> simp [ofL, Mem.upds, upd, h1, h1.symm]
theorem cTested : Tested Try.prog := ⟨fun M W K b hM hW hK g z i hi hg ho hgk hgw hMW hMK hWK ks wl => by
    obtain ⟨o1, o2, o3⟩ := ofL_3 (o := g.box) (p := .map (wmap wl)) (q := .map (kmap ks)) hMW hMK hWK
    exact V.code mixed k25 (by simp) (w_test1 cOpened M W K b hM hW hK g hg z i hi ho hgk hgw hWK ks (wmap wl) wmap_flat (sval wl) wmap_wr _ o1 o3 o2),
  fun M b hM g z i hi hg ho => V.code mixed k25 (by simp) (w_test0 cOpened M b hM g hg z i hi ho _ ofL_at), fun M b hM z hi => V.code mixed k25 (by simp) (w_testR cOpened M b hM z hi)⟩
end
end Go.Vx
