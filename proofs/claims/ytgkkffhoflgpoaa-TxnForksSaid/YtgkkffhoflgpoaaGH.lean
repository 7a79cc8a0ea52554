/- The manager with no memory in sight. -/
import Derived.Test.YtgkkffhoflgpoaaGG
import Derived.Test.YtgkkffhoflgpoaaRows
import Derived.Test.YtgkkffhoflgpoaaGD
set_option linter.unusedSimpArgs false
set_option linter.unusedVariables false
set_option maxRecDepth 4000
set_option maxHeartbeats 2000000
namespace Go.Vx
open Go Go.Proofs

/-- Clock, highest instant, who is open (since when, and which keys), and what is written when. -/
structure Ab where
  c : Int
  h : Int
  se : Nat → Option (Int × List Str)
  wr : Str → Option Int
def Ab.set (a : Ab) (i : Nat) (x : Option (Int × List Str)) : Nat → Option (Int × List Str) := fun j => if j = i then x else a.se j
def addK (ks : List Str) (k : Str) : List Str := if k ∈ ks then ks else ks ++ [k]
def In (z : Int) : Prop := 0 ≤ z ∧ z < 4
theorem In.ix {z : Int} (h : In z) : Ix z z.toNat := by unfold In at h; exact ⟨by omega, by omega⟩
theorem In.out {z : Int} (h : ¬ In z) : z < 0 ∨ 4 ≤ z := by unfold In at h; omega

def seF (a : Ab) (K : Nat → Nat) (i : Nat) : Se := match a.se i with | none => ⟨false, 0, .nilm⟩ | some x => ⟨true, x.1, .map (K i)⟩
def gOf (a : Ab) (K : Nat → Nat) (W : Nat) : Mg := ⟨a.c, a.h, seF a K 0, seF a K 1, seF a K 2, seF a K 3, .map W⟩
theorem gOf_get {a : Ab} {K : Nat → Nat} {W i : Nat} (hi : i < 4) : (gOf a K W).get i = seF a K i := by
  have : i = 0 ∨ i = 1 ∨ i = 2 ∨ i = 3 := by omega
  rcases this with rfl | rfl | rfl | rfl <;> rfl
theorem gOf_put {a a' : Ab} {K K' : Nat → Nat} {W i : Nat} {x : Se} (hi : i < 4) (hx : seF a' K' i = x) (ho : ∀ j, j ≠ i → seF a' K' j = seF a K j) : ({ gOf a K W with c := a'.c, h := a'.h } : Mg).put i x = gOf a' K' W := by
  have : i = 0 ∨ i = 1 ∨ i = 2 ∨ i = 3 := by omega
  rcases this with rfl | rfl | rfl | rfl
  · rw [gOf, gOf, hx, ho 1 (by omega), ho 2 (by omega), ho 3 (by omega)]; rfl
  · rw [gOf, gOf, hx, ho 0 (by omega), ho 2 (by omega), ho 3 (by omega)]; rfl
  · rw [gOf, gOf, hx, ho 0 (by omega), ho 1 (by omega), ho 3 (by omega)]; rfl
  · rw [gOf, gOf, hx, ho 0 (by omega), ho 1 (by omega), ho 2 (by omega)]; rfl

/-- How a manager lies in memory. -/
structure MRw (a : Ab) (M W : Nat) (K : Nat → Nat) (wl : List (Str × Int)) (m : Mem) (b : Nat) : Prop where
  hM : M < b
  hW : W < b
  hMW : M ≠ W
  m0 : m M = some (gOf a K W).box
  m1 : m W = some (.map (wmap wl))
  mw : sval wl = a.wr
  k : ∀ i, i < 4 → ∀ x, a.se i = some x → K i < b ∧ M ≠ K i ∧ W ≠ K i ∧ m (K i) = some (.map (kmap x.2))
  kk : ∀ i j, i < 4 → j < 4 → i ≠ j → a.se i ≠ none → a.se j ≠ none → K i ≠ K j
def MR (a : Ab) (M : Nat) (m : Mem) (b : Nat) : Prop := ∃ W K wl, MRw a M W K wl m b

theorem MRw.of {a : Ab} {M W : Nat} {K : Nat → Nat} {wl : List (Str × Int)} {m m' : Mem} {b b' : Nat} (h : MRw a M W K wl m b) (hm : ∀ id, id < b → m' id = m id) (hb : b ≤ b') : MRw a M W K wl m' b' :=
  ⟨Nat.lt_of_lt_of_le h.hM hb, Nat.lt_of_lt_of_le h.hW hb, h.hMW, by rw [hm _ h.hM]; exact h.m0, by rw [hm _ h.hW]; exact h.m1, h.mw, fun i hi x hx => by
    obtain ⟨h1, h2, h3, h4⟩ := h.k i hi x hx
    exact ⟨Nat.lt_of_lt_of_le h1 hb, h2, h3, by rw [hm _ h1]; exact h4⟩, h.kk⟩
theorem MR.of {a : Ab} {M : Nat} {m m' : Mem} {b b' : Nat} (h : MR a M m b) (hm : ∀ id, id < b → m' id = m id) (hb : b ≤ b') : MR a M m' b' := by
  obtain ⟨W, K, wl, h⟩ := h
  exact ⟨W, K, wl, h.of hm hb⟩
theorem MR.mono {a : Ab} {M : Nat} {m : Mem} {b b' : Nat} (h : MR a M m b) (hb : b ≤ b') : MR a M m b' := h.of (fun _ _ => rfl) hb
theorem MR.upd {a : Ab} {M : Nat} {m : Mem} {b b' id : Nat} {o : Option Obj} (h : MR a M m b) (hi : b ≤ id) (hb : b ≤ b') : MR a M (upd m id o) b' :=
  h.of (fun j hj => by simp only [Go.Vx.upd]; rw [if_neg (by omega)]) hb

theorem lt1s_map {W b : Nat} (h : W < b) : lt1s b (.map W) = true := by
  simp only [lt1s, PV.lt, lt1, Bool.and_eq_true, decide_eq_true_eq]
  exact ⟨rfl, h⟩
theorem seF_lt {a : Ab} {K : Nat → Nat} {b i : Nat} (h : ∀ x, a.se i = some x → K i < b) : lt1s b (seF a K i).k = true := by
  unfold seF
  cases hx : a.se i with
  | none => rfl
  | some x => exact lt1s_map (h x hx)
theorem MRw.ok {a : Ab} {M W : Nat} {K : Nat → Nat} {wl : List (Str × Int)} {m : Mem} {b : Nat} (h : MRw a M W K wl m b) : (gOf a K W).ok b :=
  ⟨seF_lt fun x hx => (h.k 0 (by omega) x hx).1, seF_lt fun x hx => (h.k 1 (by omega) x hx).1, seF_lt fun x hx => (h.k 2 (by omega) x hx).1, seF_lt fun x hx => (h.k 3 (by omega) x hx).1, lt1s_map h.hW⟩

/- What a deed does. -/
def Ab.beg (a : Ab) (i : Nat) : Ab := { a with h := max a.h a.c, se := a.set i (some (max a.h a.c, [])) }
def Ab.wri (a : Ab) (i : Nat) (s : Int) (ks : List Str) : Ab := { a with se := a.set i (some (s, ks)) }
def Ab.fin (a : Ab) (i : Nat) : Ab := { a with se := a.set i none }
def Ab.com (a : Ab) (i : Nat) (ks : List Str) (v : Int) : Ab := { a with h := v, se := a.set i none, wr := fun x => if x ∈ ks then some v else a.wr x }

def Beg (a : Ab) (z v e : Int) (a' : Ab) : Prop :=
  (¬ In z ∧ v = 0 ∧ e = 2 ∧ a' = a) ∨ (∃ x, In z ∧ a.se z.toNat = some x ∧ v = 0 ∧ e = 7 ∧ a' = a) ∨ (In z ∧ a.se z.toNat = none ∧ v = max a.h a.c ∧ e = 0 ∧ a' = a.beg z.toNat)
def Wri (a : Ab) (z : Int) (k : Str) (e : Int) (a' : Ab) : Prop :=
  (¬ In z ∧ e = 2 ∧ a' = a) ∨ (In z ∧ a.se z.toNat = none ∧ e = 7 ∧ a' = a) ∨ (∃ s ks, In z ∧ a.se z.toNat = some (s, ks) ∧ e = 0 ∧ a' = a.wri z.toNat s (addK ks k))
def Fin' (a : Ab) (z e : Int) (a' : Ab) : Prop :=
  (¬ In z ∧ e = 2 ∧ a' = a) ∨ (In z ∧ a.se z.toNat = none ∧ e = 7 ∧ a' = a) ∨ (∃ x, In z ∧ a.se z.toNat = some x ∧ e = 0 ∧ a' = a.fin z.toNat)
def Com (a : Ab) (z v e : Int) (a' : Ab) : Prop :=
  (¬ In z ∧ v = 0 ∧ e = 2 ∧ a' = a) ∨ (In z ∧ a.se z.toNat = none ∧ v = 0 ∧ e = 7 ∧ a' = a) ∨
  (∃ s ks, In z ∧ a.se z.toNat = some (s, ks) ∧ testF ks a.wr s a.h ≠ 0 ∧ v = 0 ∧ e = testF ks a.wr s a.h ∧ a' = a) ∨
  (∃ s ks, In z ∧ a.se z.toNat = some (s, ks) ∧ testF ks a.wr s a.h = 0 ∧ v = max (IntKind.i64.wrap (a.h + 1)) a.c ∧ e = 0 ∧ a' = a.com z.toNat ks v)
def opB (a : Ab) (z : Int) : Bool := if 0 ≤ z ∧ z < 4 then (a.se z.toNat).isSome else false
def sinF (a : Ab) (z : Int) : PV := if 0 ≤ z ∧ z < 4 then (match a.se z.toNat with | some x => .tup [iv x.1, .bool true] | none => .tup [iv 0, .bool false]) else .tup [iv 0, .bool false]
def Ab.opens (a : Ab) : List Int := ([0, 1, 2, 3].filterMap a.se).map (·.1)

theorem seF_none {a : Ab} {K : Nat → Nat} {i : Nat} (h : a.se i = none) : seF a K i = ⟨false, 0, .nilm⟩ := by simp [seF, h]
theorem seF_some {a : Ab} {K : Nat → Nat} {i : Nat} {x : Int × List Str} (h : a.se i = some x) : seF a K i = ⟨true, x.1, .map (K i)⟩ := by simp [seF, h]

theorem kmap_look (ks : List Str) (k : Str) : ∃ r, mget false [.str []] (.str k) (kmap ks) = some r ∧ mput (kmap ks) (.str k) (.bool true) r = kmap (addK ks k) := by
  have he : ∀ ks : List Str, kmap ks = mapE PV.str (fun _ : Unit => PV.bool true) (ks.map fun x => (x, ())) := fun ks => by simp [kmap, mapE]
  refine ⟨_, by rw [he]; exact mget_map MK.str k _, ?_⟩
  rw [he ks, mput_map (ev := fun _ : Unit => PV.bool true) k () (ks.map fun x => (x, ())), he]
  congr 1
  have hk := sput_keys (l := ks.map fun x => (x, ())) (k := k) (v := ())
  have hkk : ((ks.map fun x => (x, ())).map (·.1)) = ks := by simp [List.map_map, Function.comp_def]
  rw [hkk] at hk
  have : ∀ l : List (Str × Unit), l = (l.map (·.1)).map fun x => (x, ()) := fun l => by simp [List.map_map, Function.comp_def]
  rw [this (sput _ _ _), hk]
  by_cases h : k ∈ ks <;> simp [addK, h]

section
theorem cOne : One Try.prog := ⟨fun M b hM z i hi => V.code mixed k28 (by simp) (w_one M b hM z i hi), fun M b hM z hi => V.code mixed k28 (by simp) (w_oneR M b hM z hi), fun b z => V.code mixed k28 (by simp) (w_oneN b z)⟩
theorem ofL_at {M : Nat} {o : Obj} : ofL [(M, o)] M = some o := by simp [ofL, Mem.upds, upd]
theorem cOpened : Opened Try.prog := ⟨fun M b hM g z i hi hg => V.code mixed k29 (by simp) (w_opened cOne M b hM g z i hi hg _ rfl _ ofL_at), fun M b hM z hi => V.code mixed k29 (by simp) (w_openedR cOne M b hM z hi)⟩
theorem ofL_3 {M W K : Nat} {o p q : Obj} (h1 : M ≠ W) (h2 : M ≠ K) (h3 : W ≠ K) : ofL [(M, o), (W, p), (K, q)] M = some o ∧ ofL [(M, o), (W, p), (K, q)] W = some p ∧ ofL [(M, o), (W, p), (K, q)] K = some q := by
  refine ⟨?_, ?_, ?_⟩ <;> simp [ofL, Mem.upds, upd, h1, h2, h3, h1.symm, h2.symm, h3.symm]
theorem ofL_2 {M W : Nat} {o p : Obj} (h1 : M ≠ W) : ofL [(M, o), (W, p)] M = some o ∧ ofL [(M, o), (W, p)] W = some p := by
  refine ⟨?_, ?_⟩ <;> simp [ofL, Mem.upds, upd, h1, h1.symm]
theorem cTested : Tested Try.prog := ⟨fun M W K b hM hW hK g z i hi hg ho hgk hgw hMW hMK hWK ks wl => by
    obtain ⟨o1, o2, o3⟩ := ofL_3 (o := g.box) (p := .map (wmap wl)) (q := .map (kmap ks)) hMW hMK hWK
    exact V.code mixed k25 (by simp) (w_test1 cOpened M W K b hM hW hK g hg z i hi ho hgk hgw hWK ks (wmap wl) wmap_flat (sval wl) wmap_wr _ o1 o3 o2),
  fun M b hM g z i hi hg ho => V.code mixed k25 (by simp) (w_test0 cOpened M b hM g hg z i hi ho _ ofL_at), fun M b hM z hi => V.code mixed k25 (by simp) (w_testR cOpened M b hM z hi)⟩
end
end Go.Vx
/- Calls of the manager's functions, with no memory in sight. -/
set_option linter.unusedSimpArgs false
set_option linter.unusedVariables false
set_option maxRecDepth 4000
set_option maxHeartbeats 2000000
namespace Go.Vx
open Go Go.Proofs

theorem sw1 {m : Mem} {M : Nat} {o o' : Obj} : m.upds (swap [(M, o)] [(M, o')]) = upd m M (some o') := by
  funext id; simp only [swap, List.map_cons, List.map_nil, List.cons_append, List.nil_append, Mem.upds, List.foldl_cons, List.foldl_nil, upd]; split <;> rfl
theorem sw1n {m : Mem} {M b : Nat} {o o' p : Obj} : m.upds (swap [(M, o)] [(M, o'), (b, p)]) = upd (upd m M (some o')) b (some p) := by
  funext id; simp only [swap, List.map_cons, List.map_nil, List.cons_append, List.nil_append, Mem.upds, List.foldl_cons, List.foldl_nil, upd]; split <;> (try rfl); split <;> rfl
theorem sw2 {m : Mem} {M W : Nat} {o o' p p' : Obj} : m.upds (swap [(M, o), (W, p)] [(M, o'), (W, p')]) = upd (upd m M (some o')) W (some p') := by
  funext id; simp only [swap, List.map_cons, List.map_nil, List.cons_append, List.nil_append, Mem.upds, List.foldl_cons, List.foldl_nil, upd]; split <;> (try rfl); split <;> rfl
theorem sw3 {m : Mem} {M W K : Nat} {o o' p p' q q' : Obj} : m.upds (swap [(M, o), (W, p), (K, q)] [(M, o'), (W, p'), (K, q')]) = upd (upd (upd m M (some o')) W (some p')) K (some q') := by
  funext id; simp only [swap, List.map_cons, List.map_nil, List.cons_append, List.nil_append, Mem.upds, List.foldl_cons, List.foldl_nil, upd]; split <;> (try rfl); split <;> (try rfl); split <;> rfl
theorem sw0n {m : Mem} {b b' : Nat} {o p : Obj} : m.upds (swap [] [(b, o), (b', p)]) = upd (upd m b (some o)) b' (some p) := rfl

section
variable {P : Program}
theorem VC.sameR {X : Cal} {b : Nat} {ps qs : List PV} {l : List (Nat × Obj)} {r : PV} {nd : Bool} {K : PV → Mem → Prop} {mR m : Mem} (ha : Args b mR ps qs) (h0 : ∀ x ∈ l, mR x.1 = some x.2 ∧ m x.1 = some x.2 ∧ x.1 < b ∧ x.2.lt b = true) (hv : VX P X qs (ofL l) b (Just r (ofL l))) (hk : K r m) : VC P b X ps true nd K mR m :=
  .ol rfl qs l l r ha (fun x hx => ⟨(h0 x hx).1, (h0 x hx).2.2⟩) (fun x hx => .inl (List.mem_map_of_mem hx)) hv (by rw [upds_same fun x hx => (h0 x hx).2.1]; exact hk)

theorem w_beginR (h1 : One P) (M b : Nat) (hM : M < b) (z : Int) (hi : z < 0 ∨ 4 ≤ z) : VW P c11 (PRet (Ends [.tmp 4, .tmp 5] b (.tup [iv 0, iv 2]) mt))
      (fun t => [PV.ptr M 15 0 0, iv z][t]?) mt b := by
  unfold c11
  obtain ⟨n1, n2, n3, n4, n5⟩ := below_ne hM
  repeat' (first
    | exact True.intro
    | refine VW.seq ?_
    | refine VW.block ?_
    | ((first | refine VW.skip ?_ | refine VW.exit ?_ | refine VW.reg ?_ | refine VW.regD ?_ | refine VW.ret ?_ | show goA _ _ _ _ _ _ _ _ _ _ | show goB _ _ _ _ _ _ _ _ _ | show goAD _ _ _ _ _ _ _ _ _ _ _ _ _ _ | show goBD _ _ _ _ _ _ _ _ _ _ _); refine sx ?_)
    | refine VW.condT cx ?_
    | refine VW.condF cx ?_
    | refine VW.cond ex ?_ ?_
    | refine imp_nt ?_
    | refine imp_nf ?_
    | refine imp_dt (fun _ => ?_)
    | refine imp_df (fun _ => ?_)
    | (refine fun (_ : _ = true) => ?_)
    | (refine fun (_ : _ = false) => ?_)
    | refine vg_t ?_ ?_
    | refine vg_f ?_ ?_)
  refine VC.oneR h1 (by omega) hi ?_
  refine sx ?_
  repeat' (first
    | exact True.intro
    | refine VW.seq ?_
    | refine VW.block ?_
    | ((first | refine VW.skip ?_ | refine VW.exit ?_ | refine VW.reg ?_ | refine VW.regD ?_ | refine VW.ret ?_ | show goA _ _ _ _ _ _ _ _ _ _ | show goB _ _ _ _ _ _ _ _ _ | show goAD _ _ _ _ _ _ _ _ _ _ _ _ _ _ | show goBD _ _ _ _ _ _ _ _ _ _ _); refine sx ?_)
    | refine VW.condT cx ?_
    | refine VW.condF cx ?_
    | refine VW.cond ex ?_ ?_
    | refine imp_nt ?_
    | refine imp_nf ?_
    | refine imp_dt (fun _ => ?_)
    | refine imp_df (fun _ => ?_)
    | (refine fun (_ : _ = true) => ?_)
    | (refine fun (_ : _ = false) => ?_)
    | refine vg_t ?_ ?_
    | refine vg_f ?_ ?_)
  exact .v exR exR
end

theorem args2 {M b : Nat} {mR : Mem} {z : Int} (hM : M < b) : Args b mR [.ptr M 15 0 0, iv z] [.ptr M 15 0 0, iv z] := ⟨.inl ⟨rfl, by simpa [PV.lt, lt1] using hM⟩, .inl ⟨rfl, rfl⟩, trivial⟩
theorem args3 {M b : Nat} {mR : Mem} {z : Int} {k : Str} (hM : M < b) : Args b mR [.ptr M 15 0 0, iv z, .str k] [.ptr M 15 0 0, iv z, .str k] := ⟨.inl ⟨rfl, by simpa [PV.lt, lt1] using hM⟩, .inl ⟨rfl, rfl⟩, .inl ⟨rfl, rfl⟩, trivial⟩
theorem args1 {M b : Nat} {mR : Mem} (hM : M < b) : Args b mR [.ptr M 15 0 0] [.ptr M 15 0 0] := ⟨.inl ⟨rfl, by simpa [PV.lt, lt1] using hM⟩, trivial⟩

theorem VC.mnew {m mR : Mem} {b : Nat} {z : Int} {nd : Bool} {K : PV → Mem → Prop} (hk : ∀ m', MR ⟨min (max z 0) 1073741824, min (max z 0) 1073741824, fun _ => none, fun _ => none⟩ b m' (b + 8) → K (.ptr b 15 0 0) m') : VC Try.prog b (.f 9) [iv z] true nd K mR m := by
  refine .ol rfl [iv z] [] _ _ ⟨.inl ⟨rfl, rfl⟩, trivial⟩ (by simp) ?_ (V.code mixed k9 (by simp) (w_new z b)) (hk _ ⟨b + 1, fun _ => 0, [], ?_⟩)
  · simp only [List.mem_cons, List.not_mem_nil, or_false, forall_eq, forall_eq_or_imp]; exact ⟨.inr ⟨by omega, by omega⟩, .inr ⟨by omega, by omega⟩⟩
  · rw [sw0n]
    exact ⟨by omega, by omega, by omega, by rw [upd_other _ _ (by omega), upd_same]; rfl, by rw [upd_same]; rfl, rfl, fun i hi x hx => by simp at hx, fun i j hi hj hij h1 h2 => by simp at h1⟩

variable {a : Ab} {M b0 b : Nat} {m mR : Mem} {z : Int} {nd : Bool} {K : PV → Mem → Prop}

theorem VC.beg (h : MR a M m b0) (hb : b0 ≤ b) (hR : ∀ id, id < b0 → mR id = m id) (hk : ∀ v e a' m', Beg a z v e a' → MR a' M m' (b + 8) → K (.tup [iv v, iv e]) m') : VC Try.prog b (.f 11) [.ptr M 15 0 0, iv z] true nd K mR m := by
  obtain ⟨W, Kf, wl, h⟩ := h
  have hM : M < b := Nat.lt_of_lt_of_le h.hM hb
  have hg : (gOf a Kf W).ok b := h.ok.mono hb
  have e0 := hR _ h.hM
  by_cases hi : In z
  · have hI := hi.ix
    cases ho : a.se z.toNat with
    | some x =>
      have hgo : ((gOf a Kf W).get z.toNat).o = true := by rw [gOf_get hI.2, seF_some ho]
      refine VC.sameR (l := [(M, (gOf a Kf W).box)]) (args2 hM) ?_ (V.code mixed k11 (by simp) (w_begin0 cOne M b hM _ z _ hI hg hgo _ ofL_at)) (hk 0 7 a m (.inr (.inl ⟨x, hi, ho, rfl, rfl, rfl⟩)) ⟨W, Kf, wl, h.of (fun _ _ => rfl) (by omega)⟩)
      simp only [List.mem_cons, List.not_mem_nil, or_false, forall_eq, forall_eq_or_imp]; exact ⟨by rw [e0]; exact h.m0, h.m0, hM, by simpa using Mg.blt (k := 0) hg⟩
    | none =>
      have hgo : ((gOf a Kf W).get z.toNat).o = false := by rw [gOf_get hI.2, seF_none ho]
      refine .ol rfl _ [(M, (gOf a Kf W).box)] _ _ (args2 hM) ?_ ?_ (V.code mixed k11 (by simp) (w_begin1 cOne M b hM (gOf a Kf W) z _ hI hg hgo _ ofL_at)) (hk _ 0 (a.beg z.toNat) _ (.inr (.inr ⟨hi, ho, rfl, rfl, rfl⟩)) ⟨W, fun j => if j = z.toNat then b else Kf j, wl, ?_⟩)
      · simp only [List.mem_cons, List.not_mem_nil, or_false, forall_eq, forall_eq_or_imp]; exact ⟨by rw [e0]; exact h.m0, hM, by simpa using Mg.blt (k := 0) hg⟩
      · simp only [List.mem_cons, List.not_mem_nil, or_false, forall_eq, forall_eq_or_imp]; exact ⟨.inl (by simp), .inr ⟨by omega, by omega⟩⟩
      · rw [sw1n]
        have hput := gOf_put (a := a) (a' := a.beg z.toNat) (K := Kf) (K' := fun j => if j = z.toNat then b else Kf j) (W := W) (x := ⟨true, max a.h a.c, .map b⟩) hI.2 (by simp [seF, Ab.beg, Ab.set]) (fun j hj => by simp [seF, Ab.beg, Ab.set, hj])
        have hWb := h.hW
        refine ⟨by omega, by omega, h.hMW, ?_, ?_, h.mw, ?_, ?_⟩
        · rw [upd_other _ _ (by omega), upd_same]; exact congrArg (fun g : Mg => some g.box) hput
        · rw [upd_other _ _ (by omega), upd_other _ _ h.hMW.symm]; exact h.m1
        · intro j hj x hx
          by_cases hjz : j = z.toNat
          · simp only [Ab.beg, Ab.set, hjz, if_true, Option.some.injEq] at hx
            subst hx
            simp only [hjz, if_true]
            exact ⟨by omega, by omega, by omega, by rw [upd_same]; rfl⟩
          · simp only [Ab.beg, Ab.set, hjz, if_false] at hx
            simp only [hjz, if_false]
            obtain ⟨h1, h2, h3, h4⟩ := h.k j hj x hx
            exact ⟨by omega, h2, h3, by rw [upd_other _ _ (by omega), upd_other _ _ h2.symm]; exact h4⟩
        · intro i j hi' hj hij h1 h2
          by_cases hiz : i = z.toNat
          · have hjz : j ≠ z.toNat := by omega
            simp only [Ab.beg, Ab.set, hjz, if_false] at h2
            simp only [hiz, if_true, hjz, if_false]
            obtain ⟨x, hx⟩ := Option.ne_none_iff_exists'.1 h2
            have := (h.k j hj x hx).1
            omega
          · simp only [Ab.beg, Ab.set, hiz, if_false] at h1
            obtain ⟨x, hx⟩ := Option.ne_none_iff_exists'.1 h1
            have h3 := (h.k i hi' x hx).1
            by_cases hjz : j = z.toNat
            · simp only [hiz, if_false, hjz, if_true]; omega
            · simp only [Ab.beg, Ab.set, hjz, if_false] at h2
              simp only [hiz, hjz, if_false]
              exact h.kk i j hi' hj hij h1 h2
  · exact VC.pure _ _ (args2 hM) (V.code mixed k11 (by simp) (w_beginR cOne M b hM z (In.out hi))) (hk 0 2 a m (.inl ⟨hi, rfl, rfl, rfl⟩) ⟨W, Kf, wl, h.of (fun _ _ => rfl) (by omega)⟩)

/-- Nothing of the manager's changes but what its numbers and one session say. -/
theorem MRw.one {W : Nat} {Kf : Nat → Nat} {wl : List (Str × Int)} {g' : Mg} {a' : Ab} (h : MRw a M W Kf wl m b0) (hg : g' = gOf a' Kf W) (hwr : a'.wr = a.wr) (hse : ∀ j, a'.se j ≠ none → a'.se j = a.se j) (hb : b0 ≤ b) : MRw a' M W Kf wl (upd m M (some g'.box)) b := by
  have h1 := h.hM
  have h2 := h.hW
  refine ⟨by omega, by omega, h.hMW, by rw [upd_same, hg], by rw [upd_other _ _ h.hMW.symm]; exact h.m1, by rw [hwr]; exact h.mw, fun i hi x hx => ?_, fun i j hi hj hij g1 g2 => ?_⟩
  · obtain ⟨g1, g2, g3, g4⟩ := h.k i hi x (by rw [← hse i (by rw [hx]; simp)]; exact hx)
    exact ⟨by omega, g2, g3, by rw [upd_other _ _ g2.symm]; exact g4⟩
  · exact h.kk i j hi hj hij (by rw [← hse i g1]; exact g1) (by rw [← hse j g2]; exact g2)

theorem VC.wri {k : Str} (h : MR a M m b0) (hb : b0 ≤ b) (hR : ∀ id, id < b0 → mR id = m id) (hk : ∀ e a' m', Wri a z k e a' → MR a' M m' (b + 8) → K (iv e) m') : VC Try.prog b (.f 12) [.ptr M 15 0 0, iv z, .str k] true nd K mR m := by
  obtain ⟨W, Kf, wl, h⟩ := h
  have hM : M < b := Nat.lt_of_lt_of_le h.hM hb
  have hg : (gOf a Kf W).ok b := h.ok.mono hb
  have e0 := hR _ h.hM
  by_cases hi : In z
  · have hI := hi.ix
    cases ho : a.se z.toNat with
    | none =>
      have hgo : ((gOf a Kf W).get z.toNat).o = false := by rw [gOf_get hI.2, seF_none ho]
      refine VC.sameR (l := [(M, (gOf a Kf W).box)]) (args3 hM) ?_ (V.code mixed k12 (by simp) (w_write0 cOpened M b hM _ hg z _ hI hgo k _ ofL_at)) (hk 7 a m (.inr (.inl ⟨hi, ho, rfl, rfl⟩)) ⟨W, Kf, wl, h.of (fun _ _ => rfl) (by omega)⟩)
      simp only [List.mem_cons, List.not_mem_nil, or_false, forall_eq, forall_eq_or_imp]; exact ⟨by rw [e0]; exact h.m0, h.m0, hM, by simpa using Mg.blt (k := 0) hg⟩
    | some x =>
      obtain ⟨s, ks⟩ := x
      have hgg : (gOf a Kf W).get z.toNat = ⟨true, s, .map (Kf z.toNat)⟩ := by rw [gOf_get hI.2, seF_some ho]
      obtain ⟨q1, q2, q3, q4⟩ := h.k _ hI.2 _ ho
      obtain ⟨r, hr, hput⟩ := kmap_look ks k
      obtain ⟨o1, o2⟩ := ofL_2 (o := (gOf a Kf W).box) (p := .map (kmap ks)) q2
      refine .ol rfl _ [(M, (gOf a Kf W).box), (Kf z.toNat, .map (kmap ks))] _ _ (args3 hM) ?_ ?_ (V.code mixed k12 (by simp) (w_write1 cOpened M b hM (gOf a Kf W) hg z _ hI (by rw [hgg]) k (Kf z.toNat) (by omega) (by rw [hgg]) q2 (kmap ks) kmap_flat r hr _ o1 o2)) (hk 0 (a.wri z.toNat s (addK ks k)) _ (.inr (.inr ⟨s, ks, hi, ho, rfl, rfl⟩)) ⟨W, Kf, wl, ?_⟩)
      · simp only [List.mem_cons, List.not_mem_nil, or_false, forall_eq, forall_eq_or_imp]; exact ⟨⟨by rw [e0]; exact h.m0, hM, by simpa using Mg.blt (k := 0) hg⟩, by rw [hR _ q1]; exact q4, by omega, kmap_lt.1⟩
      · simp only [List.mem_cons, List.not_mem_nil, or_false, forall_eq, forall_eq_or_imp]; exact ⟨.inl (by simp), .inl (by simp)⟩
      · rw [sw2, hput]
        have hW := h.hW
        have hse : ∀ j, seF (a.wri z.toNat s (addK ks k)) Kf j = seF a Kf j := fun j => by
          by_cases hj : j = z.toNat
          · subst hj; simp [seF, Ab.wri, Ab.set, ho]
          · simp [seF, Ab.wri, Ab.set, hj]
        have hgo : gOf (a.wri z.toNat s (addK ks k)) Kf W = gOf a Kf W := by simp only [gOf, hse]; rfl
        refine ⟨by omega, by omega, h.hMW, ?_, ?_, h.mw, ?_, ?_⟩
        · rw [upd_other _ _ q2, upd_same, hgo]
        · rw [upd_other _ _ q3, upd_other _ _ h.hMW.symm]; exact h.m1
        · intro j hj x hx
          by_cases hjz : j = z.toNat
          · subst hjz
            simp only [Ab.wri, Ab.set, if_true, Option.some.injEq] at hx
            subst hx
            exact ⟨by omega, q2, q3, by rw [upd_same]⟩
          · simp only [Ab.wri, Ab.set, hjz, if_false] at hx
            obtain ⟨h1, h2, h3, h4⟩ := h.k j hj x hx
            have := h.kk j z.toNat hj hI.2 hjz (by rw [hx]; simp) (by rw [ho]; simp)
            exact ⟨by omega, h2, h3, by rw [upd_other _ _ this, upd_other _ _ h2.symm]; exact h4⟩
        · intro i j hi' hj hij h1 h2
          have hs : ∀ i, (a.wri z.toNat s (addK ks k)).se i ≠ none → a.se i ≠ none := fun i h => by
            by_cases hiz : i = z.toNat
            · subst hiz; rw [ho]; simp
            · simpa [Ab.wri, Ab.set, hiz] using h
          exact h.kk i j hi' hj hij (hs i h1) (hs j h2)
  · exact VC.pure _ _ (args3 hM) (V.code mixed k12 (by simp) (w_writeR cOpened M b hM z (In.out hi) k)) (hk 2 a m (.inl ⟨hi, rfl, rfl⟩) ⟨W, Kf, wl, h.of (fun _ _ => rfl) (by omega)⟩)

theorem VC.fin (h : MR a M m b0) (hb : b0 ≤ b) (hR : ∀ id, id < b0 → mR id = m id) (hk : ∀ e a' m', Fin' a z e a' → MR a' M m' (b + 8) → K (iv e) m') : VC Try.prog b (.f 14) [.ptr M 15 0 0, iv z] true nd K mR m := by
  obtain ⟨W, Kf, wl, h⟩ := h
  have hM : M < b := Nat.lt_of_lt_of_le h.hM hb
  have hg : (gOf a Kf W).ok b := h.ok.mono hb
  have e0 := hR _ h.hM
  by_cases hi : In z
  · have hI := hi.ix
    cases ho : a.se z.toNat with
    | none =>
      have hgo : ((gOf a Kf W).get z.toNat).o = false := by rw [gOf_get hI.2, seF_none ho]
      refine VC.sameR (l := [(M, (gOf a Kf W).box)]) (args2 hM) ?_ (V.code mixed k14 (by simp) (w_end0 cOpened M b hM _ hg z _ hI hgo _ ofL_at)) (hk 7 a m (.inr (.inl ⟨hi, ho, rfl, rfl⟩)) ⟨W, Kf, wl, h.of (fun _ _ => rfl) (by omega)⟩)
      simp only [List.mem_cons, List.not_mem_nil, or_false, forall_eq, forall_eq_or_imp]; exact ⟨by rw [e0]; exact h.m0, h.m0, hM, by simpa using Mg.blt (k := 0) hg⟩
    | some x =>
      have hgo : ((gOf a Kf W).get z.toNat).o = true := by rw [gOf_get hI.2, seF_some ho]
      refine .ol rfl _ [(M, (gOf a Kf W).box)] _ _ (args2 hM) ?_ ?_ (V.code mixed k14 (by simp) (w_end1 cOpened M b hM (gOf a Kf W) hg z _ hI hgo _ ofL_at)) (hk 0 (a.fin z.toNat) _ (.inr (.inr ⟨x, hi, ho, rfl, rfl⟩)) ⟨W, Kf, wl, ?_⟩)
      · simp only [List.mem_cons, List.not_mem_nil, or_false, forall_eq, forall_eq_or_imp]; exact ⟨by rw [e0]; exact h.m0, hM, by simpa using Mg.blt (k := 0) hg⟩
      · simp only [List.mem_cons, List.not_mem_nil, or_false, forall_eq, forall_eq_or_imp]; exact .inl (by simp)
      · rw [sw1]
        refine h.one (gOf_put (a := a) (a' := a.fin z.toNat) hI.2 (by simp [seF, Ab.fin, Ab.set]) fun j hj => by simp [seF, Ab.fin, Ab.set, hj]) rfl (fun j hj => ?_) (by omega)
        by_cases hjz : j = z.toNat
        · simp [Ab.fin, Ab.set, hjz] at hj
        · simp [Ab.fin, Ab.set, hjz]
  · exact VC.pure _ _ (args2 hM) (V.code mixed k14 (by simp) (w_endR cOpened M b hM z (In.out hi))) (hk 2 a m (.inl ⟨hi, rfl, rfl⟩) ⟨W, Kf, wl, h.of (fun _ _ => rfl) (by omega)⟩)

theorem VC.com (h : MR a M m b0) (hb : b0 ≤ b) (hk : ∀ v e a' m', Com a z v e a' → MR a' M m' (b + 8) → K (.tup [iv v, iv e]) m') : VC Try.prog b (.f 13) [.ptr M 15 0 0, iv z] true true K m m := by
  obtain ⟨W, Kf, wl, h⟩ := h
  have hM : M < b := Nat.lt_of_lt_of_le h.hM hb
  have hW : W < b := Nat.lt_of_lt_of_le h.hW hb
  have hg : (gOf a Kf W).ok b := h.ok.mono hb
  by_cases hi : In z
  · have hI := hi.ix
    cases ho : a.se z.toNat with
    | none =>
      have hgo : ((gOf a Kf W).get z.toNat).o = false := by rw [gOf_get hI.2, seF_none ho]
      refine VC.sameR (l := [(M, (gOf a Kf W).box)]) (args2 hM) ?_ (V.code mixed k13 (by simp) (w_commit0 cTested M b hM _ hg z _ hI hgo _ ofL_at)) (hk 0 7 a m (.inr (.inl ⟨hi, ho, rfl, rfl, rfl⟩)) ⟨W, Kf, wl, h.of (fun _ _ => rfl) (by omega)⟩)
      simp only [List.mem_cons, List.not_mem_nil, or_false, forall_eq, forall_eq_or_imp]; exact ⟨h.m0, h.m0, hM, by simpa using Mg.blt (k := 0) hg⟩
    | some x =>
      obtain ⟨s, ks⟩ := x
      have hgg : (gOf a Kf W).get z.toNat = ⟨true, s, .map (Kf z.toNat)⟩ := by rw [gOf_get hI.2, seF_some ho]
      obtain ⟨q1, q2, q3, q4⟩ := h.k _ hI.2 _ ho
      obtain ⟨o1, o2, o3⟩ := ofL_3 (o := (gOf a Kf W).box) (p := .map (wmap wl)) (q := .map (kmap ks)) h.hMW q2 q3
      have hs0 : ((gOf a Kf W).get z.toNat).s = s := by rw [hgg]
      have hin : ∀ x ∈ [(M, (gOf a Kf W).box), (W, .map (wmap wl)), (Kf z.toNat, .map (kmap ks))], m x.1 = some x.2 ∧ x.1 < b ∧ x.2.lt b = true := by
        simp only [List.mem_cons, List.not_mem_nil, or_false, forall_eq, forall_eq_or_imp]; exact ⟨⟨h.m0, hM, by simpa using Mg.blt (k := 0) hg⟩, ⟨h.m1, hW, (flatM_lt wmap_flat).1⟩, q4, by omega, kmap_lt.1⟩
      by_cases ht : testF ks a.wr s a.h = 0
      · have ht' : testF ks (sval wl) ((gOf a Kf W).get z.toNat).s (gOf a Kf W).h = 0 := by rw [hs0, h.mw]; exact ht
        refine .any rfl rfl _ (ofL [(M, (gOf a Kf W).box), (W, .map (wmap wl)), (Kf z.toNat, .map (kmap ks))]) _ (args2 hM) ?_ (VX.code mixed k13 (by simp) (w_commit1 cTested M W (Kf z.toNat) b hM hW (by omega) (gOf a Kf W) hg z _ hI (by rw [hgg]) (by rw [hgg]) rfl h.hMW q2 q3 ks wl _ o1 o3 o2 ht' _ rfl)) ?_
        · intro id o hid
          exact hin _ (ofL_some hid)
        · rintro r m1 ⟨rfl, wl', hwl', rfl⟩
          refine hk _ 0 (a.com z.toNat ks (max (IntKind.i64.wrap (a.h + 1)) a.c)) _ (.inr (.inr (.inr ⟨s, ks, hi, ho, ht, rfl, rfl, rfl⟩))) ⟨W, Kf, wl', ?_⟩
          obtain ⟨p1, p2, p3⟩ := ofL_3 (o := (({ gOf a Kf W with h := max (IntKind.i64.wrap ((gOf a Kf W).h + 1)) (gOf a Kf W).c } : Mg).put z.toNat ⟨false, 0, .nilm⟩).box) (p := .map (wmap wl')) (q := .map (kmap ks)) h.hMW q2 q3
          have hput := gOf_put (a := a) (a' := a.com z.toNat ks (max (IntKind.i64.wrap (a.h + 1)) a.c)) (K := Kf) (K' := Kf) (W := W) (x := ⟨false, 0, .nilm⟩) hI.2 (by simp [seF, Ab.com, Ab.set]) (fun j hj => by simp [seF, Ab.com, Ab.set, hj])
          have hse : ∀ j x, (a.com z.toNat ks (max (IntKind.i64.wrap (a.h + 1)) a.c)).se j = some x → j ≠ z.toNat ∧ a.se j = some x := fun j x hx => by
            by_cases hjz : j = z.toNat
            · simp [Ab.com, Ab.set, hjz] at hx
            · exact ⟨hjz, by simpa [Ab.com, Ab.set, hjz] using hx⟩
          refine ⟨by omega, by omega, h.hMW, ?_, ?_, ?_, ?_, ?_⟩
          · simp only [patch, o1, Option.isSome_some, true_or, if_true, p1]
            exact congrArg (fun g : Mg => some g.box) hput
          · simp only [patch, o2, Option.isSome_some, true_or, if_true, p2]
          · funext x
            rw [hwl' x, h.mw]
            rfl
          · intro j hj x hx
            obtain ⟨hjz, hx⟩ := hse j x hx
            obtain ⟨h1, h2, h3, h4⟩ := h.k j hj x hx
            have hne := h.kk j z.toNat hj hI.2 hjz (by rw [hx]; simp) (by rw [ho]; simp)
            refine ⟨by omega, h2, h3, ?_⟩
            have hnone : ofL [(M, (gOf a Kf W).box), (W, .map (wmap wl)), (Kf z.toNat, .map (kmap ks))] (Kf j) = none := by
              simp [ofL, Mem.upds, upd, h2.symm, h3.symm, hne]; rfl
            simp only [patch, hnone, Option.isSome_none, Bool.false_eq_true, false_or]
            rw [if_neg (by omega)]
            exact h4
          · intro i j hi' hj hij h1 h2
            obtain ⟨x, hx⟩ := Option.ne_none_iff_exists'.1 h1
            obtain ⟨y, hy⟩ := Option.ne_none_iff_exists'.1 h2
            exact h.kk i j hi' hj hij (by rw [(hse i x hx).2]; simp) (by rw [(hse j y hy).2]; simp)
      · have ht' : testF ks (sval wl) ((gOf a Kf W).get z.toNat).s (gOf a Kf W).h ≠ 0 := by rw [hs0, h.mw]; exact ht
        have hv := V.code mixed k13 (by simp) (w_commitE cTested M W (Kf z.toNat) b hM hW (by omega) (gOf a Kf W) hg z _ hI (by rw [hgg]) (by rw [hgg]) rfl h.hMW q2 q3 ks wl _ o1 o3 o2 ht')
        refine VC.same (args2 hM) hin hv ?_
        rw [hs0, h.mw]
        exact hk 0 _ a m (.inr (.inr (.inl ⟨s, ks, hi, ho, ht, rfl, rfl, rfl⟩))) ⟨W, Kf, wl, h.of (fun _ _ => rfl) (by omega)⟩
  · exact VC.pure _ _ (args2 hM) (V.code mixed k13 (by simp) (w_commitR cTested M b hM z (In.out hi))) (hk 0 2 a m (.inl ⟨hi, rfl, rfl, rfl⟩) ⟨W, Kf, wl, h.of (fun _ _ => rfl) (by omega)⟩)

theorem VC.tic (h : MR a M m b0) (hb : b0 ≤ b) (hR : ∀ id, id < b0 → mR id = m id) (hk : ∀ m', MR { a with c := tickF a.c z } M m' (b + 8) → K (.tup []) m') : VC Try.prog b (.f 15) [.ptr M 15 0 0, iv z] true nd K mR m := by
  obtain ⟨W, Kf, wl, h⟩ := h
  have hM : M < b := Nat.lt_of_lt_of_le h.hM hb
  have hg : (gOf a Kf W).ok b := h.ok.mono hb
  refine .ol rfl _ [(M, (gOf a Kf W).box)] _ _ (args2 hM) ?_ ?_ (V.code mixed k15 (by simp) (w_tick M b hM (gOf a Kf W) hg z _ ofL_at)) (hk _ ⟨W, Kf, wl, ?_⟩)
  · simp only [List.mem_cons, List.not_mem_nil, or_false, forall_eq, forall_eq_or_imp]; exact ⟨by rw [hR _ h.hM]; exact h.m0, hM, by simpa using Mg.blt (k := 0) hg⟩
  · simp only [List.mem_cons, List.not_mem_nil, or_false, forall_eq, forall_eq_or_imp]; exact .inl (by simp)
  · rw [sw1]
    exact h.one rfl rfl (fun j hj => rfl) (by omega)

theorem VC.red {f : Nat} {ps : List PV} {r : PV} (h : MR a M m b0) (hb : b0 ≤ b) (hR : ∀ id, id < b0 → mR id = m id) (ha : M < b → Args b mR ps ps) (hv : ∀ Kf W, M < b → (gOf a Kf W).ok b → V Try.prog f ps (ofL [(M, (gOf a Kf W).box)]) b r (ofL [(M, (gOf a Kf W).box)])) (hk : K r m) : VC Try.prog b (.f f) ps true nd K mR m := by
  obtain ⟨W, Kf, wl, h⟩ := h
  have hM : M < b := Nat.lt_of_lt_of_le h.hM hb
  have hg : (gOf a Kf W).ok b := h.ok.mono hb
  refine VC.sameR (l := [(M, (gOf a Kf W).box)]) (ha hM) ?_ (hv Kf W hM hg) hk
  simp only [List.mem_cons, List.not_mem_nil, or_false, forall_eq, forall_eq_or_imp]; exact ⟨by rw [hR _ h.hM]; exact h.m0, h.m0, hM, by simpa using Mg.blt (k := 0) hg⟩

theorem VC.opn (h : MR a M m b0) (hb : b0 ≤ b) (hR : ∀ id, id < b0 → mR id = m id) (hk : K (.bool (opB a z)) m) : VC Try.prog b (.f 16) [.ptr M 15 0 0, iv z] true nd K mR m := by
  by_cases hi : In z
  · refine VC.red h hb hR args2 (fun Kf W hM hg => ?_) hk
    have hI := hi.ix
    have e : opB a z = ((gOf a Kf W).get z.toNat).o := by
      rw [gOf_get hI.2]
      unfold opB seF
      rw [if_pos (show 0 ≤ z ∧ z < 4 from hi)]
      cases a.se z.toNat <;> rfl
    rw [e]
    exact V.code mixed k16 (by simp) (w_open cOpened M b hM _ hg z _ hI _ ofL_at)
  · obtain ⟨W, Kf, wl, h⟩ := h
    have e : opB a z = false := if_neg hi
    rw [e] at hk
    exact VC.pure _ _ (args2 (Nat.lt_of_lt_of_le h.hM hb)) (V.code mixed k16 (by simp) (w_openR cOpened M b (Nat.lt_of_lt_of_le h.hM hb) z (In.out hi))) hk
theorem VC.sin (h : MR a M m b0) (hb : b0 ≤ b) (hR : ∀ id, id < b0 → mR id = m id) (hk : K (sinF a z) m) : VC Try.prog b (.f 23) [.ptr M 15 0 0, iv z] true nd K mR m := by
  by_cases hi : In z
  · refine VC.red h hb hR args2 (fun Kf W hM hg => ?_) hk
    have hI := hi.ix
    have e : sinF a z = if ((gOf a Kf W).get z.toNat).o then .tup [iv ((gOf a Kf W).get z.toNat).s, .bool true] else .tup [iv 0, .bool false] := by
      rw [gOf_get hI.2]
      unfold sinF seF
      rw [if_pos (show 0 ≤ z ∧ z < 4 from hi)]
      cases a.se z.toNat <;> rfl
    rw [e]
    exact V.code mixed k23 (by simp) (w_since cOpened M b hM _ hg z _ hI _ ofL_at)
  · obtain ⟨W, Kf, wl, h⟩ := h
    have e : sinF a z = .tup [iv 0, .bool false] := if_neg hi
    rw [e] at hk
    exact VC.pure _ _ (args2 (Nat.lt_of_lt_of_le h.hM hb)) (V.code mixed k23 (by simp) (w_sinceR cOpened M b (Nat.lt_of_lt_of_le h.hM hb) z (In.out hi))) hk
theorem VC.clk (h : MR a M m b0) (hb : b0 ≤ b) (hR : ∀ id, id < b0 → mR id = m id) (hk : K (iv a.c) m) : VC Try.prog b (.f 17) [.ptr M 15 0 0] true nd K mR m :=
  VC.red h hb hR args1 (fun Kf W hM hg => V.code mixed k17 (by simp) (w_clock M b hM (gOf a Kf W) hg _ ofL_at)) hk
theorem VC.hig (h : MR a M m b0) (hb : b0 ≤ b) (hR : ∀ id, id < b0 → mR id = m id) (hk : K (iv a.h) m) : VC Try.prog b (.f 26) [.ptr M 15 0 0] true nd K mR m :=
  VC.red h hb hR args1 (fun Kf W hM hg => V.code mixed k26 (by simp) (w_high M b hM (gOf a Kf W) hg _ ofL_at)) hk
theorem cMin (l : List Int) (b : Nat) (h0 : 0 < l.length) (hl : l.length < 1000) : V Try.prog 46 [.sl (ints l)] mt b (iv (minL l)) mt := V.code mixed k46 (by simp) (w_min l h0 hl b)
theorem gOf_opens {Kf : Nat → Nat} {W : Nat} : (gOf a Kf W).opens 4 = a.opens := by
  have h : ∀ i, (∃ x, a.se i = some x ∧ seF a Kf i = ⟨true, x.1, .map (Kf i)⟩) ∨ (a.se i = none ∧ seF a Kf i = ⟨false, 0, .nilm⟩) := fun i => by
    unfold seF; cases a.se i with
    | none => exact .inr ⟨rfl, rfl⟩
    | some x => exact .inl ⟨x, rfl, rfl⟩
  unfold Mg.opens Mg.ses Ab.opens
  show (([seF a Kf 0, seF a Kf 1, seF a Kf 2, seF a Kf 3].filter (·.o)).map (·.s)) = _
  rcases h 0 with ⟨x0, h0, g0⟩ | ⟨h0, g0⟩ <;> rcases h 1 with ⟨x1, h1, g1⟩ | ⟨h1, g1⟩ <;> rcases h 2 with ⟨x2, h2, g2⟩ | ⟨h2, g2⟩ <;> rcases h 3 with ⟨x3, h3, g3⟩ | ⟨h3, g3⟩ <;> simp [h0, h1, h2, h3, g0, g1, g2, g3]
theorem VC.old (h : MR a M m b0) (hb : b0 ≤ b) (hR : ∀ id, id < b0 → mR id = m id) (hk : K (oldF a.opens) m) : VC Try.prog b (.f 24) [.ptr M 15 0 0] true nd K mR m :=
  VC.red h hb hR args1 (fun Kf W hM hg => by rw [← gOf_opens (a := a) (Kf := Kf) (W := W)]; exact V.code mixed k24 (by simp) (w_oldest (fun l b h0 hl => cMin l b h0 hl) M b hM (gOf a Kf W) hg _ ofL_at)) hk

end Go.Vx
/- What must be whatever is asked. -/
set_option linter.unusedSimpArgs false
set_option linter.unusedVariables false
set_option maxRecDepth 4000
set_option maxHeartbeats 4000000
namespace Go.Vx
open Go Go.Proofs

theorem Beg.fresh {a a' : Ab} {z v e : Int} (h : Beg a z v e a') (hi : In z) (hn : a.se z.toNat = none) : v = max a.h a.c ∧ e = 0 ∧ a' = a.beg z.toNat := by
  rcases h with ⟨h1, _⟩ | ⟨x, _, h2, _⟩ | ⟨_, _, h⟩
  · exact absurd hi h1
  · rw [hn] at h2; cases h2
  · exact h
theorem Wri.open {a a' : Ab} {z e s : Int} {k : Str} {ks : List Str} (h : Wri a z k e a') (hi : In z) (hn : a.se z.toNat = some (s, ks)) : e = 0 ∧ a' = a.wri z.toNat s (addK ks k) := by
  rcases h with ⟨h1, _⟩ | ⟨_, h2, _⟩ | ⟨s', ks', _, h2, h⟩
  · exact absurd hi h1
  · rw [hn] at h2; cases h2
  · rw [hn] at h2; injection h2 with h2; injection h2 with h2 h3; subst h2; subst h3; exact h
theorem Com.good {a a' : Ab} {z v e s : Int} {ks : List Str} (h : Com a z v e a') (hi : In z) (hn : a.se z.toNat = some (s, ks)) (ht : testF ks a.wr s a.h = 0) : v = max (IntKind.i64.wrap (a.h + 1)) a.c ∧ e = 0 ∧ a' = a.com z.toNat ks v := by
  rcases h with ⟨h1, _⟩ | ⟨_, h2, _⟩ | ⟨s', ks', _, h2, h3, _⟩ | ⟨s', ks', _, h2, h3, h⟩
  · exact absurd hi h1
  · rw [hn] at h2; cases h2
  · rw [hn] at h2; injection h2 with h2; injection h2 with h2 h4; subst h2; subst h4; exact absurd ht h3
  · rw [hn] at h2; injection h2 with h2; injection h2 with h2 h4; subst h2; subst h4; exact h
theorem Com.bad {a a' : Ab} {z v e s : Int} {ks : List Str} (h : Com a z v e a') (hi : In z) (hn : a.se z.toNat = some (s, ks)) (ht : testF ks a.wr s a.h ≠ 0) : v = 0 ∧ e = testF ks a.wr s a.h ∧ a' = a := by
  rcases h with ⟨h1, _⟩ | ⟨_, h2, _⟩ | ⟨s', ks', _, h2, h3, h⟩ | ⟨s', ks', _, h2, h3, _⟩
  · exact absurd hi h1
  · rw [hn] at h2; cases h2
  · rw [hn] at h2; injection h2 with h2; injection h2 with h2 h4; subst h2; subst h4; exact h
  · rw [hn] at h2; injection h2 with h2; injection h2 with h2 h4; subst h2; subst h4; exact absurd h3 ht
theorem Fin'.open {a a' : Ab} {z e : Int} {x : Int × List Str} (h : Fin' a z e a') (hi : In z) (hn : a.se z.toNat = some x) : e = 0 ∧ a' = a.fin z.toNat := by
  rcases h with ⟨h1, _⟩ | ⟨_, h2, _⟩ | ⟨x', _, h2, h⟩
  · exact absurd hi h1
  · rw [hn] at h2; cases h2
  · exact h

variable {a : Ab} {M b0 b : Nat} {m mR : Mem} {z : Int} {nd : Bool} {K : PV → Mem → Prop}
theorem VC.oldE {r : PV} (h : MR a M m b0) (hb : b0 ≤ b) (hR : ∀ id, id < b0 → mR id = m id) (he : oldF a.opens = r) (hk : K r m) : VC Try.prog b (.f 24) [.ptr M 15 0 0] true nd K mR m := VC.old h hb hR (by rw [he]; exact hk)
theorem VC.higE {r : Int} (h : MR a M m b0) (hb : b0 ≤ b) (hR : ∀ id, id < b0 → mR id = m id) (he : a.h = r) (hk : K (iv r) m) : VC Try.prog b (.f 26) [.ptr M 15 0 0] true nd K mR m := VC.hig h hb hR (by rw [he]; exact hk)
theorem VC.clkE {r : Int} (h : MR a M m b0) (hb : b0 ≤ b) (hR : ∀ id, id < b0 → mR id = m id) (he : a.c = r) (hk : K (iv r) m) : VC Try.prog b (.f 17) [.ptr M 15 0 0] true nd K mR m := VC.clk h hb hR (by rw [he]; exact hk)
theorem VC.opnE {r : Bool} (h : MR a M m b0) (hb : b0 ≤ b) (hR : ∀ id, id < b0 → mR id = m id) (he : opB a z = r) (hk : K (.bool r) m) : VC Try.prog b (.f 16) [.ptr M 15 0 0, iv z] true nd K mR m := VC.opn h hb hR (by rw [he]; exact hk)
theorem VC.sinE {r : PV} (h : MR a M m b0) (hb : b0 ≤ b) (hR : ∀ id, id < b0 → mR id = m id) (he : sinF a z = r) (hk : K r m) : VC Try.prog b (.f 23) [.ptr M 15 0 0, iv z] true nd K mR m := VC.sin h hb hR (by rw [he]; exact hk)
theorem w_live (b : Nat) : VW Try.prog c10 (PRet (Ends [.tmp 0] b (.bool true) mt)) (fun t => ([] : List PV)[t]?) mt b := by
  unfold c10
  repeat' (first
    | exact True.intro
    | refine VW.seq ?_
    | refine VW.block ?_
    | ((first | refine VW.skip ?_ | refine VW.exit ?_ | refine VW.reg ?_ | refine VW.regD ?_ | refine VW.ret ?_ | show goA _ _ _ _ _ _ _ _ _ _ | show goB _ _ _ _ _ _ _ _ _ | show goAD _ _ _ _ _ _ _ _ _ _ _ _ _ _ | show goBD _ _ _ _ _ _ _ _ _ _ _); refine sx ?_)
    | refine VW.condT cx ?_
    | refine VW.condF cx ?_
    | refine VW.cond ex ?_ ?_
    | refine imp_nt ?_
    | refine imp_nf ?_
    | refine imp_dt (fun _ => ?_)
    | refine imp_df (fun _ => ?_)
    | (refine fun (_ : _ = true) => ?_)
    | (refine fun (_ : _ = false) => ?_)
    | refine vg_t ?_ ?_
    | refine vg_f ?_ ?_)
  refine VC.mnew fun m h => ?_
  refine sy ?_
  repeat' (first
    | exact True.intro
    | refine VW.seq ?_
    | refine VW.block ?_
    | ((first | refine VW.skip ?_ | refine VW.exit ?_ | refine VW.reg ?_ | refine VW.regD ?_ | refine VW.ret ?_ | show goA _ _ _ _ _ _ _ _ _ _ | show goB _ _ _ _ _ _ _ _ _ | show goAD _ _ _ _ _ _ _ _ _ _ _ _ _ _ | show goBD _ _ _ _ _ _ _ _ _ _ _); refine sx ?_)
    | refine VW.condT cx ?_
    | refine VW.condF cx ?_
    | refine VW.cond ex ?_ ?_
    | refine imp_nt ?_
    | refine imp_nf ?_
    | refine imp_dt (fun _ => ?_)
    | refine imp_df (fun _ => ?_)
    | (refine fun (_ : _ = true) => ?_)
    | (refine fun (_ : _ = false) => ?_)
    | refine vg_t ?_ ?_
    | refine vg_f ?_ ?_)
  refine VC.beg h (by omega) (fun _ _ => rfl) fun v e a1 m1 hB h1 => ?_
  obtain ⟨hv, rfl, rfl⟩ := hB.fresh (by unfold In; omega) rfl
  obtain rfl : v = 0 := by rw [hv]; rfl
  clear hB hv h
  refine sy ?_
  repeat' (first
    | exact True.intro
    | refine VW.seq ?_
    | refine VW.block ?_
    | ((first | refine VW.skip ?_ | refine VW.exit ?_ | refine VW.reg ?_ | refine VW.regD ?_ | refine VW.ret ?_ | show goA _ _ _ _ _ _ _ _ _ _ | show goB _ _ _ _ _ _ _ _ _ | show goAD _ _ _ _ _ _ _ _ _ _ _ _ _ _ | show goBD _ _ _ _ _ _ _ _ _ _ _); refine sx ?_)
    | refine VW.condT cx ?_
    | refine VW.condF cx ?_
    | refine VW.cond ex ?_ ?_
    | refine imp_nt ?_
    | refine imp_nf ?_
    | refine imp_dt (fun _ => ?_)
    | refine imp_df (fun _ => ?_)
    | (refine fun (_ : _ = true) => ?_)
    | (refine fun (_ : _ = false) => ?_)
    | refine vg_t ?_ ?_
    | refine vg_f ?_ ?_)
  refine VC.beg h1 (by omega) (fun _ _ => rfl) fun v e a2 m2 hB h2 => ?_
  obtain ⟨hv, rfl, rfl⟩ := hB.fresh (by unfold In; omega) rfl
  obtain rfl : v = 0 := by rw [hv]; rfl
  clear hB hv h1
  refine sy ?_
  repeat' (first
    | exact True.intro
    | refine VW.seq ?_
    | refine VW.block ?_
    | ((first | refine VW.skip ?_ | refine VW.exit ?_ | refine VW.reg ?_ | refine VW.regD ?_ | refine VW.ret ?_ | show goA _ _ _ _ _ _ _ _ _ _ | show goB _ _ _ _ _ _ _ _ _ | show goAD _ _ _ _ _ _ _ _ _ _ _ _ _ _ | show goBD _ _ _ _ _ _ _ _ _ _ _); refine sx ?_)
    | refine VW.condT cx ?_
    | refine VW.condF cx ?_
    | refine VW.cond ex ?_ ?_
    | refine imp_nt ?_
    | refine imp_nf ?_
    | refine imp_dt (fun _ => ?_)
    | refine imp_df (fun _ => ?_)
    | (refine fun (_ : _ = true) => ?_)
    | (refine fun (_ : _ = false) => ?_)
    | refine vg_t ?_ ?_
    | refine vg_f ?_ ?_)
  refine VC.wri h2 (by omega) (fun _ _ => rfl) fun e a3 m3 hB h3 => ?_
  obtain ⟨rfl, rfl⟩ := hB.open (by unfold In; omega) rfl
  clear hB h2
  refine sy ?_
  repeat' (first
    | exact True.intro
    | refine VW.seq ?_
    | refine VW.block ?_
    | ((first | refine VW.skip ?_ | refine VW.exit ?_ | refine VW.reg ?_ | refine VW.regD ?_ | refine VW.ret ?_ | show goA _ _ _ _ _ _ _ _ _ _ | show goB _ _ _ _ _ _ _ _ _ | show goAD _ _ _ _ _ _ _ _ _ _ _ _ _ _ | show goBD _ _ _ _ _ _ _ _ _ _ _); refine sx ?_)
    | refine VW.condT cx ?_
    | refine VW.condF cx ?_
    | refine VW.cond ex ?_ ?_
    | refine imp_nt ?_
    | refine imp_nf ?_
    | refine imp_dt (fun _ => ?_)
    | refine imp_df (fun _ => ?_)
    | (refine fun (_ : _ = true) => ?_)
    | (refine fun (_ : _ = false) => ?_)
    | refine vg_t ?_ ?_
    | refine vg_f ?_ ?_)
  refine VC.wri h3 (by omega) (fun _ _ => rfl) fun e a4 m4 hB h4 => ?_
  obtain ⟨rfl, rfl⟩ := hB.open (by unfold In; omega) rfl
  clear hB h3
  refine sy ?_
  repeat' (first
    | exact True.intro
    | refine VW.seq ?_
    | refine VW.block ?_
    | ((first | refine VW.skip ?_ | refine VW.exit ?_ | refine VW.reg ?_ | refine VW.regD ?_ | refine VW.ret ?_ | show goA _ _ _ _ _ _ _ _ _ _ | show goB _ _ _ _ _ _ _ _ _ | show goAD _ _ _ _ _ _ _ _ _ _ _ _ _ _ | show goBD _ _ _ _ _ _ _ _ _ _ _); refine sx ?_)
    | refine VW.condT cx ?_
    | refine VW.condF cx ?_
    | refine VW.cond ex ?_ ?_
    | refine imp_nt ?_
    | refine imp_nf ?_
    | refine imp_dt (fun _ => ?_)
    | refine imp_df (fun _ => ?_)
    | (refine fun (_ : _ = true) => ?_)
    | (refine fun (_ : _ = false) => ?_)
    | refine vg_t ?_ ?_
    | refine vg_f ?_ ?_)
  refine VC.com h4 (by omega) fun v e a5 m5 hB h5 => ?_
  obtain ⟨hv, rfl, rfl⟩ := hB.good (by unfold In; omega) rfl rfl
  obtain rfl : v = 1 := by rw [hv]; rfl
  clear hB hv h4
  refine sy ?_
  repeat' (first
    | exact True.intro
    | refine VW.seq ?_
    | refine VW.block ?_
    | ((first | refine VW.skip ?_ | refine VW.exit ?_ | refine VW.reg ?_ | refine VW.regD ?_ | refine VW.ret ?_ | show goA _ _ _ _ _ _ _ _ _ _ | show goB _ _ _ _ _ _ _ _ _ | show goAD _ _ _ _ _ _ _ _ _ _ _ _ _ _ | show goBD _ _ _ _ _ _ _ _ _ _ _); refine sx ?_)
    | refine VW.condT cx ?_
    | refine VW.condF cx ?_
    | refine VW.cond ex ?_ ?_
    | refine imp_nt ?_
    | refine imp_nf ?_
    | refine imp_dt (fun _ => ?_)
    | refine imp_df (fun _ => ?_)
    | (refine fun (_ : _ = true) => ?_)
    | (refine fun (_ : _ = false) => ?_)
    | refine vg_t ?_ ?_
    | refine vg_f ?_ ?_)
  refine VC.com h5 (by omega) fun v e a6 m6 hB h6 => ?_
  obtain ⟨rfl, he, rfl⟩ := hB.bad (by unfold In; omega) rfl (by decide)
  obtain rfl : e = 13 := by rw [he]; rfl
  clear hB he h5
  refine sy ?_
  repeat' (first
    | exact True.intro
    | refine VW.seq ?_
    | refine VW.block ?_
    | ((first | refine VW.skip ?_ | refine VW.exit ?_ | refine VW.reg ?_ | refine VW.regD ?_ | refine VW.ret ?_ | show goA _ _ _ _ _ _ _ _ _ _ | show goB _ _ _ _ _ _ _ _ _ | show goAD _ _ _ _ _ _ _ _ _ _ _ _ _ _ | show goBD _ _ _ _ _ _ _ _ _ _ _); refine sx ?_)
    | refine VW.condT cx ?_
    | refine VW.condF cx ?_
    | refine VW.cond ex ?_ ?_
    | refine imp_nt ?_
    | refine imp_nf ?_
    | refine imp_dt (fun _ => ?_)
    | refine imp_df (fun _ => ?_)
    | (refine fun (_ : _ = true) => ?_)
    | (refine fun (_ : _ = false) => ?_)
    | refine vg_t ?_ ?_
    | refine vg_f ?_ ?_)
  refine VC.oldE (r := .tup [iv 0, .bool true]) h6 (by omega) (fun _ _ => rfl) (by rfl) ?_
  refine sy ?_
  repeat' (first
    | exact True.intro
    | refine VW.seq ?_
    | refine VW.block ?_
    | ((first | refine VW.skip ?_ | refine VW.exit ?_ | refine VW.reg ?_ | refine VW.regD ?_ | refine VW.ret ?_ | show goA _ _ _ _ _ _ _ _ _ _ | show goB _ _ _ _ _ _ _ _ _ | show goAD _ _ _ _ _ _ _ _ _ _ _ _ _ _ | show goBD _ _ _ _ _ _ _ _ _ _ _); refine sx ?_)
    | refine VW.condT cx ?_
    | refine VW.condF cx ?_
    | refine VW.cond ex ?_ ?_
    | refine imp_nt ?_
    | refine imp_nf ?_
    | refine imp_dt (fun _ => ?_)
    | refine imp_df (fun _ => ?_)
    | (refine fun (_ : _ = true) => ?_)
    | (refine fun (_ : _ = false) => ?_)
    | refine vg_t ?_ ?_
    | refine vg_f ?_ ?_)
  refine VC.higE (r := 1) h6 (by omega) (fun _ _ => rfl) (by rfl) ?_
  refine sy ?_
  repeat' (first
    | exact True.intro
    | refine VW.seq ?_
    | refine VW.block ?_
    | ((first | refine VW.skip ?_ | refine VW.exit ?_ | refine VW.reg ?_ | refine VW.regD ?_ | refine VW.ret ?_ | show goA _ _ _ _ _ _ _ _ _ _ | show goB _ _ _ _ _ _ _ _ _ | show goAD _ _ _ _ _ _ _ _ _ _ _ _ _ _ | show goBD _ _ _ _ _ _ _ _ _ _ _); refine sx ?_)
    | refine VW.condT cx ?_
    | refine VW.condF cx ?_
    | refine VW.cond ex ?_ ?_
    | refine imp_nt ?_
    | refine imp_nf ?_
    | refine imp_dt (fun _ => ?_)
    | refine imp_df (fun _ => ?_)
    | (refine fun (_ : _ = true) => ?_)
    | (refine fun (_ : _ = false) => ?_)
    | refine vg_t ?_ ?_
    | refine vg_f ?_ ?_)
  refine VC.fin h6 (by omega) (fun _ _ => rfl) fun e a7 m7 hB h7 => ?_
  obtain ⟨rfl, rfl⟩ := hB.open (by unfold In; omega) rfl
  refine sy ?_
  repeat' (first
    | exact True.intro
    | refine VW.seq ?_
    | refine VW.block ?_
    | ((first | refine VW.skip ?_ | refine VW.exit ?_ | refine VW.reg ?_ | refine VW.regD ?_ | refine VW.ret ?_ | show goA _ _ _ _ _ _ _ _ _ _ | show goB _ _ _ _ _ _ _ _ _ | show goAD _ _ _ _ _ _ _ _ _ _ _ _ _ _ | show goBD _ _ _ _ _ _ _ _ _ _ _); refine sx ?_)
    | refine VW.condT cx ?_
    | refine VW.condF cx ?_
    | refine VW.cond ex ?_ ?_
    | refine imp_nt ?_
    | refine imp_nf ?_
    | refine imp_dt (fun _ => ?_)
    | refine imp_df (fun _ => ?_)
    | (refine fun (_ : _ = true) => ?_)
    | (refine fun (_ : _ = false) => ?_)
    | refine vg_t ?_ ?_
    | refine vg_f ?_ ?_)
  exact .v exR exR
theorem vlive (b : Nat) : V Try.prog 10 [] mt b (.bool true) mt := V.code mixed k10 (by simp) (w_live b)
end Go.Vx
/- TxnRises. -/
set_option linter.unusedSimpArgs false
set_option linter.unusedVariables false
set_option maxRecDepth 4000
set_option maxHeartbeats 4000000
namespace Go.Vx
open Go Go.Proofs

/-- A deed. -/
structure Dd where
  k : Int
  i : Int
  key : Str
  n : Int
def dds (l : List Dd) : List (List PV) := l.map fun d => [iv d.k, iv d.i, .str d.key, iv d.n]
theorem dds_len {l : List Dd} : (dds l).length = l.length := by simp [dds]
theorem dds_get {l : List Dd} {i : Nat} : (dds l)[i]? = (l[i]?).map fun d => [iv d.k, iv d.i, .str d.key, iv d.n] := by simp [dds]

/-- Clock and highest instant are such as may be. -/
def Ab.fit (a : Ab) : Prop := 0 ≤ a.c ∧ a.c ≤ 1073741824 ∧ 0 ≤ a.h ∧ a.h ≤ 1073741824
theorem tickF_in {c n : Int} (h0 : 0 ≤ c) (h1 : c ≤ 1073741824) : c ≤ tickF c n ∧ tickF c n ≤ 1073741824 := by
  unfold tickF
  split
  · omega
  · rw [IntWalk.i64_in (1073741824 - c) (by omega), IntWalk.i64_in _ (by omega)]
    omega
theorem testF_max {ks : List Str} {wr : Str → Option Int} {s h : Int} (ht : testF ks wr s h = 0) : h ≠ 1073741824 := by
  unfold testF at ht
  intro hh
  rw [if_pos hh] at ht
  split at ht <;> omega
theorem Com.high {a a' : Ab} {z v e : Int} (h : Com a z v e a') (hf : a.fit) : (e ≠ 0 ∧ a' = a) ∨ (e = 0 ∧ a.h < v ∧ a.c ≤ v ∧ v ≤ 1073741824 ∧ a'.h = v ∧ a'.c = a.c) := by
  obtain ⟨f1, f2, f3, f4⟩ := hf
  rcases h with ⟨_, _, rfl, rfl⟩ | ⟨_, _, _, rfl, rfl⟩ | ⟨s, ks, _, _, h3, _, rfl, rfl⟩ | ⟨s, ks, _, _, h3, hv, rfl, rfl⟩
  · exact .inl ⟨by decide, rfl⟩
  · exact .inl ⟨by decide, rfl⟩
  · exact .inl ⟨h3, rfl⟩
  · have := testF_max h3
    rw [IntWalk.i64_in _ (by omega)] at hv
    exact .inr ⟨rfl, by omega, by omega, by omega, rfl, rfl⟩

def J5 (l : List Dd) (i : Nat) (e : Env) (m : Mem) (nx : Nat) : Prop :=
  ∃ a M high, e 0 = some (.sl (dds l)) ∧ e 3 = some (.ptr M 15 0 0) ∧ e 4 = some (iv high) ∧ e 5 = some (iv i) ∧ MR a M m nx ∧ a.fit ∧ high ≤ a.h

theorem w5 (l : List Dd) (b : Nat) : VW Try.prog c5 (PRet (Ends [.tmp 2] b (.bool true) mt)) (fun t => [PV.sl (dds l)][t]?) mt b := by
  unfold c5
  repeat' (first
    | exact True.intro
    | refine VW.seq ?_
    | refine VW.block ?_
    | ((first | refine VW.skip ?_ | refine VW.exit ?_ | refine VW.reg ?_ | refine VW.regD ?_ | refine VW.ret ?_ | show goA _ _ _ _ _ _ _ _ _ _ | show goB _ _ _ _ _ _ _ _ _ | show goAD _ _ _ _ _ _ _ _ _ _ _ _ _ _ | show goBD _ _ _ _ _ _ _ _ _ _ _); refine sx ?_)
    | refine VW.condT cx ?_
    | refine VW.condF cx ?_
    | refine VW.cond ex ?_ ?_
    | refine imp_nt ?_
    | refine imp_nf ?_
    | refine imp_dt (fun _ => ?_)
    | refine imp_df (fun _ => ?_)
    | (refine fun (_ : _ = true) => ?_)
    | (refine fun (_ : _ = false) => ?_)
    | refine vg_t ?_ ?_
    | refine vg_f ?_ ?_)
  refine VC.mnew fun m h => ?_
  refine sy ?_
  repeat' (first
    | exact True.intro
    | refine VW.seq ?_
    | refine VW.block ?_
    | ((first | refine VW.skip ?_ | refine VW.exit ?_ | refine VW.reg ?_ | refine VW.regD ?_ | refine VW.ret ?_ | show goA _ _ _ _ _ _ _ _ _ _ | show goB _ _ _ _ _ _ _ _ _ | show goAD _ _ _ _ _ _ _ _ _ _ _ _ _ _ | show goBD _ _ _ _ _ _ _ _ _ _ _ | refine VC.p0 (vlive _) ?_); refine sx ?_)
    | refine VW.condT cx ?_
    | refine VW.condF cx ?_
    | refine VW.cond ex ?_ ?_
    | refine imp_nt ?_
    | refine imp_nf ?_
    | refine imp_dt (fun _ => ?_)
    | refine imp_df (fun _ => ?_)
    | (refine fun (_ : _ = true) => ?_)
    | (refine fun (_ : _ = false) => ?_)
    | refine vg_t ?_ ?_
    | refine vg_f ?_ ?_)
  refine VW.forN (min l.length 60) (J5 l) 0 (by omega) ⟨_, _, _, cy, ey, ey, ey, h.mono (by omega), ⟨by decide, by decide, by decide, by decide⟩, by decide⟩ ?_
  clear h m
  rintro i e m nx hi ⟨a, M, high, e0, e3, e4, e5, hm, hf, hh⟩
  have hlen := dds_len (l := l)
  by_cases hn : i < min l.length 60
  · have hin' : (i : Int) < l.length := by omega
    have hi60 : (i : Int) < 60 := by omega
    obtain ⟨d, hd⟩ := get_of (l := l) (i := i) (by omega)
    have hd' : (dds l)[i]? = some [iv d.k, iv d.i, .str d.key, iv d.n] := by rw [dds_get, hd]; rfl
    have h00 : (0 : Int) ≤ i := by omega
    have htn : (i : Int).toNat = i := Int.toNat_natCast i
    have hw := i64_nat (n := i) (by omega)
    obtain ⟨f1, f2, f3, f4⟩ := hf
    have hm2 := fun o1 o2 => (hm.upd (id := nx + 96) (o := o1) (by omega) (Nat.le_refl nx)).upd (id := nx + 96) (o := o2) (by omega) (Nat.le_refl nx)
    repeat' (first
    | exact True.intro
    | refine VW.seq ?_
    | refine VW.block ?_
    | ((first | refine VW.skip ?_ | refine VW.exit ?_ | refine VW.reg ?_ | refine VW.regD ?_ | refine VW.ret ?_ | show goA _ _ _ _ _ _ _ _ _ _ | show goB _ _ _ _ _ _ _ _ _ | show goAD _ _ _ _ _ _ _ _ _ _ _ _ _ _ | show goBD _ _ _ _ _ _ _ _ _ _ _); refine sx ?_)
    | refine VW.condT cx ?_
    | refine VW.condF cx ?_
    | refine VW.cond ex ?_ ?_
    | refine imp_nt ?_
    | refine imp_nf ?_
    | refine imp_dt (fun _ => ?_)
    | refine imp_df (fun _ => ?_)
    | (refine fun (_ : _ = true) => ?_)
    | (refine fun (_ : _ = false) => ?_)
    | refine vg_t ?_ ?_
    | refine vg_f ?_ ?_)
    · refine VC.beg (hm2 _ _) (by omega) (fun _ _ => rfl) fun v e a' m' hB h' => ?_
      rcases hB with ⟨_, rfl, rfl, rfl⟩ | ⟨x, _, _, rfl, rfl, rfl⟩ | ⟨_, _, hv, rfl, rfl⟩
      · simp -implicitDefEqProofs only [eng, reduceIte, reduceCtorEq, Nat.reduceAdd, Nat.reduceMul, Nat.reduceSub, Nat.reduceEqDiff, Nat.reduceLeDiff, Nat.reduceLT, Nat.reduceDiv, Nat.reduceMod, Int.reduceLE, Int.reduceLT, Int.reduceEq, Int.reduceNeg, Int.reduceAdd, Int.reduceSub, Int.reduceToNat, Nat.reducePow, Int.ofNat_zero, Int.natCast_one, Int.cast_ofNat_Int]
        repeat' (first
    | exact True.intro
    | refine VW.seq ?_
    | refine VW.block ?_
    | ((first | refine VW.skip ?_ | refine VW.exit ?_ | refine VW.reg ?_ | refine VW.regD ?_ | refine VW.ret ?_ | show goA _ _ _ _ _ _ _ _ _ _ | show goB _ _ _ _ _ _ _ _ _ | show goAD _ _ _ _ _ _ _ _ _ _ _ _ _ _ | show goBD _ _ _ _ _ _ _ _ _ _ _); refine sx ?_)
    | refine VW.condT cx ?_
    | refine VW.condF cx ?_
    | refine VW.cond ex ?_ ?_
    | refine imp_nt ?_
    | refine imp_nf ?_
    | refine imp_dt (fun _ => ?_)
    | refine imp_df (fun _ => ?_)
    | (refine fun (_ : _ = true) => ?_)
    | (refine fun (_ : _ = false) => ?_)
    | refine vg_t ?_ ?_
    | refine vg_f ?_ ?_)
        exact ⟨a', M, high, cx, cx, cx, cx, h'.mono (by omega), ⟨f1, f2, f3, f4⟩, hh⟩
      · simp -implicitDefEqProofs only [eng, reduceIte, reduceCtorEq, Nat.reduceAdd, Nat.reduceMul, Nat.reduceSub, Nat.reduceEqDiff, Nat.reduceLeDiff, Nat.reduceLT, Nat.reduceDiv, Nat.reduceMod, Int.reduceLE, Int.reduceLT, Int.reduceEq, Int.reduceNeg, Int.reduceAdd, Int.reduceSub, Int.reduceToNat, Nat.reducePow, Int.ofNat_zero, Int.natCast_one, Int.cast_ofNat_Int]
        repeat' (first
    | exact True.intro
    | refine VW.seq ?_
    | refine VW.block ?_
    | ((first | refine VW.skip ?_ | refine VW.exit ?_ | refine VW.reg ?_ | refine VW.regD ?_ | refine VW.ret ?_ | show goA _ _ _ _ _ _ _ _ _ _ | show goB _ _ _ _ _ _ _ _ _ | show goAD _ _ _ _ _ _ _ _ _ _ _ _ _ _ | show goBD _ _ _ _ _ _ _ _ _ _ _); refine sx ?_)
    | refine VW.condT cx ?_
    | refine VW.condF cx ?_
    | refine VW.cond ex ?_ ?_
    | refine imp_nt ?_
    | refine imp_nf ?_
    | refine imp_dt (fun _ => ?_)
    | refine imp_df (fun _ => ?_)
    | (refine fun (_ : _ = true) => ?_)
    | (refine fun (_ : _ = false) => ?_)
    | refine vg_t ?_ ?_
    | refine vg_f ?_ ?_)
        exact ⟨a', M, high, cx, cx, cx, cx, h'.mono (by omega), ⟨f1, f2, f3, f4⟩, hh⟩
      · have hlt : ¬ v < high := by omega
        have hlc : ¬ v < a.c := by omega
        have hf : (a.beg d.i.toNat).fit := ⟨f1, f2, by simp only [Ab.beg]; omega, by simp only [Ab.beg]; omega⟩
        have hv' : v ≤ (a.beg d.i.toNat).h := by simp only [Ab.beg]; omega
        clear hv hm2
        refine sy ?_
        repeat' (first
    | exact True.intro
    | refine VW.seq ?_
    | refine VW.block ?_
    | ((first | refine VW.skip ?_ | refine VW.exit ?_ | refine VW.reg ?_ | refine VW.regD ?_ | refine VW.ret ?_ | show goA _ _ _ _ _ _ _ _ _ _ | show goB _ _ _ _ _ _ _ _ _ | show goAD _ _ _ _ _ _ _ _ _ _ _ _ _ _ | show goBD _ _ _ _ _ _ _ _ _ _ _); refine sx ?_)
    | refine VW.condT cx ?_
    | refine VW.condF cx ?_
    | refine VW.cond ex ?_ ?_
    | refine imp_nt ?_
    | refine imp_nf ?_
    | refine imp_dt (fun _ => ?_)
    | refine imp_df (fun _ => ?_)
    | (refine fun (_ : _ = true) => ?_)
    | (refine fun (_ : _ = false) => ?_)
    | refine vg_t ?_ ?_
    | refine vg_f ?_ ?_)
        refine VC.clkE (r := a.c) h' (by omega) (fun _ _ => rfl) rfl ?_
        refine sy ?_
        repeat' (first
    | exact True.intro
    | refine VW.seq ?_
    | refine VW.block ?_
    | ((first | refine VW.skip ?_ | refine VW.exit ?_ | refine VW.reg ?_ | refine VW.regD ?_ | refine VW.ret ?_ | show goA _ _ _ _ _ _ _ _ _ _ | show goB _ _ _ _ _ _ _ _ _ | show goAD _ _ _ _ _ _ _ _ _ _ _ _ _ _ | show goBD _ _ _ _ _ _ _ _ _ _ _); refine sx ?_)
    | refine VW.condT cx ?_
    | refine VW.condF cx ?_
    | refine VW.cond ex ?_ ?_
    | refine imp_nt ?_
    | refine imp_nf ?_
    | refine imp_dt (fun _ => ?_)
    | refine imp_df (fun _ => ?_)
    | (refine fun (_ : _ = true) => ?_)
    | (refine fun (_ : _ = false) => ?_)
    | refine vg_t ?_ ?_
    | refine vg_f ?_ ?_)
        exact ⟨_, M, v, cx, cx, cx, cx, h'.mono (by omega), hf, hv'⟩
    · refine VC.wri (hm2 _ _) (by omega) (fun _ _ => rfl) fun e a' m' hB h' => ?_
      have hq : a'.c = a.c ∧ a'.h = a.h := by rcases hB with ⟨_, _, rfl⟩ | ⟨_, _, _, rfl⟩ | ⟨s, ks, _, _, _, rfl⟩ <;> exact ⟨rfl, rfl⟩
      have hf : a'.fit := by unfold Ab.fit; rw [hq.1, hq.2]; exact ⟨f1, f2, f3, f4⟩
      have hh' : high ≤ a'.h := by omega
      clear hm2 hB hq
      refine sy ?_
      repeat' (first
    | exact True.intro
    | refine VW.seq ?_
    | refine VW.block ?_
    | ((first | refine VW.skip ?_ | refine VW.exit ?_ | refine VW.reg ?_ | refine VW.regD ?_ | refine VW.ret ?_ | show goA _ _ _ _ _ _ _ _ _ _ | show goB _ _ _ _ _ _ _ _ _ | show goAD _ _ _ _ _ _ _ _ _ _ _ _ _ _ | show goBD _ _ _ _ _ _ _ _ _ _ _); refine sx ?_)
    | refine VW.condT cx ?_
    | refine VW.condF cx ?_
    | refine VW.cond ex ?_ ?_
    | refine imp_nt ?_
    | refine imp_nf ?_
    | refine imp_dt (fun _ => ?_)
    | refine imp_df (fun _ => ?_)
    | (refine fun (_ : _ = true) => ?_)
    | (refine fun (_ : _ = false) => ?_)
    | refine vg_t ?_ ?_
    | refine vg_f ?_ ?_)
      exact ⟨_, M, high, cx, cx, cx, cx, h'.mono (by omega), hf, hh'⟩
    · refine VC.com (hm2 _ _) (by omega) fun v e a' m' hB h' => ?_
      rcases hB.high ⟨f1, f2, f3, f4⟩ with ⟨he, rfl⟩ | ⟨rfl, g1, g2, g3, g4, g5⟩
      · clear hB
        refine sy ?_
        repeat' (first
    | exact True.intro
    | refine VW.seq ?_
    | refine VW.block ?_
    | ((first | refine VW.skip ?_ | refine VW.exit ?_ | refine VW.reg ?_ | refine VW.regD ?_ | refine VW.ret ?_ | show goA _ _ _ _ _ _ _ _ _ _ | show goB _ _ _ _ _ _ _ _ _ | show goAD _ _ _ _ _ _ _ _ _ _ _ _ _ _ | show goBD _ _ _ _ _ _ _ _ _ _ _); refine sx ?_)
    | refine VW.condT cx ?_
    | refine VW.condF cx ?_
    | refine VW.cond ex ?_ ?_
    | refine imp_nt ?_
    | refine imp_nf ?_
    | refine imp_dt (fun _ => ?_)
    | refine imp_df (fun _ => ?_)
    | (refine fun (_ : _ = true) => ?_)
    | (refine fun (_ : _ = false) => ?_)
    | refine vg_t ?_ ?_
    | refine vg_f ?_ ?_)
        exact ⟨a', M, high, cx, cx, cx, cx, h'.mono (by omega), ⟨f1, f2, f3, f4⟩, hh⟩
      · have hlt : ¬ v ≤ high := by omega
        have hlc : ¬ v < a.c := by omega
        have hf : a'.fit := by unfold Ab.fit; rw [g4, g5]; exact ⟨f1, f2, by omega, by omega⟩
        have hv' : v ≤ a'.h := by omega
        clear hB hm2 g1 g2 g3 g4
        refine sy ?_
        repeat' (first
    | exact True.intro
    | refine VW.seq ?_
    | refine VW.block ?_
    | ((first | refine VW.skip ?_ | refine VW.exit ?_ | refine VW.reg ?_ | refine VW.regD ?_ | refine VW.ret ?_ | show goA _ _ _ _ _ _ _ _ _ _ | show goB _ _ _ _ _ _ _ _ _ | show goAD _ _ _ _ _ _ _ _ _ _ _ _ _ _ | show goBD _ _ _ _ _ _ _ _ _ _ _); refine sx ?_)
    | refine VW.condT cx ?_
    | refine VW.condF cx ?_
    | refine VW.cond ex ?_ ?_
    | refine imp_nt ?_
    | refine imp_nf ?_
    | refine imp_dt (fun _ => ?_)
    | refine imp_df (fun _ => ?_)
    | (refine fun (_ : _ = true) => ?_)
    | (refine fun (_ : _ = false) => ?_)
    | refine vg_t ?_ ?_
    | refine vg_f ?_ ?_)
        refine VC.clkE (r := a.c) h' (by omega) (fun _ _ => rfl) g5 ?_
        clear g5
        refine sy ?_
        repeat' (first
    | exact True.intro
    | refine VW.seq ?_
    | refine VW.block ?_
    | ((first | refine VW.skip ?_ | refine VW.exit ?_ | refine VW.reg ?_ | refine VW.regD ?_ | refine VW.ret ?_ | show goA _ _ _ _ _ _ _ _ _ _ | show goB _ _ _ _ _ _ _ _ _ | show goAD _ _ _ _ _ _ _ _ _ _ _ _ _ _ | show goBD _ _ _ _ _ _ _ _ _ _ _); refine sx ?_)
    | refine VW.condT cx ?_
    | refine VW.condF cx ?_
    | refine VW.cond ex ?_ ?_
    | refine imp_nt ?_
    | refine imp_nf ?_
    | refine imp_dt (fun _ => ?_)
    | refine imp_df (fun _ => ?_)
    | (refine fun (_ : _ = true) => ?_)
    | (refine fun (_ : _ = false) => ?_)
    | refine vg_t ?_ ?_
    | refine vg_f ?_ ?_)
        exact ⟨_, M, v, cx, cx, cx, cx, h'.mono (by omega), hf, hv'⟩
    · refine VC.fin (hm2 _ _) (by omega) (fun _ _ => rfl) fun e a' m' hB h' => ?_
      have hq : a'.c = a.c ∧ a'.h = a.h := by rcases hB with ⟨_, _, rfl⟩ | ⟨_, _, _, rfl⟩ | ⟨s, _, _, _, rfl⟩ <;> exact ⟨rfl, rfl⟩
      have hf : a'.fit := by unfold Ab.fit; rw [hq.1, hq.2]; exact ⟨f1, f2, f3, f4⟩
      have hh' : high ≤ a'.h := by omega
      clear hm2 hB hq
      refine sy ?_
      repeat' (first
    | exact True.intro
    | refine VW.seq ?_
    | refine VW.block ?_
    | ((first | refine VW.skip ?_ | refine VW.exit ?_ | refine VW.reg ?_ | refine VW.regD ?_ | refine VW.ret ?_ | show goA _ _ _ _ _ _ _ _ _ _ | show goB _ _ _ _ _ _ _ _ _ | show goAD _ _ _ _ _ _ _ _ _ _ _ _ _ _ | show goBD _ _ _ _ _ _ _ _ _ _ _); refine sx ?_)
    | refine VW.condT cx ?_
    | refine VW.condF cx ?_
    | refine VW.cond ex ?_ ?_
    | refine imp_nt ?_
    | refine imp_nf ?_
    | refine imp_dt (fun _ => ?_)
    | refine imp_df (fun _ => ?_)
    | (refine fun (_ : _ = true) => ?_)
    | (refine fun (_ : _ = false) => ?_)
    | refine vg_t ?_ ?_
    | refine vg_f ?_ ?_)
      exact ⟨_, M, high, cx, cx, cx, cx, h'.mono (by omega), hf, hh'⟩
    · refine VC.tic (hm2 _ _) (by omega) (fun _ _ => rfl) fun m' h' => ?_
      have hT := tickF_in (c := a.c) (n := d.n) f1 f2
      have hf : Ab.fit { a with c := tickF a.c d.n } := ⟨by show 0 ≤ tickF a.c d.n; omega, hT.2, f3, f4⟩
      clear hm2 hT
      refine sy ?_
      repeat' (first
    | exact True.intro
    | refine VW.seq ?_
    | refine VW.block ?_
    | ((first | refine VW.skip ?_ | refine VW.exit ?_ | refine VW.reg ?_ | refine VW.regD ?_ | refine VW.ret ?_ | show goA _ _ _ _ _ _ _ _ _ _ | show goB _ _ _ _ _ _ _ _ _ | show goAD _ _ _ _ _ _ _ _ _ _ _ _ _ _ | show goBD _ _ _ _ _ _ _ _ _ _ _); refine sx ?_)
    | refine VW.condT cx ?_
    | refine VW.condF cx ?_
    | refine VW.cond ex ?_ ?_
    | refine imp_nt ?_
    | refine imp_nf ?_
    | refine imp_dt (fun _ => ?_)
    | refine imp_df (fun _ => ?_)
    | (refine fun (_ : _ = true) => ?_)
    | (refine fun (_ : _ = false) => ?_)
    | refine vg_t ?_ ?_
    | refine vg_f ?_ ?_)
      exact ⟨_, M, high, cx, cx, cx, cx, h'.mono (by omega), hf, hh⟩
    · exact ⟨a, M, high, cx, cx, cx, cx, (hm2 _ _).mono (by omega), ⟨f1, f2, f3, f4⟩, hh⟩
  · by_cases hin : i < l.length
    · obtain rfl : i = 60 := by omega
      have hin' : (60 : Int) < l.length := by omega
      repeat' (first
    | exact True.intro
    | refine VW.seq ?_
    | refine VW.block ?_
    | ((first | refine VW.skip ?_ | refine VW.exit ?_ | refine VW.reg ?_ | refine VW.regD ?_ | refine VW.ret ?_ | show goA _ _ _ _ _ _ _ _ _ _ | show goB _ _ _ _ _ _ _ _ _ | show goAD _ _ _ _ _ _ _ _ _ _ _ _ _ _ | show goBD _ _ _ _ _ _ _ _ _ _ _); refine sx ?_)
    | refine VW.condT cx ?_
    | refine VW.condF cx ?_
    | refine VW.cond ex ?_ ?_
    | refine imp_nt ?_
    | refine imp_nf ?_
    | refine imp_dt (fun _ => ?_)
    | refine imp_df (fun _ => ?_)
    | (refine fun (_ : _ = true) => ?_)
    | (refine fun (_ : _ = false) => ?_)
    | refine vg_t ?_ ?_
    | refine vg_f ?_ ?_)
      exact .v exR exR
    · have hin' : ¬ (i : Int) < l.length := by omega
      repeat' (first
    | exact True.intro
    | refine VW.seq ?_
    | refine VW.block ?_
    | ((first | refine VW.skip ?_ | refine VW.exit ?_ | refine VW.reg ?_ | refine VW.regD ?_ | refine VW.ret ?_ | show goA _ _ _ _ _ _ _ _ _ _ | show goB _ _ _ _ _ _ _ _ _ | show goAD _ _ _ _ _ _ _ _ _ _ _ _ _ _ | show goBD _ _ _ _ _ _ _ _ _ _ _); refine sx ?_)
    | refine VW.condT cx ?_
    | refine VW.condF cx ?_
    | refine VW.cond ex ?_ ?_
    | refine imp_nt ?_
    | refine imp_nf ?_
    | refine imp_dt (fun _ => ?_)
    | refine imp_df (fun _ => ?_)
    | (refine fun (_ : _ = true) => ?_)
    | (refine fun (_ : _ = false) => ?_)
    | refine vg_t ?_ ?_
    | refine vg_f ?_ ?_)
      exact .v exR exR
theorem v5 (l : List Dd) (b : Nat) : V Try.prog 5 [.sl (dds l)] mt b (.bool true) mt := V.code mixed k5 (by simp) (w5 l b)
end Go.Vx
/- What the laws' arguments are. -/
set_option linter.unusedSimpArgs false
set_option linter.unusedVariables false
namespace Go.Vx
open Go Go.Proofs
theorem rows_of {α : Type} {N : Nat} {cs : List CT} {f : α → List PV} (hf : ∀ x : List PV, x.length = cs.length → (∀ (j : Nat) c p, cs[j]? = some c → x[j]? = some p → HasCT N c p) → ∃ a, x = f a) :
    ∀ xs : List (List PV), (∀ x ∈ xs, x.length = cs.length) → (∀ x ∈ xs, ∀ (j : Nat) c p, cs[j]? = some c → x[j]? = some p → HasCT N c p) → ∃ l : List α, xs = l.map f
  | [], _, _ => ⟨[], rfl⟩
  | x :: xs, g1, g2 => by
    obtain ⟨l, rfl⟩ := rows_of hf xs (fun y hy => g1 y (List.mem_cons_of_mem _ hy)) fun y hy => g2 y (List.mem_cons_of_mem _ hy)
    obtain ⟨a, rfl⟩ := hf x (g1 x List.mem_cons_self) (g2 x List.mem_cons_self)
    exact ⟨a :: l, rfl⟩
theorem fits_rows {α : Type} {N : Nat} {cs : List CT} {f : α → List PV} (hf : ∀ x : List PV, x.length = cs.length → (∀ (j : Nat) c p, cs[j]? = some c → x[j]? = some p → HasCT N c p) → ∃ a, x = f a) {q : PV} (h : Fits N [.sl cs] false q) : ∃ l : List α, q = .sl (l.map f) ∧ l.length ≤ N := by
  obtain ⟨ct, h1, h2⟩ := h
  injection h1 with h1; subst h1
  cases h2 with
  | sl _ xs hl h1 h =>
    obtain ⟨l, rfl⟩ := rows_of hf xs h1 h
    exact ⟨l, rfl, by simpa using hl⟩
theorem fits_dds {q : PV} {N : Nat} (h : Fits N [.sl [.int .i64, .int .i64, .str, .int .i64]] false q) : ∃ l, q = .sl (dds l) ∧ l.length ≤ N :=
  fits_rows (f := fun d : Dd => [iv d.k, iv d.i, .str d.key, iv d.n]) (fun x hl hx => by
    match x, hl with
    | [p, q, r, s], _ =>
      have h1 := hx 0 _ p rfl rfl
      have h2 := hx 1 _ q rfl rfl
      have h3 := hx 2 _ r rfl rfl
      have h4 := hx 3 _ s rfl rfl
      cases h1; cases h2; cases h3; cases h4
      exact ⟨⟨_, _, _, _⟩, rfl⟩) h
def strs (l : List Str) : List (List PV) := l.map fun s => [.str s]
theorem fits_strs {q : PV} {N : Nat} (h : Fits N [.sl [.str]] false q) : ∃ l, q = .sl (strs l) ∧ l.length ≤ N :=
  fits_rows (f := fun s : Str => [.str s]) (fun x hl hx => by
    match x, hl with
    | [p], _ =>
      have h1 := hx 0 _ p rfl rfl
      cases h1
      exact ⟨_, rfl⟩) h
/-- Strings, no longer than may be. -/
theorem fits_strsB {q : PV} {N : Nat} (h : Fits N [.sl [.str]] false q) : ∃ l, q = .sl (strs l) ∧ (∀ s ∈ l, s.length ≤ N) ∧ l.length ≤ N := by
  obtain ⟨l, rfl, h1⟩ := fits_strs h
  refine ⟨l, rfl, fun s hs => ?_, h1⟩
  obtain ⟨ct, h1, h2⟩ := h
  injection h1 with h1; subst h1
  cases h2 with
  | sl _ xs hl h1 h =>
    have := h [.str s] (List.mem_map.2 ⟨s, hs, rfl⟩) 0 .str (.str s) rfl rfl
    cases this; assumption
theorem fits_ddsB {q : PV} {N : Nat} (h : Fits N [.sl [.int .i64, .int .i64, .str, .int .i64]] false q) : ∃ l, q = .sl (dds l) ∧ (∀ d ∈ l, d.key.length ≤ N) ∧ l.length ≤ N := by
  obtain ⟨l, rfl, h1⟩ := fits_dds h
  refine ⟨l, rfl, fun d hs => ?_, h1⟩
  obtain ⟨ct, h1, h2⟩ := h
  injection h1 with h1; subst h1
  cases h2 with
  | sl _ xs hl h1 h =>
    have := h _ (List.mem_map.2 ⟨d, hs, rfl⟩) 2 .str (.str d.key) rfl rfl
    cases this; assumption
theorem fits_str {q : PV} {N : Nat} (h : Fits N [.str] false q) : ∃ s, q = .str s ∧ s.length ≤ N := by
  obtain ⟨ct, h1, h2⟩ := h
  injection h1 with h1; subst h1
  cases h2; exact ⟨_, rfl, ‹_›⟩
theorem fits_bool {q : PV} {N : Nat} (h : Fits N [.bool] false q) : ∃ s, q = .bool s ∧ True := by
  obtain ⟨ct, h1, h2⟩ := h
  injection h1 with h1; subst h1
  cases h2; exact ⟨_, rfl, trivial⟩
abbrev by8 (n : Int) : PV := .int .u8 n
def bys (l : List Int) : List (List PV) := l.map fun n => [by8 n]
theorem fits_bys {q : PV} {N : Nat} (h : Fits N [.sl [.int .u8]] false q) : ∃ l, q = .sl (bys l) ∧ (∀ n ∈ l, 0 ≤ n ∧ n < 256) := by
  obtain ⟨l, rfl, h1⟩ := fits_rows (f := fun n : Int => [by8 n]) (fun x hl hx => by
    match x, hl with
    | [p], _ =>
      have h1 := hx 0 _ p rfl rfl
      cases h1
      exact ⟨_, rfl⟩) h
  refine ⟨l, rfl, fun s hs => ?_⟩
  obtain ⟨ct, h1, h2⟩ := h
  injection h1 with h1; subst h1
  cases h2 with
  | sl _ xs hl h1 h =>
    have := h _ (List.mem_map.2 ⟨s, hs, rfl⟩) 0 (.int .u8) (by8 s) rfl rfl
    cases this with
    | int k n hw =>
      have hw' : (decide (IntKind.u8.min ≤ s) && decide (s ≤ IntKind.u8.max)) = true := hw
      simp only [Bool.and_eq_true, decide_eq_true_eq] at hw'
      have h1 : IntKind.u8.min = 0 := rfl
      have h2 : IntKind.u8.max = 255 := rfl
      omega
theorem ct_dds : cellsTy Try.prog 5 22 = some [.sl [.int .i64, .int .i64, .str, .int .i64]] := by kernel_rfl
theorem ct_strs : cellsTy Try.prog 5 23 = some [.sl [.str]] := by kernel_rfl
theorem ct_str : cellsTy Try.prog 5 9 = some [.str] := by kernel_rfl
theorem ct_bool : cellsTy Try.prog 5 4 = some [.bool] := by kernel_rfl
theorem ct_bys : cellsTy Try.prog 5 53 = some [.sl [.int .u8]] := by kernel_rfl
theorem ag_dds : tyAgg Try.prog 22 = some false := by kernel_rfl
theorem ag_strs : tyAgg Try.prog 23 = some false := by kernel_rfl
theorem ag_str : tyAgg Try.prog 9 = some false := by kernel_rfl
theorem ag_bool : tyAgg Try.prog 4 = some false := by kernel_rfl
theorem ag_bys : tyAgg Try.prog 53 = some false := by kernel_rfl
theorem reps1 {w : World} {ok : Nat → Prop} {β : Ids} {p : PV} {v : Value} (h : Rep w ok β p v) : Reps w ok β [p] [v] := ⟨rfl, fun j q u h1 h2 => by
  match j with
  | 0 => simp at h1 h2; subst h1; subst h2; exact h
  | j + 1 => simp at h1⟩
theorem repsC {w : World} {ok : Nat → Prop} {β : Ids} {p : PV} {v : Value} {ps : List PV} {vs : List Value} (h : Rep w ok β p v) (hs : Reps w ok β ps vs) : Reps w ok β (p :: ps) (v :: vs) := ⟨by simp [hs.1], fun j q u h1 h2 => by
  match j with
  | 0 => simp at h1 h2; subst h1; subst h2; exact h
  | j + 1 => simp at h1 h2; exact hs.2 j q u h1 h2⟩
theorem bulk_part {H : Type} {d : DataW H} {l : List (DataW H)} (h : d ∈ l) : Proofs.Ytgkkffhoflgpoaa.Rows.uptoBulk d ≤ Proofs.Ytgkkffhoflgpoaa.Rows.uptoBulkAll l := by
  induction l with
  | nil => cases h
  | cons x r ih =>
    simp only [Proofs.Ytgkkffhoflgpoaa.Rows.uptoBulkAll]
    cases List.mem_cons.1 h with
    | inl e => subst e; omega
    | inr e => have := ih e; omega
theorem bulk_one {H : Type} (d : DataW H) : 1 ≤ Proofs.Ytgkkffhoflgpoaa.Rows.uptoBulk d := by
  cases d with
  | lit l => cases l <;> simp [Proofs.Ytgkkffhoflgpoaa.Rows.uptoBulk]
  | _ => simp [Proofs.Ytgkkffhoflgpoaa.Rows.uptoBulk]
theorem bulk_len {H : Type} (l : List (DataW H)) : l.length ≤ Proofs.Ytgkkffhoflgpoaa.Rows.uptoBulkAll l := by
  induction l with
  | nil => simp
  | cons x r ih => have := bulk_one x; simp only [Proofs.Ytgkkffhoflgpoaa.Rows.uptoBulkAll, List.length_cons]; omega
/-- What is of small bulk holds nothing long. -/
theorem smallU {H : Type} : Small (H := H) (fun d => Proofs.Ytgkkffhoflgpoaa.Rows.uptoBulk d ≤ 1048576) 1048576 := by
  refine ⟨fun s _ h => ?_, fun xs ys h => ⟨fun _ => ?_, fun x hx => ?_⟩, fun xs h x hx => ?_⟩
  · simp only [Proofs.Ytgkkffhoflgpoaa.Rows.uptoBulk] at h; omega
  · simp only [Proofs.Ytgkkffhoflgpoaa.Rows.uptoBulk] at h; have := bulk_len xs; omega
  · simp only [Proofs.Ytgkkffhoflgpoaa.Rows.uptoBulk] at h; have := bulk_part hx; omega
  · simp only [Proofs.Ytgkkffhoflgpoaa.Rows.uptoBulk] at h; have := bulk_part hx; omega
theorem smallB {H : Type} {l : List (DataW H)} (h : Proofs.Ytgkkffhoflgpoaa.Rows.uptoSmall H l = true) : ∀ d ∈ l, Proofs.Ytgkkffhoflgpoaa.Rows.uptoBulk d ≤ 1048576 := fun d hd => by
  have h1 := of_decide_eq_true h
  have := bulk_part hd
  omega
end Go.Vx
namespace Go.Proofs.Ytgkkffhoflgpoaa
open Go.ChangeShapes Go.WideShapes Go.ChangeAt Go.RowKit Go.Vx

theorem own : ownKnob Try.prog.godebug = none := by kernel_rfl
theorem laidOut : laidOutB Try.prog = true := by kernel_rfl

end Go.Proofs.Ytgkkffhoflgpoaa
