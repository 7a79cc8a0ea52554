/- Walks of the reference's manager: Commit, Writes; SameTexts. -/
import Derived.Test.YtgkkffhoflgpoaaGJ
set_option linter.unusedSimpArgs false
set_option linter.unusedVariables false
set_option maxRecDepth 4000
set_option maxHeartbeats 2000000
namespace Go.Vx
open Go Go.Proofs

structure RTested (P : Program) : Prop where
  yes : ∀ M b, M < b → ∀ g z i, Ix z i → Mg.ok g b → (g.get i).o = true → ∀ ks, slP (g.get i).k (strs ks) → ks.length < 1000 → ∀ dn, slP g.w (dns dn) → dn.length < 100000 →
    V P 33 [.ptr M 15 0 0, iv z] (ofL [(M, g.rbox)]) b (iv (rtestF ks dn (g.get i).s g.h)) (ofL [(M, g.rbox)])
  shut : ∀ M b, M < b → ∀ g z i, Ix z i → Mg.ok g b → (g.get i).o = false → V P 33 [.ptr M 15 0 0, iv z] (ofL [(M, g.rbox)]) b (iv 7) (ofL [(M, g.rbox)])
  no : ∀ M b, M < b → ∀ z, (z < 0 ∨ 4 ≤ z) → V P 33 [.ptr M 15 0 0, iv z] mt b (iv 2) mt

def putD (dn : List (Str × Int)) (ks : List Str) (h : Int) (i : Nat) : List (Str × Int) := dn ++ (ks.take i).map fun k => (k, h)
/-- The cell of what is done. -/
def pcD (p : PV) (dn : List (Str × Int)) (ks : List Str) (h : Int) (i : Nat) : PV := if i = 0 then p else .sl (dns (putD dn ks h i))
theorem pcD_slP {p : PV} {dn : List (Str × Int)} {ks : List Str} {h : Int} {i : Nat} (hp : slP p (dns dn)) : slP (pcD p dn ks h i) (dns (putD dn ks h i)) := by
  unfold pcD
  split
  · rename_i h0; subst h0; simpa [putD] using hp
  · exact .inr rfl
theorem putD_step {dn : List (Str × Int)} {ks : List Str} {h : Int} {i : Nat} {x : Str} (hx : ks[i]? = some x) : dns (putD dn ks h i) ++ [[.str x, iv h]] = dns (putD dn ks h (i + 1)) := by
  simp [putD, List.take_add_one, hx, dns]
theorem putD_len {dn : List (Str × Int)} {ks : List Str} {h : Int} {i : Nat} (hi : i ≤ ks.length) : (putD dn ks h i).length = dn.length + i := by
  simp [putD]; omega

section
variable {P : Program}
def JK (g' : Mg) (M : Nat) (z : Int) (ks : List Str) (dn : List (Str × Int)) (b : Nat) (i : Nat) (e : Env) (m : Mem) (nx : Nat) : Prop :=
  ∃ p, e 0 = some (.ptr M 15 0 0) ∧ e 1 = some (iv z) ∧ e 7 = some (iv i) ∧ m M = some (({ g' with w := p } : Mg).rbox) ∧ b ≤ nx ∧
    (p = pcD g'.w dn ks g'.h i ∨ ∃ D T, 0 < i ∧ p = .osl D (putD dn ks g'.h i).length ∧ m D = some (.row 2 (dns (putD dn ks g'.h i)) T false))
theorem JK.go {g' : Mg} {M : Nat} {z : Int} {ks : List Str} {dn : List (Str × Int)} {b i : Nat} {e : Env} {m : Mem} {nx : Nat} {x : XCode} {Q : Post} (h : JK g' M z ks dn b i e m nx)
    (hk : ∀ m', e 0 = some (.ptr M 15 0 0) → e 1 = some (iv z) → e 7 = some (iv i) → m' M = some (({ g' with w := pcD g'.w dn ks g'.h i } : Mg).rbox) → b ≤ nx → VW P x Q e m' nx) : VW P x Q e m nx := by
  obtain ⟨p, e0, e1, e7, hm, hb, rfl | ⟨D, T, hi, rfl, hD⟩⟩ := h
  · exact hk m e0 e1 e7 hm hb
  · have hne := ne_of_obj hm hD (by simp)
    have hMD : M ≠ D := by simpa using hne
    have hf : frz m [D] D = some (.row 2 (dns (putD dn ks g'.h i)) T true) := by simp [frz, hD, Obj.freeze]
    have hfm : frz m [D] M = some (({ g' with w := .osl D (putD dn ks g'.h i).length } : Mg).rbox) := by simp [frz, hMD, hm]
    refine VW.freeze [D] (VW.cells (cs' := [iv g'.c, iv g'.h, .bool g'.a0.o, iv g'.a0.s, g'.a0.k, .bool g'.a1.o, iv g'.a1.s, g'.a1.k, .bool g'.a2.o, iv g'.a2.s, g'.a2.k, .bool g'.a3.o, iv g'.a3.s, g'.a3.k, pcD g'.w dn ks g'.h i]) hfm rfl ?_ (hk _ e0 e1 e7 ?_ hb))
    · intro j c c' hc hc'
      have hlen := (List.getElem?_eq_some_iff.1 hc).1
      simp only [List.length_cons, List.length_nil] at hlen
      have hpc : pcD g'.w dn ks g'.h i = .sl (dns (putD dn ks g'.h i)) := by unfold pcD; rw [if_neg (by omega)]
      have htk : (dns (putD dn ks g'.h i)).take (putD dn ks g'.h i).length = dns (putD dn ks g'.h i) := by rw [← dns_len]; exact List.take_length
      have hlast : pur true (frz m [D]) (.osl D (putD dn ks g'.h i).length) = some (pcD g'.w dn ks g'.h i) := by
        simp only [pur, hf, dns_len, Nat.le_refl, true_and, implies_true, if_true, htk, hpc]
      obtain h | h : j < 14 ∨ j = 14 := by omega
      · left
        have : j = 0 ∨ j = 1 ∨ j = 2 ∨ j = 3 ∨ j = 4 ∨ j = 5 ∨ j = 6 ∨ j = 7 ∨ j = 8 ∨ j = 9 ∨ j = 10 ∨ j = 11 ∨ j = 12 ∨ j = 13 := by omega
        rcases this with rfl | rfl | rfl | rfl | rfl | rfl | rfl | rfl | rfl | rfl | rfl | rfl | rfl | rfl <;> (simp at hc hc'; rw [← hc, ← hc'])
      · right
        subst h
        simp at hc hc'
        rw [← hc, ← hc']; exact hlast
    · rw [upd_same]

theorem VC.rtest (h1 : RTested P) {M b : Nat} (hM : M < b) {g : Mg} {z : Int} {i : Nat} (hi : Ix z i) (hg : g.ok b) (ho : (g.get i).o = true) {ks : List Str} (hks : slP (g.get i).k (strs ks)) (hkl : ks.length < 1000) {dn : List (Str × Int)} (hd : slP g.w (dns dn)) (hdl : dn.length < 100000)
    {m : Mem} (hm : m M = some g.rbox) {nd : Bool} {K' : PV → Mem → Prop} (hK' : K' (iv (rtestF ks dn (g.get i).s g.h)) m) : VC P b (.f 33) [.ptr M 15 0 0, iv z] true nd K' m m :=
  .same (qs := [.ptr M 15 0 0, iv z]) (l := [(M, g.rbox)]) ⟨.inl ⟨rfl, by simpa [PV.lt, lt1] using hM⟩, .inl ⟨rfl, rfl⟩, trivial⟩ (by simp only [List.mem_cons, List.not_mem_nil, or_false, forall_eq, forall_eq_or_imp]; exact ⟨hm, hM, by simpa using Mg.rblt (k := 0) hg⟩) (h1.yes M b hM g z i hi hg ho ks hks hkl dn hd hdl) hK'

theorem w_rcommitR (h1 : RTested P) (M b : Nat) (hM : M < b) (z : Int) (hi : z < 0 ∨ 4 ≤ z) : VW P c43 (PRet (Ends [.tmp 4, .tmp 5] b (.tup [iv 0, iv 2]) mt)) (fun t => [PV.ptr M 15 0 0, iv z][t]?) mt b := by
  unfold c43
  obtain ⟨n1, n2, n3, n4, n5⟩ := below_ne hM
  repeat' (first
    | exact True.intro
    | refine VW.seq ?_
    | refine VW.block ?_
    | ((first | refine VW.skip ?_ | refine VW.exit ?_ | refine VW.reg ?_ | refine VW.regD ?_ | refine VW.ret ?_ | show goA _ _ _ _ _ _ _ _ _ _ | show goB _ _ _ _ _ _ _ _ _ | show goAD _ _ _ _ _ _ _ _ _ _ _ _ _ _ | show goBD _ _ _ _ _ _ _ _ _ _ _); refine sx ?_)
    | refine VW.condT cx ?_
    | refine VW.condF cx ?_
    | refine VW.cond ex ?_ ?_
    | refine imp_nt ?_
    | refine imp_nf ?_
    | refine imp_dt (fun _ => ?_)
    | refine imp_df (fun _ => ?_)
    | (refine fun (_ : _ = true) => ?_)
    | (refine fun (_ : _ = false) => ?_)
    | refine vg_t ?_ ?_
    | refine vg_f ?_ ?_)
  refine VC.pure [.ptr M 15 0 0, iv z] _ ⟨.inl ⟨rfl, by simp -implicitDefEqProofs only [ltS, lt8, List.all_cons, List.all_nil, eng, reduceIte, reduceCtorEq, Nat.reduceAdd, Nat.reduceMul, Nat.reduceSub, Nat.reduceEqDiff, Nat.reduceLeDiff, Nat.reduceLT, Nat.reduceDiv, Nat.reduceMod, Int.reduceLE, Int.reduceLT, Int.reduceEq, Int.reduceNeg, Int.reduceAdd, Int.reduceSub, Int.reduceToNat, Nat.reducePow, Int.ofNat_zero, Int.natCast_one, Int.cast_ofNat_Int, *]⟩, .inl ⟨rfl, rfl⟩, trivial⟩ (h1.no M _ (by omega) z hi) ?_
  refine sx ?_
  repeat' (first
    | exact True.intro
    | refine VW.seq ?_
    | refine VW.block ?_
    | ((first | refine VW.skip ?_ | refine VW.exit ?_ | refine VW.reg ?_ | refine VW.regD ?_ | refine VW.ret ?_ | show goA _ _ _ _ _ _ _ _ _ _ | show goB _ _ _ _ _ _ _ _ _ | show goAD _ _ _ _ _ _ _ _ _ _ _ _ _ _ | show goBD _ _ _ _ _ _ _ _ _ _ _); refine sx ?_)
    | refine VW.condT cx ?_
    | refine VW.condF cx ?_
    | refine VW.cond ex ?_ ?_
    | refine imp_nt ?_
    | refine imp_nf ?_
    | refine imp_dt (fun _ => ?_)
    | refine imp_df (fun _ => ?_)
    | (refine fun (_ : _ = true) => ?_)
    | (refine fun (_ : _ = false) => ?_)
    | refine vg_t ?_ ?_
    | refine vg_f ?_ ?_)
  exact .v exR exR
theorem w_rcommit0 (h1 : RTested P) (M b : Nat) (hM : M < b) (g : Mg) (hg : g.ok b) (z : Int) (i : Nat) (hi : Ix z i) (ho : (g.get i).o = false) (m : Mem) (hm : m M = some g.rbox) : VW P c43 (PRet (Ends [.tmp 4, .tmp 5] b (.tup [iv 0, iv 7]) (ofL [(M, g.rbox)]))) (fun t => [PV.ptr M 15 0 0, iv z][t]?) m b := by
  unfold c43
  obtain ⟨n1, n2, n3, n4, n5⟩ := below_ne hM
  have hk := rone_keep hM hm hg
  repeat' (first
    | exact True.intro
    | refine VW.seq ?_
    | refine VW.block ?_
    | ((first | refine VW.skip ?_ | refine VW.exit ?_ | refine VW.reg ?_ | refine VW.regD ?_ | refine VW.ret ?_ | show goA _ _ _ _ _ _ _ _ _ _ | show goB _ _ _ _ _ _ _ _ _ | show goAD _ _ _ _ _ _ _ _ _ _ _ _ _ _ | show goBD _ _ _ _ _ _ _ _ _ _ _); refine sx ?_)
    | refine VW.condT cx ?_
    | refine VW.condF cx ?_
    | refine VW.cond ex ?_ ?_
    | refine imp_nt ?_
    | refine imp_nf ?_
    | refine imp_dt (fun _ => ?_)
    | refine imp_df (fun _ => ?_)
    | (refine fun (_ : _ = true) => ?_)
    | (refine fun (_ : _ = false) => ?_)
    | refine vg_t ?_ ?_
    | refine vg_f ?_ ?_)
  refine VC.same (qs := [.ptr M 15 0 0, iv z]) (l := [(M, g.rbox)]) ⟨.inl ⟨rfl, by simp -implicitDefEqProofs only [ltS, lt8, List.all_cons, List.all_nil, eng, reduceIte, reduceCtorEq, Nat.reduceAdd, Nat.reduceMul, Nat.reduceSub, Nat.reduceEqDiff, Nat.reduceLeDiff, Nat.reduceLT, Nat.reduceDiv, Nat.reduceMod, Int.reduceLE, Int.reduceLT, Int.reduceEq, Int.reduceNeg, Int.reduceAdd, Int.reduceSub, Int.reduceToNat, Nat.reducePow, Int.ofNat_zero, Int.natCast_one, Int.cast_ofNat_Int, *]⟩, .inl ⟨rfl, rfl⟩, trivial⟩ (by simp only [List.mem_cons, List.not_mem_nil, or_false, forall_eq, forall_eq_or_imp]; exact ⟨hm, by omega, Mg.rblt hg⟩) (h1.shut M _ (by omega) g z i hi (hg.mono (by omega)) ho) ?_
  refine sx ?_
  repeat' (first
    | exact True.intro
    | refine VW.seq ?_
    | refine VW.block ?_
    | ((first | refine VW.skip ?_ | refine VW.exit ?_ | refine VW.reg ?_ | refine VW.regD ?_ | refine VW.ret ?_ | show goA _ _ _ _ _ _ _ _ _ _ | show goB _ _ _ _ _ _ _ _ _ | show goAD _ _ _ _ _ _ _ _ _ _ _ _ _ _ | show goBD _ _ _ _ _ _ _ _ _ _ _); refine sx ?_)
    | refine VW.condT cx ?_
    | refine VW.condF cx ?_
    | refine VW.cond ex ?_ ?_
    | refine imp_nt ?_
    | refine imp_nf ?_
    | refine imp_dt (fun _ => ?_)
    | refine imp_df (fun _ => ?_)
    | (refine fun (_ : _ = true) => ?_)
    | (refine fun (_ : _ = false) => ?_)
    | refine vg_t ?_ ?_
    | refine vg_f ?_ ?_)
  exact .keep exR cxL hk
theorem w_rcommitE (h1 : RTested P) (M b : Nat) (hM : M < b) (g : Mg) (hg : g.ok b) (z : Int) (i : Nat) (hi : Ix z i) (ho : (g.get i).o = true) (ks : List Str) (hks : slP (g.get i).k (strs ks)) (hkl : ks.length < 1000) (dn : List (Str × Int)) (hd : slP g.w (dns dn)) (hdl : dn.length < 100000) (m : Mem) (hm : m M = some g.rbox) (ht : rtestF ks dn (g.get i).s g.h ≠ 0) :
    VW P c43 (PRet (Ends [.tmp 4, .tmp 5] b (.tup [iv 0, iv (rtestF ks dn (g.get i).s g.h)]) (ofL [(M, g.rbox)]))) (fun t => [PV.ptr M 15 0 0, iv z][t]?) m b := by
  unfold c43
  obtain ⟨n1, n2, n3, n4, n5⟩ := below_ne hM
  have hk := rone_keep hM hm hg
  repeat' (first
    | exact True.intro
    | refine VW.seq ?_
    | refine VW.block ?_
    | ((first | refine VW.skip ?_ | refine VW.exit ?_ | refine VW.reg ?_ | refine VW.regD ?_ | refine VW.ret ?_ | show goA _ _ _ _ _ _ _ _ _ _ | show goB _ _ _ _ _ _ _ _ _ | show goAD _ _ _ _ _ _ _ _ _ _ _ _ _ _ | show goBD _ _ _ _ _ _ _ _ _ _ _); refine sx ?_)
    | refine VW.condT cx ?_
    | refine VW.condF cx ?_
    | refine VW.cond ex ?_ ?_
    | refine imp_nt ?_
    | refine imp_nf ?_
    | refine imp_dt (fun _ => ?_)
    | refine imp_df (fun _ => ?_)
    | (refine fun (_ : _ = true) => ?_)
    | (refine fun (_ : _ = false) => ?_)
    | refine vg_t ?_ ?_
    | refine vg_f ?_ ?_)
  refine VC.rtest h1 (by omega) hi (hg.mono (by omega)) ho hks hkl hd hdl hm ?_
  generalize rtestF ks dn (g.get i).s g.h = t at *
  refine sx ?_
  repeat' (first
    | exact True.intro
    | refine VW.seq ?_
    | refine VW.block ?_
    | ((first | refine VW.skip ?_ | refine VW.exit ?_ | refine VW.reg ?_ | refine VW.regD ?_ | refine VW.ret ?_ | show goA _ _ _ _ _ _ _ _ _ _ | show goB _ _ _ _ _ _ _ _ _ | show goAD _ _ _ _ _ _ _ _ _ _ _ _ _ _ | show goBD _ _ _ _ _ _ _ _ _ _ _); refine sx ?_)
    | refine VW.condT cx ?_
    | refine VW.condF cx ?_
    | refine VW.cond ex ?_ ?_
    | refine imp_nt ?_
    | refine imp_nf ?_
    | refine imp_dt (fun _ => ?_)
    | refine imp_df (fun _ => ?_)
    | (refine fun (_ : _ = true) => ?_)
    | (refine fun (_ : _ = false) => ?_)
    | refine vg_t ?_ ?_
    | refine vg_f ?_ ?_)
  exact .keep exR cxL hk
theorem w_rcommit1 (h1 : RTested P) (M b : Nat) (hM : M < b) (g : Mg) (hg : g.ok b) (z : Int) (i : Nat) (hi : Ix z i) (ho : (g.get i).o = true) (ks : List Str) (hks : slP (g.get i).k (strs ks)) (hkl : ks.length < 1000) (dn : List (Str × Int)) (hd : slP g.w (dns dn)) (hdl : dn.length < 100000) (m : Mem) (hm : m M = some g.rbox) (ht : rtestF ks dn (g.get i).s g.h = 0)
    (h' : Int) (hh : max g.c (IntKind.i64.wrap (g.h + 1)) = h') :
    VW P c43 (PRet (Ends [.tmp 4, .tmp 5] b (.tup [iv h', iv 0]) (ofL [(M, (({ g with h := h', w := pcD g.w dn ks h' ks.length } : Mg).put i ⟨false, 0, .nsl⟩).rbox)]))) (fun t => [PV.ptr M 15 0 0, iv z][t]?) m b := by
  unfold c43
  obtain ⟨n1, n2, n3, n4, n5⟩ := below_ne hM
  have hlen := strs_len' (l := ks)
  repeat' (first
    | exact True.intro
    | refine VW.seq ?_
    | refine VW.block ?_
    | ((first | refine VW.skip ?_ | refine VW.exit ?_ | refine VW.reg ?_ | refine VW.regD ?_ | refine VW.ret ?_ | show goA _ _ _ _ _ _ _ _ _ _ | show goB _ _ _ _ _ _ _ _ _ | show goAD _ _ _ _ _ _ _ _ _ _ _ _ _ _ | show goBD _ _ _ _ _ _ _ _ _ _ _); refine sx ?_)
    | refine VW.condT cx ?_
    | refine VW.condF cx ?_
    | refine VW.cond ex ?_ ?_
    | refine imp_nt ?_
    | refine imp_nf ?_
    | refine imp_dt (fun _ => ?_)
    | refine imp_df (fun _ => ?_)
    | (refine fun (_ : _ = true) => ?_)
    | (refine fun (_ : _ = false) => ?_)
    | refine vg_t ?_ ?_
    | refine vg_f ?_ ?_)
  refine VC.rtest h1 (by omega) hi (hg.mono (by omega)) ho hks hkl hd hdl hm ?_
  rw [ht]
  refine sx ?_
  rcases hi.four with ⟨rfl, rfl⟩ | ⟨rfl, rfl⟩ | ⟨rfl, rfl⟩ | ⟨rfl, rfl⟩
  · simp only [Mg.get] at ho hks ⊢
    repeat' (first
    | exact True.intro
    | refine VW.seq ?_
    | refine VW.block ?_
    | ((first | refine VW.skip ?_ | refine VW.exit ?_ | refine VW.reg ?_ | refine VW.regD ?_ | refine VW.ret ?_ | show goA _ _ _ _ _ _ _ _ _ _ | show goB _ _ _ _ _ _ _ _ _ | show goAD _ _ _ _ _ _ _ _ _ _ _ _ _ _ | show goBD _ _ _ _ _ _ _ _ _ _ _); refine sx ?_)
    | refine VW.condT cx ?_
    | refine VW.condF cx ?_
    | refine VW.cond ex ?_ ?_
    | refine imp_nt ?_
    | refine imp_nf ?_
    | refine imp_dt (fun _ => ?_)
    | refine imp_df (fun _ => ?_)
    | (refine fun (_ : _ = true) => ?_)
    | (refine fun (_ : _ = false) => ?_)
    | refine vg_t ?_ ?_
    | refine vg_f ?_ ?_)
    refine VW.forN ks.length (JK { g with h := h' } M 0 ks dn b) 0 (by omega) ⟨g.w, cy, cy, ey, by simp -implicitDefEqProofs only [eng, reduceIte, reduceCtorEq, Nat.reduceAdd, Nat.reduceMul, Nat.reduceSub, Nat.reduceEqDiff, Nat.reduceLeDiff, Nat.reduceLT, Nat.reduceDiv, Nat.reduceMod, Int.reduceLE, Int.reduceLT, Int.reduceEq, Int.reduceNeg, Int.reduceAdd, Int.reduceSub, Int.reduceToNat, Nat.reducePow, Int.ofNat_zero, Int.natCast_one, Int.cast_ofNat_Int, Mg.rbox, *], by omega, .inl rfl⟩ ?_
    clear hm m
    intro i e m0 nx hi hJ
    refine hJ.go fun m e0 e1 e7 hm hbn => ?_
    clear hJ m0
    have hok : ∀ p, lt1s b p = true → ({ g with h := h', w := p } : Mg).ok b := fun p hp => ⟨hg.1, hg.2.1, hg.2.2.1, hg.2.2.2.1, hp⟩
    have hsp := pcD_slP (ks := ks) (h := h') (i := i) hd
    refine VW.below hm fun hlM => ?_
    obtain ⟨n1', n2', n3', n4', n5'⟩ := below_ne hlM
    by_cases hin : i < ks.length
    · have hks' : g.a0.k = .sl (strs ks) := by
        rcases hks with ⟨_, h0⟩ | h
        · rw [h0] at hlen; simp at hlen; omega
        · exact h
      have hin' : (i : Int) < ks.length := by omega
      obtain ⟨x, hx⟩ := get_of hin
      have hx' : (strs ks)[i]? = some [.str x] := by rw [strs_get', hx]; rfl
      have h00 : (0 : Int) ≤ i := by omega
      have htn : (i : Int).toNat = i := Int.toNat_natCast i
      have hw := i64_nat (n := i) (by omega)
      have hst := putD_step (dn := dn) (h := h') hx
      have hpl := putD_len (dn := dn) (h := h') (Nat.le_of_lt hin)
      have hpl' := putD_len (dn := dn) (h := h') (i := i + 1) hin
      clear hx
      replace hm : m M = some (({ g with h := h', w := pcD g.w dn ks h' i } : Mg).rbox) := hm
      have hnl : (putD dn ks h' (i + 1)).length = (putD dn ks h' i).length + 1 := by omega
      have hcl : (putD dn ks h' i).length < 110000 := by omega
      generalize pcD g.w dn ks h' i = p at *
      generalize putD dn ks h' i = cur at *
      obtain ⟨nxt, hnxt⟩ : ∃ nxt, nxt = putD dn ks h' (i + 1) := ⟨_, rfl⟩
      rw [← hnxt] at hst hnl
      clear hpl hpl'
      have hdl' := dns_len (l := cur)
      have hnx : ∀ q, nx ≤ nx + q := fun q => by omega
      have hall : allLen 2 (dns cur) := fun y hy => by obtain ⟨x, _, rfl⟩ := List.mem_map.1 hy; rfl
      have b1 : cur.length * 24 ≤ 140737488355328 := by omega
      have b2 : (cur.length + 1) * 24 ≤ 140737488355328 := by omega
      rcases hsp with ⟨rfl, hcur⟩ | rfl
      · have hc0 : cur.length = 0 := by rw [← dns_len, hcur]; rfl
        rw [hcur] at hst
        rw [hc0] at hnl
        repeat' (first
    | exact True.intro
    | refine VW.seq ?_
    | refine VW.block ?_
    | ((first | refine VW.skip ?_ | refine VW.exit ?_ | refine VW.reg ?_ | refine VW.regD ?_ | refine VW.ret ?_ | show goA _ _ _ _ _ _ _ _ _ _ | show goB _ _ _ _ _ _ _ _ _ | show goAD _ _ _ _ _ _ _ _ _ _ _ _ _ _ | show goBD _ _ _ _ _ _ _ _ _ _ _); refine sx ?_)
    | refine VW.condT cx ?_
    | refine VW.condF cx ?_
    | refine VW.cond ex ?_ ?_
    | refine imp_nt ?_
    | refine imp_nf ?_
    | refine imp_dt (fun _ => ?_)
    | refine imp_df (fun _ => ?_)
    | (refine fun (_ : _ = true) => ?_)
    | (refine fun (_ : _ = false) => ?_)
    | refine vg_t ?_ ?_
    | refine vg_f ?_ ?_)
        exact ⟨_, cx, cx, cx, by simp -implicitDefEqProofs only [eng, reduceIte, reduceCtorEq, Nat.reduceAdd, Nat.reduceMul, Nat.reduceSub, Nat.reduceEqDiff, Nat.reduceLeDiff, Nat.reduceLT, Nat.reduceDiv, Nat.reduceMod, Int.reduceLE, Int.reduceLT, Int.reduceEq, Int.reduceNeg, Int.reduceAdd, Int.reduceSub, Int.reduceToNat, Nat.reducePow, Int.ofNat_zero, Int.natCast_one, Int.cast_ofNat_Int, Mg.rbox, *] <;> rfl, by omega, .inr ⟨_, 85, by omega, by rw [← hnxt, hnl], by rw [← hnxt]; simp -implicitDefEqProofs only [eng, reduceIte, reduceCtorEq, Nat.reduceAdd, Nat.reduceMul, Nat.reduceSub, Nat.reduceEqDiff, Nat.reduceLeDiff, Nat.reduceLT, Nat.reduceDiv, Nat.reduceMod, Int.reduceLE, Int.reduceLT, Int.reduceEq, Int.reduceNeg, Int.reduceAdd, Int.reduceSub, Int.reduceToNat, Nat.reducePow, Int.ofNat_zero, Int.natCast_one, Int.cast_ofNat_Int, *]⟩⟩
      · repeat' (first
    | exact True.intro
    | refine VW.seq ?_
    | refine VW.block ?_
    | ((first | refine VW.skip ?_ | refine VW.exit ?_ | refine VW.reg ?_ | refine VW.regD ?_ | refine VW.ret ?_ | show goA _ _ _ _ _ _ _ _ _ _ | show goB _ _ _ _ _ _ _ _ _ | show goAD _ _ _ _ _ _ _ _ _ _ _ _ _ _ | show goBD _ _ _ _ _ _ _ _ _ _ _); refine sx ?_)
    | refine VW.condT cx ?_
    | refine VW.condF cx ?_
    | refine VW.cond ex ?_ ?_
    | refine imp_nt ?_
    | refine imp_nf ?_
    | refine imp_dt (fun _ => ?_)
    | refine imp_df (fun _ => ?_)
    | (refine fun (_ : _ = true) => ?_)
    | (refine fun (_ : _ = false) => ?_)
    | refine vg_t ?_ ?_
    | refine vg_f ?_ ?_)
        exact ⟨_, cx, cx, cx, by simp -implicitDefEqProofs only [eng, reduceIte, reduceCtorEq, Nat.reduceAdd, Nat.reduceMul, Nat.reduceSub, Nat.reduceEqDiff, Nat.reduceLeDiff, Nat.reduceLT, Nat.reduceDiv, Nat.reduceMod, Int.reduceLE, Int.reduceLT, Int.reduceEq, Int.reduceNeg, Int.reduceAdd, Int.reduceSub, Int.reduceToNat, Nat.reducePow, Int.ofNat_zero, Int.natCast_one, Int.cast_ofNat_Int, Mg.rbox, *] <;> rfl, by omega, .inr ⟨_, 85, by omega, by rw [← hnxt, hnl], by rw [← hnxt]; simp -implicitDefEqProofs only [eng, reduceIte, reduceCtorEq, Nat.reduceAdd, Nat.reduceMul, Nat.reduceSub, Nat.reduceEqDiff, Nat.reduceLeDiff, Nat.reduceLT, Nat.reduceDiv, Nat.reduceMod, Int.reduceLE, Int.reduceLT, Int.reduceEq, Int.reduceNeg, Int.reduceAdd, Int.reduceSub, Int.reduceToNat, Nat.reducePow, Int.ofNat_zero, Int.natCast_one, Int.cast_ofNat_Int, *]⟩⟩
    · obtain rfl : i = ks.length := by omega
      have hll : ¬ (ks.length : Int) < ks.length := by omega
      have hg' := Mg.put_ok (i := 0) (x := ⟨false, 0, .nsl⟩) (hok _ (slP_lt hsp)) rfl
      replace hm : m M = some (({ g with h := h', w := pcD g.w dn ks h' ks.length } : Mg).rbox) := hm
      clear hsp
      generalize pcD g.w dn ks h' ks.length = p at *
      rcases hks with ⟨hks, h0⟩ | hks
      · have hl0 : ks.length = 0 := by rw [← hlen, h0]; rfl
        rw [hl0] at e7
        replace e7 : e 7 = some (iv 0) := e7
        repeat' (first
    | exact True.intro
    | refine VW.seq ?_
    | refine VW.block ?_
    | ((first | refine VW.skip ?_ | refine VW.exit ?_ | refine VW.reg ?_ | refine VW.regD ?_ | refine VW.ret ?_ | show goA _ _ _ _ _ _ _ _ _ _ | show goB _ _ _ _ _ _ _ _ _ | show goAD _ _ _ _ _ _ _ _ _ _ _ _ _ _ | show goBD _ _ _ _ _ _ _ _ _ _ _); refine sx ?_)
    | refine VW.condT cx ?_
    | refine VW.condF cx ?_
    | refine VW.cond ex ?_ ?_
    | refine imp_nt ?_
    | refine imp_nf ?_
    | refine imp_dt (fun _ => ?_)
    | refine imp_df (fun _ => ?_)
    | (refine fun (_ : _ = true) => ?_)
    | (refine fun (_ : _ = false) => ?_)
    | refine vg_t ?_ ?_
    | refine vg_f ?_ ?_)
        exact .keep exR cxL (rone_keep hM (by simp -implicitDefEqProofs only [eng, reduceIte, reduceCtorEq, Nat.reduceAdd, Nat.reduceMul, Nat.reduceSub, Nat.reduceEqDiff, Nat.reduceLeDiff, Nat.reduceLT, Nat.reduceDiv, Nat.reduceMod, Int.reduceLE, Int.reduceLT, Int.reduceEq, Int.reduceNeg, Int.reduceAdd, Int.reduceSub, Int.reduceToNat, Nat.reducePow, Int.ofNat_zero, Int.natCast_one, Int.cast_ofNat_Int, Mg.put, *]) hg')
      · repeat' (first
    | exact True.intro
    | refine VW.seq ?_
    | refine VW.block ?_
    | ((first | refine VW.skip ?_ | refine VW.exit ?_ | refine VW.reg ?_ | refine VW.regD ?_ | refine VW.ret ?_ | show goA _ _ _ _ _ _ _ _ _ _ | show goB _ _ _ _ _ _ _ _ _ | show goAD _ _ _ _ _ _ _ _ _ _ _ _ _ _ | show goBD _ _ _ _ _ _ _ _ _ _ _); refine sx ?_)
    | refine VW.condT cx ?_
    | refine VW.condF cx ?_
    | refine VW.cond ex ?_ ?_
    | refine imp_nt ?_
    | refine imp_nf ?_
    | refine imp_dt (fun _ => ?_)
    | refine imp_df (fun _ => ?_)
    | (refine fun (_ : _ = true) => ?_)
    | (refine fun (_ : _ = false) => ?_)
    | refine vg_t ?_ ?_
    | refine vg_f ?_ ?_)
        exact .keep exR cxL (rone_keep hM (by simp -implicitDefEqProofs only [eng, reduceIte, reduceCtorEq, Nat.reduceAdd, Nat.reduceMul, Nat.reduceSub, Nat.reduceEqDiff, Nat.reduceLeDiff, Nat.reduceLT, Nat.reduceDiv, Nat.reduceMod, Int.reduceLE, Int.reduceLT, Int.reduceEq, Int.reduceNeg, Int.reduceAdd, Int.reduceSub, Int.reduceToNat, Nat.reducePow, Int.ofNat_zero, Int.natCast_one, Int.cast_ofNat_Int, Mg.put, *]) hg')
  · simp only [Mg.get] at ho hks ⊢
    repeat' (first
    | exact True.intro
    | refine VW.seq ?_
    | refine VW.block ?_
    | ((first | refine VW.skip ?_ | refine VW.exit ?_ | refine VW.reg ?_ | refine VW.regD ?_ | refine VW.ret ?_ | show goA _ _ _ _ _ _ _ _ _ _ | show goB _ _ _ _ _ _ _ _ _ | show goAD _ _ _ _ _ _ _ _ _ _ _ _ _ _ | show goBD _ _ _ _ _ _ _ _ _ _ _); refine sx ?_)
    | refine VW.condT cx ?_
    | refine VW.condF cx ?_
    | refine VW.cond ex ?_ ?_
    | refine imp_nt ?_
    | refine imp_nf ?_
    | refine imp_dt (fun _ => ?_)
    | refine imp_df (fun _ => ?_)
    | (refine fun (_ : _ = true) => ?_)
    | (refine fun (_ : _ = false) => ?_)
    | refine vg_t ?_ ?_
    | refine vg_f ?_ ?_)
    refine VW.forN ks.length (JK { g with h := h' } M 1 ks dn b) 0 (by omega) ⟨g.w, cy, cy, ey, by simp -implicitDefEqProofs only [eng, reduceIte, reduceCtorEq, Nat.reduceAdd, Nat.reduceMul, Nat.reduceSub, Nat.reduceEqDiff, Nat.reduceLeDiff, Nat.reduceLT, Nat.reduceDiv, Nat.reduceMod, Int.reduceLE, Int.reduceLT, Int.reduceEq, Int.reduceNeg, Int.reduceAdd, Int.reduceSub, Int.reduceToNat, Nat.reducePow, Int.ofNat_zero, Int.natCast_one, Int.cast_ofNat_Int, Mg.rbox, *], by omega, .inl rfl⟩ ?_
    clear hm m
    intro i e m0 nx hi hJ
    refine hJ.go fun m e0 e1 e7 hm hbn => ?_
    clear hJ m0
    have hok : ∀ p, lt1s b p = true → ({ g with h := h', w := p } : Mg).ok b := fun p hp => ⟨hg.1, hg.2.1, hg.2.2.1, hg.2.2.2.1, hp⟩
    have hsp := pcD_slP (ks := ks) (h := h') (i := i) hd
    refine VW.below hm fun hlM => ?_
    obtain ⟨n1', n2', n3', n4', n5'⟩ := below_ne hlM
    by_cases hin : i < ks.length
    · have hks' : g.a1.k = .sl (strs ks) := by
        rcases hks with ⟨_, h0⟩ | h
        · rw [h0] at hlen; simp at hlen; omega
        · exact h
      have hin' : (i : Int) < ks.length := by omega
      obtain ⟨x, hx⟩ := get_of hin
      have hx' : (strs ks)[i]? = some [.str x] := by rw [strs_get', hx]; rfl
      have h00 : (0 : Int) ≤ i := by omega
      have htn : (i : Int).toNat = i := Int.toNat_natCast i
      have hw := i64_nat (n := i) (by omega)
      have hst := putD_step (dn := dn) (h := h') hx
      have hpl := putD_len (dn := dn) (h := h') (Nat.le_of_lt hin)
      have hpl' := putD_len (dn := dn) (h := h') (i := i + 1) hin
      clear hx
      replace hm : m M = some (({ g with h := h', w := pcD g.w dn ks h' i } : Mg).rbox) := hm
      have hnl : (putD dn ks h' (i + 1)).length = (putD dn ks h' i).length + 1 := by omega
      have hcl : (putD dn ks h' i).length < 110000 := by omega
      generalize pcD g.w dn ks h' i = p at *
      generalize putD dn ks h' i = cur at *
      obtain ⟨nxt, hnxt⟩ : ∃ nxt, nxt = putD dn ks h' (i + 1) := ⟨_, rfl⟩
      rw [← hnxt] at hst hnl
      clear hpl hpl'
      have hdl' := dns_len (l := cur)
      have hnx : ∀ q, nx ≤ nx + q := fun q => by omega
      have hall : allLen 2 (dns cur) := fun y hy => by obtain ⟨x, _, rfl⟩ := List.mem_map.1 hy; rfl
      have b1 : cur.length * 24 ≤ 140737488355328 := by omega
      have b2 : (cur.length + 1) * 24 ≤ 140737488355328 := by omega
      rcases hsp with ⟨rfl, hcur⟩ | rfl
      · have hc0 : cur.length = 0 := by rw [← dns_len, hcur]; rfl
        rw [hcur] at hst
        rw [hc0] at hnl
        repeat' (first
    | exact True.intro
    | refine VW.seq ?_
    | refine VW.block ?_
    | ((first | refine VW.skip ?_ | refine VW.exit ?_ | refine VW.reg ?_ | refine VW.regD ?_ | refine VW.ret ?_ | show goA _ _ _ _ _ _ _ _ _ _ | show goB _ _ _ _ _ _ _ _ _ | show goAD _ _ _ _ _ _ _ _ _ _ _ _ _ _ | show goBD _ _ _ _ _ _ _ _ _ _ _); refine sx ?_)
    | refine VW.condT cx ?_
    | refine VW.condF cx ?_
    | refine VW.cond ex ?_ ?_
    | refine imp_nt ?_
    | refine imp_nf ?_
    | refine imp_dt (fun _ => ?_)
    | refine imp_df (fun _ => ?_)
    | (refine fun (_ : _ = true) => ?_)
    | (refine fun (_ : _ = false) => ?_)
    | refine vg_t ?_ ?_
    | refine vg_f ?_ ?_)
        exact ⟨_, cx, cx, cx, by simp -implicitDefEqProofs only [eng, reduceIte, reduceCtorEq, Nat.reduceAdd, Nat.reduceMul, Nat.reduceSub, Nat.reduceEqDiff, Nat.reduceLeDiff, Nat.reduceLT, Nat.reduceDiv, Nat.reduceMod, Int.reduceLE, Int.reduceLT, Int.reduceEq, Int.reduceNeg, Int.reduceAdd, Int.reduceSub, Int.reduceToNat, Nat.reducePow, Int.ofNat_zero, Int.natCast_one, Int.cast_ofNat_Int, Mg.rbox, *] <;> rfl, by omega, .inr ⟨_, 85, by omega, by rw [← hnxt, hnl], by rw [← hnxt]; simp -implicitDefEqProofs only [eng, reduceIte, reduceCtorEq, Nat.reduceAdd, Nat.reduceMul, Nat.reduceSub, Nat.reduceEqDiff, Nat.reduceLeDiff, Nat.reduceLT, Nat.reduceDiv, Nat.reduceMod, Int.reduceLE, Int.reduceLT, Int.reduceEq, Int.reduceNeg, Int.reduceAdd, Int.reduceSub, Int.reduceToNat, Nat.reducePow, Int.ofNat_zero, Int.natCast_one, Int.cast_ofNat_Int, *]⟩⟩
      · repeat' (first
    | exact True.intro
    | refine VW.seq ?_
    | refine VW.block ?_
    | ((first | refine VW.skip ?_ | refine VW.exit ?_ | refine VW.reg ?_ | refine VW.regD ?_ | refine VW.ret ?_ | show goA _ _ _ _ _ _ _ _ _ _ | show goB _ _ _ _ _ _ _ _ _ | show goAD _ _ _ _ _ _ _ _ _ _ _ _ _ _ | show goBD _ _ _ _ _ _ _ _ _ _ _); refine sx ?_)
    | refine VW.condT cx ?_
    | refine VW.condF cx ?_
    | refine VW.cond ex ?_ ?_
    | refine imp_nt ?_
    | refine imp_nf ?_
    | refine imp_dt (fun _ => ?_)
    | refine imp_df (fun _ => ?_)
    | (refine fun (_ : _ = true) => ?_)
    | (refine fun (_ : _ = false) => ?_)
    | refine vg_t ?_ ?_
    | refine vg_f ?_ ?_)
        exact ⟨_, cx, cx, cx, by simp -implicitDefEqProofs only [eng, reduceIte, reduceCtorEq, Nat.reduceAdd, Nat.reduceMul, Nat.reduceSub, Nat.reduceEqDiff, Nat.reduceLeDiff, Nat.reduceLT, Nat.reduceDiv, Nat.reduceMod, Int.reduceLE, Int.reduceLT, Int.reduceEq, Int.reduceNeg, Int.reduceAdd, Int.reduceSub, Int.reduceToNat, Nat.reducePow, Int.ofNat_zero, Int.natCast_one, Int.cast_ofNat_Int, Mg.rbox, *] <;> rfl, by omega, .inr ⟨_, 85, by omega, by rw [← hnxt, hnl], by rw [← hnxt]; simp -implicitDefEqProofs only [eng, reduceIte, reduceCtorEq, Nat.reduceAdd, Nat.reduceMul, Nat.reduceSub, Nat.reduceEqDiff, Nat.reduceLeDiff, Nat.reduceLT, Nat.reduceDiv, Nat.reduceMod, Int.reduceLE, Int.reduceLT, Int.reduceEq, Int.reduceNeg, Int.reduceAdd, Int.reduceSub, Int.reduceToNat, Nat.reducePow, Int.ofNat_zero, Int.natCast_one, Int.cast_ofNat_Int, *]⟩⟩
    · obtain rfl : i = ks.length := by omega
      have hll : ¬ (ks.length : Int) < ks.length := by omega
      have hg' := Mg.put_ok (i := 1) (x := ⟨false, 0, .nsl⟩) (hok _ (slP_lt hsp)) rfl
      replace hm : m M = some (({ g with h := h', w := pcD g.w dn ks h' ks.length } : Mg).rbox) := hm
      clear hsp
      generalize pcD g.w dn ks h' ks.length = p at *
      rcases hks with ⟨hks, h0⟩ | hks
      · have hl0 : ks.length = 0 := by rw [← hlen, h0]; rfl
        rw [hl0] at e7
        replace e7 : e 7 = some (iv 0) := e7
        repeat' (first
    | exact True.intro
    | refine VW.seq ?_
    | refine VW.block ?_
    | ((first | refine VW.skip ?_ | refine VW.exit ?_ | refine VW.reg ?_ | refine VW.regD ?_ | refine VW.ret ?_ | show goA _ _ _ _ _ _ _ _ _ _ | show goB _ _ _ _ _ _ _ _ _ | show goAD _ _ _ _ _ _ _ _ _ _ _ _ _ _ | show goBD _ _ _ _ _ _ _ _ _ _ _); refine sx ?_)
    | refine VW.condT cx ?_
    | refine VW.condF cx ?_
    | refine VW.cond ex ?_ ?_
    | refine imp_nt ?_
    | refine imp_nf ?_
    | refine imp_dt (fun _ => ?_)
    | refine imp_df (fun _ => ?_)
    | (refine fun (_ : _ = true) => ?_)
    | (refine fun (_ : _ = false) => ?_)
    | refine vg_t ?_ ?_
    | refine vg_f ?_ ?_)
        exact .keep exR cxL (rone_keep hM (by simp -implicitDefEqProofs only [eng, reduceIte, reduceCtorEq, Nat.reduceAdd, Nat.reduceMul, Nat.reduceSub, Nat.reduceEqDiff, Nat.reduceLeDiff, Nat.reduceLT, Nat.reduceDiv, Nat.reduceMod, Int.reduceLE, Int.reduceLT, Int.reduceEq, Int.reduceNeg, Int.reduceAdd, Int.reduceSub, Int.reduceToNat, Nat.reducePow, Int.ofNat_zero, Int.natCast_one, Int.cast_ofNat_Int, Mg.put, *]) hg')
      · repeat' (first
    | exact True.intro
    | refine VW.seq ?_
    | refine VW.block ?_
    | ((first | refine VW.skip ?_ | refine VW.exit ?_ | refine VW.reg ?_ | refine VW.regD ?_ | refine VW.ret ?_ | show goA _ _ _ _ _ _ _ _ _ _ | show goB _ _ _ _ _ _ _ _ _ | show goAD _ _ _ _ _ _ _ _ _ _ _ _ _ _ | show goBD _ _ _ _ _ _ _ _ _ _ _); refine sx ?_)
    | refine VW.condT cx ?_
    | refine VW.condF cx ?_
    | refine VW.cond ex ?_ ?_
    | refine imp_nt ?_
    | refine imp_nf ?_
    | refine imp_dt (fun _ => ?_)
    | refine imp_df (fun _ => ?_)
    | (refine fun (_ : _ = true) => ?_)
    | (refine fun (_ : _ = false) => ?_)
    | refine vg_t ?_ ?_
    | refine vg_f ?_ ?_)
        exact .keep exR cxL (rone_keep hM (by simp -implicitDefEqProofs only [eng, reduceIte, reduceCtorEq, Nat.reduceAdd, Nat.reduceMul, Nat.reduceSub, Nat.reduceEqDiff, Nat.reduceLeDiff, Nat.reduceLT, Nat.reduceDiv, Nat.reduceMod, Int.reduceLE, Int.reduceLT, Int.reduceEq, Int.reduceNeg, Int.reduceAdd, Int.reduceSub, Int.reduceToNat, Nat.reducePow, Int.ofNat_zero, Int.natCast_one, Int.cast_ofNat_Int, Mg.put, *]) hg')
  · simp only [Mg.get] at ho hks ⊢
    repeat' (first
    | exact True.intro
    | refine VW.seq ?_
    | refine VW.block ?_
    | ((first | refine VW.skip ?_ | refine VW.exit ?_ | refine VW.reg ?_ | refine VW.regD ?_ | refine VW.ret ?_ | show goA _ _ _ _ _ _ _ _ _ _ | show goB _ _ _ _ _ _ _ _ _ | show goAD _ _ _ _ _ _ _ _ _ _ _ _ _ _ | show goBD _ _ _ _ _ _ _ _ _ _ _); refine sx ?_)
    | refine VW.condT cx ?_
    | refine VW.condF cx ?_
    | refine VW.cond ex ?_ ?_
    | refine imp_nt ?_
    | refine imp_nf ?_
    | refine imp_dt (fun _ => ?_)
    | refine imp_df (fun _ => ?_)
    | (refine fun (_ : _ = true) => ?_)
    | (refine fun (_ : _ = false) => ?_)
    | refine vg_t ?_ ?_
    | refine vg_f ?_ ?_)
    refine VW.forN ks.length (JK { g with h := h' } M 2 ks dn b) 0 (by omega) ⟨g.w, cy, cy, ey, by simp -implicitDefEqProofs only [eng, reduceIte, reduceCtorEq, Nat.reduceAdd, Nat.reduceMul, Nat.reduceSub, Nat.reduceEqDiff, Nat.reduceLeDiff, Nat.reduceLT, Nat.reduceDiv, Nat.reduceMod, Int.reduceLE, Int.reduceLT, Int.reduceEq, Int.reduceNeg, Int.reduceAdd, Int.reduceSub, Int.reduceToNat, Nat.reducePow, Int.ofNat_zero, Int.natCast_one, Int.cast_ofNat_Int, Mg.rbox, *], by omega, .inl rfl⟩ ?_
    clear hm m
    intro i e m0 nx hi hJ
    refine hJ.go fun m e0 e1 e7 hm hbn => ?_
    clear hJ m0
    have hok : ∀ p, lt1s b p = true → ({ g with h := h', w := p } : Mg).ok b := fun p hp => ⟨hg.1, hg.2.1, hg.2.2.1, hg.2.2.2.1, hp⟩
    have hsp := pcD_slP (ks := ks) (h := h') (i := i) hd
    refine VW.below hm fun hlM => ?_
    obtain ⟨n1', n2', n3', n4', n5'⟩ := below_ne hlM
    by_cases hin : i < ks.length
    · have hks' : g.a2.k = .sl (strs ks) := by
        rcases hks with ⟨_, h0⟩ | h
        · rw [h0] at hlen; simp at hlen; omega
        · exact h
      have hin' : (i : Int) < ks.length := by omega
      obtain ⟨x, hx⟩ := get_of hin
      have hx' : (strs ks)[i]? = some [.str x] := by rw [strs_get', hx]; rfl
      have h00 : (0 : Int) ≤ i := by omega
      have htn : (i : Int).toNat = i := Int.toNat_natCast i
      have hw := i64_nat (n := i) (by omega)
      have hst := putD_step (dn := dn) (h := h') hx
      have hpl := putD_len (dn := dn) (h := h') (Nat.le_of_lt hin)
      have hpl' := putD_len (dn := dn) (h := h') (i := i + 1) hin
      clear hx
      replace hm : m M = some (({ g with h := h', w := pcD g.w dn ks h' i } : Mg).rbox) := hm
      have hnl : (putD dn ks h' (i + 1)).length = (putD dn ks h' i).length + 1 := by omega
      have hcl : (putD dn ks h' i).length < 110000 := by omega
      generalize pcD g.w dn ks h' i = p at *
      generalize putD dn ks h' i = cur at *
      obtain ⟨nxt, hnxt⟩ : ∃ nxt, nxt = putD dn ks h' (i + 1) := ⟨_, rfl⟩
      rw [← hnxt] at hst hnl
      clear hpl hpl'
      have hdl' := dns_len (l := cur)
      have hnx : ∀ q, nx ≤ nx + q := fun q => by omega
      have hall : allLen 2 (dns cur) := fun y hy => by obtain ⟨x, _, rfl⟩ := List.mem_map.1 hy; rfl
      have b1 : cur.length * 24 ≤ 140737488355328 := by omega
      have b2 : (cur.length + 1) * 24 ≤ 140737488355328 := by omega
      rcases hsp with ⟨rfl, hcur⟩ | rfl
      · have hc0 : cur.length = 0 := by rw [← dns_len, hcur]; rfl
        rw [hcur] at hst
        rw [hc0] at hnl
        repeat' (first
    | exact True.intro
    | refine VW.seq ?_
    | refine VW.block ?_
    | ((first | refine VW.skip ?_ | refine VW.exit ?_ | refine VW.reg ?_ | refine VW.regD ?_ | refine VW.ret ?_ | show goA _ _ _ _ _ _ _ _ _ _ | show goB _ _ _ _ _ _ _ _ _ | show goAD _ _ _ _ _ _ _ _ _ _ _ _ _ _ | show goBD _ _ _ _ _ _ _ _ _ _ _); refine sx ?_)
    | refine VW.condT cx ?_
    | refine VW.condF cx ?_
    | refine VW.cond ex ?_ ?_
    | refine imp_nt ?_
    | refine imp_nf ?_
    | refine imp_dt (fun _ => ?_)
    | refine imp_df (fun _ => ?_)
    | (refine fun (_ : _ = true) => ?_)
    | (refine fun (_ : _ = false) => ?_)
    | refine vg_t ?_ ?_
    | refine vg_f ?_ ?_)
        exact ⟨_, cx, cx, cx, by simp -implicitDefEqProofs only [eng, reduceIte, reduceCtorEq, Nat.reduceAdd, Nat.reduceMul, Nat.reduceSub, Nat.reduceEqDiff, Nat.reduceLeDiff, Nat.reduceLT, Nat.reduceDiv, Nat.reduceMod, Int.reduceLE, Int.reduceLT, Int.reduceEq, Int.reduceNeg, Int.reduceAdd, Int.reduceSub, Int.reduceToNat, Nat.reducePow, Int.ofNat_zero, Int.natCast_one, Int.cast_ofNat_Int, Mg.rbox, *] <;> rfl, by omega, .inr ⟨_, 85, by omega, by rw [← hnxt, hnl], by rw [← hnxt]; simp -implicitDefEqProofs only [eng, reduceIte, reduceCtorEq, Nat.reduceAdd, Nat.reduceMul, Nat.reduceSub, Nat.reduceEqDiff, Nat.reduceLeDiff, Nat.reduceLT, Nat.reduceDiv, Nat.reduceMod, Int.reduceLE, Int.reduceLT, Int.reduceEq, Int.reduceNeg, Int.reduceAdd, Int.reduceSub, Int.reduceToNat, Nat.reducePow, Int.ofNat_zero, Int.natCast_one, Int.cast_ofNat_Int, *]⟩⟩
      · repeat' (first
    | exact True.intro
    | refine VW.seq ?_
    | refine VW.block ?_
    | ((first | refine VW.skip ?_ | refine VW.exit ?_ | refine VW.reg ?_ | refine VW.regD ?_ | refine VW.ret ?_ | show goA _ _ _ _ _ _ _ _ _ _ | show goB _ _ _ _ _ _ _ _ _ | show goAD _ _ _ _ _ _ _ _ _ _ _ _ _ _ | show goBD _ _ _ _ _ _ _ _ _ _ _); refine sx ?_)
    | refine VW.condT cx ?_
    | refine VW.condF cx ?_
    | refine VW.cond ex ?_ ?_
    | refine imp_nt ?_
    | refine imp_nf ?_
    | refine imp_dt (fun _ => ?_)
    | refine imp_df (fun _ => ?_)
    | (refine fun (_ : _ = true) => ?_)
    | (refine fun (_ : _ = false) => ?_)
    | refine vg_t ?_ ?_
    | refine vg_f ?_ ?_)
        exact ⟨_, cx, cx, cx, by simp -implicitDefEqProofs only [eng, reduceIte, reduceCtorEq, Nat.reduceAdd, Nat.reduceMul, Nat.reduceSub, Nat.reduceEqDiff, Nat.reduceLeDiff, Nat.reduceLT, Nat.reduceDiv, Nat.reduceMod, Int.reduceLE, Int.reduceLT, Int.reduceEq, Int.reduceNeg, Int.reduceAdd, Int.reduceSub, Int.reduceToNat, Nat.reducePow, Int.ofNat_zero, Int.natCast_one, Int.cast_ofNat_Int, Mg.rbox, *] <;> rfl, by omega, .inr ⟨_, 85, by omega, by rw [← hnxt, hnl], by rw [← hnxt]; simp -implicitDefEqProofs only [eng, reduceIte, reduceCtorEq, Nat.reduceAdd, Nat.reduceMul, Nat.reduceSub, Nat.reduceEqDiff, Nat.reduceLeDiff, Nat.reduceLT, Nat.reduceDiv, Nat.reduceMod, Int.reduceLE, Int.reduceLT, Int.reduceEq, Int.reduceNeg, Int.reduceAdd, Int.reduceSub, Int.reduceToNat, Nat.reducePow, Int.ofNat_zero, Int.natCast_one, Int.cast_ofNat_Int, *]⟩⟩
    · obtain rfl : i = ks.length := by omega
      have hll : ¬ (ks.length : Int) < ks.length := by omega
      have hg' := Mg.put_ok (i := 2) (x := ⟨false, 0, .nsl⟩) (hok _ (slP_lt hsp)) rfl
      replace hm : m M = some (({ g with h := h', w := pcD g.w dn ks h' ks.length } : Mg).rbox) := hm
      clear hsp
      generalize pcD g.w dn ks h' ks.length = p at *
      rcases hks with ⟨hks, h0⟩ | hks
      · have hl0 : ks.length = 0 := by rw [← hlen, h0]; rfl
        rw [hl0] at e7
        replace e7 : e 7 = some (iv 0) := e7
        repeat' (first
    | exact True.intro
    | refine VW.seq ?_
    | refine VW.block ?_
    | ((first | refine VW.skip ?_ | refine VW.exit ?_ | refine VW.reg ?_ | refine VW.regD ?_ | refine VW.ret ?_ | show goA _ _ _ _ _ _ _ _ _ _ | show goB _ _ _ _ _ _ _ _ _ | show goAD _ _ _ _ _ _ _ _ _ _ _ _ _ _ | show goBD _ _ _ _ _ _ _ _ _ _ _); refine sx ?_)
    | refine VW.condT cx ?_
    | refine VW.condF cx ?_
    | refine VW.cond ex ?_ ?_
    | refine imp_nt ?_
    | refine imp_nf ?_
    | refine imp_dt (fun _ => ?_)
    | refine imp_df (fun _ => ?_)
    | (refine fun (_ : _ = true) => ?_)
    | (refine fun (_ : _ = false) => ?_)
    | refine vg_t ?_ ?_
    | refine vg_f ?_ ?_)
        exact .keep exR cxL (rone_keep hM (by simp -implicitDefEqProofs only [eng, reduceIte, reduceCtorEq, Nat.reduceAdd, Nat.reduceMul, Nat.reduceSub, Nat.reduceEqDiff, Nat.reduceLeDiff, Nat.reduceLT, Nat.reduceDiv, Nat.reduceMod, Int.reduceLE, Int.reduceLT, Int.reduceEq, Int.reduceNeg, Int.reduceAdd, Int.reduceSub, Int.reduceToNat, Nat.reducePow, Int.ofNat_zero, Int.natCast_one, Int.cast_ofNat_Int, Mg.put, *]) hg')
      · repeat' (first
    | exact True.intro
    | refine VW.seq ?_
    | refine VW.block ?_
    | ((first | refine VW.skip ?_ | refine VW.exit ?_ | refine VW.reg ?_ | refine VW.regD ?_ | refine VW.ret ?_ | show goA _ _ _ _ _ _ _ _ _ _ | show goB _ _ _ _ _ _ _ _ _ | show goAD _ _ _ _ _ _ _ _ _ _ _ _ _ _ | show goBD _ _ _ _ _ _ _ _ _ _ _); refine sx ?_)
    | refine VW.condT cx ?_
    | refine VW.condF cx ?_
    | refine VW.cond ex ?_ ?_
    | refine imp_nt ?_
    | refine imp_nf ?_
    | refine imp_dt (fun _ => ?_)
    | refine imp_df (fun _ => ?_)
    | (refine fun (_ : _ = true) => ?_)
    | (refine fun (_ : _ = false) => ?_)
    | refine vg_t ?_ ?_
    | refine vg_f ?_ ?_)
        exact .keep exR cxL (rone_keep hM (by simp -implicitDefEqProofs only [eng, reduceIte, reduceCtorEq, Nat.reduceAdd, Nat.reduceMul, Nat.reduceSub, Nat.reduceEqDiff, Nat.reduceLeDiff, Nat.reduceLT, Nat.reduceDiv, Nat.reduceMod, Int.reduceLE, Int.reduceLT, Int.reduceEq, Int.reduceNeg, Int.reduceAdd, Int.reduceSub, Int.reduceToNat, Nat.reducePow, Int.ofNat_zero, Int.natCast_one, Int.cast_ofNat_Int, Mg.put, *]) hg')
  · simp only [Mg.get] at ho hks ⊢
    repeat' (first
    | exact True.intro
    | refine VW.seq ?_
    | refine VW.block ?_
    | ((first | refine VW.skip ?_ | refine VW.exit ?_ | refine VW.reg ?_ | refine VW.regD ?_ | refine VW.ret ?_ | show goA _ _ _ _ _ _ _ _ _ _ | show goB _ _ _ _ _ _ _ _ _ | show goAD _ _ _ _ _ _ _ _ _ _ _ _ _ _ | show goBD _ _ _ _ _ _ _ _ _ _ _); refine sx ?_)
    | refine VW.condT cx ?_
    | refine VW.condF cx ?_
    | refine VW.cond ex ?_ ?_
    | refine imp_nt ?_
    | refine imp_nf ?_
    | refine imp_dt (fun _ => ?_)
    | refine imp_df (fun _ => ?_)
    | (refine fun (_ : _ = true) => ?_)
    | (refine fun (_ : _ = false) => ?_)
    | refine vg_t ?_ ?_
    | refine vg_f ?_ ?_)
    refine VW.forN ks.length (JK { g with h := h' } M 3 ks dn b) 0 (by omega) ⟨g.w, cy, cy, ey, by simp -implicitDefEqProofs only [eng, reduceIte, reduceCtorEq, Nat.reduceAdd, Nat.reduceMul, Nat.reduceSub, Nat.reduceEqDiff, Nat.reduceLeDiff, Nat.reduceLT, Nat.reduceDiv, Nat.reduceMod, Int.reduceLE, Int.reduceLT, Int.reduceEq, Int.reduceNeg, Int.reduceAdd, Int.reduceSub, Int.reduceToNat, Nat.reducePow, Int.ofNat_zero, Int.natCast_one, Int.cast_ofNat_Int, Mg.rbox, *], by omega, .inl rfl⟩ ?_
    clear hm m
    intro i e m0 nx hi hJ
    refine hJ.go fun m e0 e1 e7 hm hbn => ?_
    clear hJ m0
    have hok : ∀ p, lt1s b p = true → ({ g with h := h', w := p } : Mg).ok b := fun p hp => ⟨hg.1, hg.2.1, hg.2.2.1, hg.2.2.2.1, hp⟩
    have hsp := pcD_slP (ks := ks) (h := h') (i := i) hd
    refine VW.below hm fun hlM => ?_
    obtain ⟨n1', n2', n3', n4', n5'⟩ := below_ne hlM
    by_cases hin : i < ks.length
    · have hks' : g.a3.k = .sl (strs ks) := by
        rcases hks with ⟨_, h0⟩ | h
        · rw [h0] at hlen; simp at hlen; omega
        · exact h
      have hin' : (i : Int) < ks.length := by omega
      obtain ⟨x, hx⟩ := get_of hin
      have hx' : (strs ks)[i]? = some [.str x] := by rw [strs_get', hx]; rfl
      have h00 : (0 : Int) ≤ i := by omega
      have htn : (i : Int).toNat = i := Int.toNat_natCast i
      have hw := i64_nat (n := i) (by omega)
      have hst := putD_step (dn := dn) (h := h') hx
      have hpl := putD_len (dn := dn) (h := h') (Nat.le_of_lt hin)
      have hpl' := putD_len (dn := dn) (h := h') (i := i + 1) hin
      clear hx
      replace hm : m M = some (({ g with h := h', w := pcD g.w dn ks h' i } : Mg).rbox) := hm
      have hnl : (putD dn ks h' (i + 1)).length = (putD dn ks h' i).length + 1 := by omega
      have hcl : (putD dn ks h' i).length < 110000 := by omega
      generalize pcD g.w dn ks h' i = p at *
      generalize putD dn ks h' i = cur at *
      obtain ⟨nxt, hnxt⟩ : ∃ nxt, nxt = putD dn ks h' (i + 1) := ⟨_, rfl⟩
      rw [← hnxt] at hst hnl
      clear hpl hpl'
      have hdl' := dns_len (l := cur)
      have hnx : ∀ q, nx ≤ nx + q := fun q => by omega
      have hall : allLen 2 (dns cur) := fun y hy => by obtain ⟨x, _, rfl⟩ := List.mem_map.1 hy; rfl
      have b1 : cur.length * 24 ≤ 140737488355328 := by omega
      have b2 : (cur.length + 1) * 24 ≤ 140737488355328 := by omega
      rcases hsp with ⟨rfl, hcur⟩ | rfl
      · have hc0 : cur.length = 0 := by rw [← dns_len, hcur]; rfl
        rw [hcur] at hst
        rw [hc0] at hnl
        repeat' (first
    | exact True.intro
    | refine VW.seq ?_
    | refine VW.block ?_
    | ((first | refine VW.skip ?_ | refine VW.exit ?_ | refine VW.reg ?_ | refine VW.regD ?_ | refine VW.ret ?_ | show goA _ _ _ _ _ _ _ _ _ _ | show goB _ _ _ _ _ _ _ _ _ | show goAD _ _ _ _ _ _ _ _ _ _ _ _ _ _ | show goBD _ _ _ _ _ _ _ _ _ _ _); refine sx ?_)
    | refine VW.condT cx ?_
    | refine VW.condF cx ?_
    | refine VW.cond ex ?_ ?_
    | refine imp_nt ?_
    | refine imp_nf ?_
    | refine imp_dt (fun _ => ?_)
    | refine imp_df (fun _ => ?_)
    | (refine fun (_ : _ = true) => ?_)
    | (refine fun (_ : _ = false) => ?_)
    | refine vg_t ?_ ?_
    | refine vg_f ?_ ?_)
        exact ⟨_, cx, cx, cx, by simp -implicitDefEqProofs only [eng, reduceIte, reduceCtorEq, Nat.reduceAdd, Nat.reduceMul, Nat.reduceSub, Nat.reduceEqDiff, Nat.reduceLeDiff, Nat.reduceLT, Nat.reduceDiv, Nat.reduceMod, Int.reduceLE, Int.reduceLT, Int.reduceEq, Int.reduceNeg, Int.reduceAdd, Int.reduceSub, Int.reduceToNat, Nat.reducePow, Int.ofNat_zero, Int.natCast_one, Int.cast_ofNat_Int, Mg.rbox, *] <;> rfl, by omega, .inr ⟨_, 85, by omega, by rw [← hnxt, hnl], by rw [← hnxt]; simp -implicitDefEqProofs only [eng, reduceIte, reduceCtorEq, Nat.reduceAdd, Nat.reduceMul, Nat.reduceSub, Nat.reduceEqDiff, Nat.reduceLeDiff, Nat.reduceLT, Nat.reduceDiv, Nat.reduceMod, Int.reduceLE, Int.reduceLT, Int.reduceEq, Int.reduceNeg, Int.reduceAdd, Int.reduceSub, Int.reduceToNat, Nat.reducePow, Int.ofNat_zero, Int.natCast_one, Int.cast_ofNat_Int, *]⟩⟩
      · repeat' (first
    | exact True.intro
    | refine VW.seq ?_
    | refine VW.block ?_
    | ((first | refine VW.skip ?_ | refine VW.exit ?_ | refine VW.reg ?_ | refine VW.regD ?_ | refine VW.ret ?_ | show goA _ _ _ _ _ _ _ _ _ _ | show goB _ _ _ _ _ _ _ _ _ | show goAD _ _ _ _ _ _ _ _ _ _ _ _ _ _ | show goBD _ _ _ _ _ _ _ _ _ _ _); refine sx ?_)
    | refine VW.condT cx ?_
    | refine VW.condF cx ?_
    | refine VW.cond ex ?_ ?_
    | refine imp_nt ?_
    | refine imp_nf ?_
    | refine imp_dt (fun _ => ?_)
    | refine imp_df (fun _ => ?_)
    | (refine fun (_ : _ = true) => ?_)
    | (refine fun (_ : _ = false) => ?_)
    | refine vg_t ?_ ?_
    | refine vg_f ?_ ?_)
        exact ⟨_, cx, cx, cx, by simp -implicitDefEqProofs only [eng, reduceIte, reduceCtorEq, Nat.reduceAdd, Nat.reduceMul, Nat.reduceSub, Nat.reduceEqDiff, Nat.reduceLeDiff, Nat.reduceLT, Nat.reduceDiv, Nat.reduceMod, Int.reduceLE, Int.reduceLT, Int.reduceEq, Int.reduceNeg, Int.reduceAdd, Int.reduceSub, Int.reduceToNat, Nat.reducePow, Int.ofNat_zero, Int.natCast_one, Int.cast_ofNat_Int, Mg.rbox, *] <;> rfl, by omega, .inr ⟨_, 85, by omega, by rw [← hnxt, hnl], by rw [← hnxt]; simp -implicitDefEqProofs only [eng, reduceIte, reduceCtorEq, Nat.reduceAdd, Nat.reduceMul, Nat.reduceSub, Nat.reduceEqDiff, Nat.reduceLeDiff, Nat.reduceLT, Nat.reduceDiv, Nat.reduceMod, Int.reduceLE, Int.reduceLT, Int.reduceEq, Int.reduceNeg, Int.reduceAdd, Int.reduceSub, Int.reduceToNat, Nat.reducePow, Int.ofNat_zero, Int.natCast_one, Int.cast_ofNat_Int, *]⟩⟩
    · obtain rfl : i = ks.length := by omega
      have hll : ¬ (ks.length : Int) < ks.length := by omega
      have hg' := Mg.put_ok (i := 3) (x := ⟨false, 0, .nsl⟩) (hok _ (slP_lt hsp)) rfl
      replace hm : m M = some (({ g with h := h', w := pcD g.w dn ks h' ks.length } : Mg).rbox) := hm
      clear hsp
      generalize pcD g.w dn ks h' ks.length = p at *
      rcases hks with ⟨hks, h0⟩ | hks
      · have hl0 : ks.length = 0 := by rw [← hlen, h0]; rfl
        rw [hl0] at e7
        replace e7 : e 7 = some (iv 0) := e7
        repeat' (first
    | exact True.intro
    | refine VW.seq ?_
    | refine VW.block ?_
    | ((first | refine VW.skip ?_ | refine VW.exit ?_ | refine VW.reg ?_ | refine VW.regD ?_ | refine VW.ret ?_ | show goA _ _ _ _ _ _ _ _ _ _ | show goB _ _ _ _ _ _ _ _ _ | show goAD _ _ _ _ _ _ _ _ _ _ _ _ _ _ | show goBD _ _ _ _ _ _ _ _ _ _ _); refine sx ?_)
    | refine VW.condT cx ?_
    | refine VW.condF cx ?_
    | refine VW.cond ex ?_ ?_
    | refine imp_nt ?_
    | refine imp_nf ?_
    | refine imp_dt (fun _ => ?_)
    | refine imp_df (fun _ => ?_)
    | (refine fun (_ : _ = true) => ?_)
    | (refine fun (_ : _ = false) => ?_)
    | refine vg_t ?_ ?_
    | refine vg_f ?_ ?_)
        exact .keep exR cxL (rone_keep hM (by simp -implicitDefEqProofs only [eng, reduceIte, reduceCtorEq, Nat.reduceAdd, Nat.reduceMul, Nat.reduceSub, Nat.reduceEqDiff, Nat.reduceLeDiff, Nat.reduceLT, Nat.reduceDiv, Nat.reduceMod, Int.reduceLE, Int.reduceLT, Int.reduceEq, Int.reduceNeg, Int.reduceAdd, Int.reduceSub, Int.reduceToNat, Nat.reducePow, Int.ofNat_zero, Int.natCast_one, Int.cast_ofNat_Int, Mg.put, *]) hg')
      · repeat' (first
    | exact True.intro
    | refine VW.seq ?_
    | refine VW.block ?_
    | ((first | refine VW.skip ?_ | refine VW.exit ?_ | refine VW.reg ?_ | refine VW.regD ?_ | refine VW.ret ?_ | show goA _ _ _ _ _ _ _ _ _ _ | show goB _ _ _ _ _ _ _ _ _ | show goAD _ _ _ _ _ _ _ _ _ _ _ _ _ _ | show goBD _ _ _ _ _ _ _ _ _ _ _); refine sx ?_)
    | refine VW.condT cx ?_
    | refine VW.condF cx ?_
    | refine VW.cond ex ?_ ?_
    | refine imp_nt ?_
    | refine imp_nf ?_
    | refine imp_dt (fun _ => ?_)
    | refine imp_df (fun _ => ?_)
    | (refine fun (_ : _ = true) => ?_)
    | (refine fun (_ : _ = false) => ?_)
    | refine vg_t ?_ ?_
    | refine vg_f ?_ ?_)
        exact .keep exR cxL (rone_keep hM (by simp -implicitDefEqProofs only [eng, reduceIte, reduceCtorEq, Nat.reduceAdd, Nat.reduceMul, Nat.reduceSub, Nat.reduceEqDiff, Nat.reduceLeDiff, Nat.reduceLT, Nat.reduceDiv, Nat.reduceMod, Int.reduceLE, Int.reduceLT, Int.reduceEq, Int.reduceNeg, Int.reduceAdd, Int.reduceSub, Int.reduceToNat, Nat.reducePow, Int.ofNat_zero, Int.natCast_one, Int.cast_ofNat_Int, Mg.put, *]) hg')
  
end
end Go.Vx
/- Walks of the reference: Writes; SameTexts. -/
set_option linter.unusedSimpArgs false
set_option linter.unusedVariables false
set_option maxRecDepth 4000
set_option maxHeartbeats 2000000
namespace Go.Vx
open Go Go.Proofs

/-- An end: a row that is given back is written no more; the caller's objects stay. -/
theorem Ends.keepR {rs : List RX} {e : Env} {m : Mem} {q r : PV} {b : Nat} {l : List (Nat × Obj)} (D : List Nat) (h : resF rs e m = some q) (hp : purT (frz m D) q = some r) (ho : ∀ x ∈ l, m x.1 = some x.2 ∧ x.1 < b ∧ x.2.lt (b + 8) = true ∧ x.2.fix b = true) (hf : ∀ x ∈ l, x.2.freeze = x.2) : Ends rs b r (ofL l) e m := by
  refine ⟨q, h, D, fun j => j, .inr hp, fun id o hid => ?_, fun i j o o' _ _ h => h, fun _ _ => rfl⟩
  have hm := ofL_some hid
  have := ho _ hm
  refine ⟨?_, by have := this.2.1; omega, this.2.2⟩
  rw [oren_id]
  simp only [frz, this.1]
  split
  · simp [hf _ hm]
  · rfl

theorem Ends.keepRow {t id n k T : Nat} {xs : List (List PV)} {fz : Bool} {e : Env} {m : Mem} {r : PV} {b : Nat} {l : List (Nat × Obj)} (h : e t = some (.osl id n)) (hm : m id = some (.row k xs T fz)) (hn : n = xs.length) (hr : r = .sl xs) (ho : ∀ x ∈ l, m x.1 = some x.2 ∧ x.1 < b ∧ x.2.lt (b + 8) = true ∧ x.2.fix b = true) (hf : ∀ x ∈ l, x.2.freeze = x.2) : Ends [.tmp t] b r (ofL l) e m := by
  refine .keepR [id] (q := .osl id n) (by simp [resF, resL, RX.ev, h, tup1]) ?_ ho hf
  have hfz : frz m [id] id = some (.row k xs T true) := by simp [frz, hm, Obj.freeze]
  subst hn
  subst hr
  simp [purT, purA, pur, hfz]
section
variable {P : Program}
structure ROpen (P : Program) : Prop where
  yes : ∀ M b, M < b → ∀ (g : Mg) z i, Ix z i → Mg.ok g b → V P 32 [.ptr M 15 0 0, iv z] (ofL [(M, g.rbox)]) b (.bool (g.get i).o) (ofL [(M, g.rbox)])
  no : ∀ M b, M < b → ∀ z, (z < 0 ∨ 4 ≤ z) → V P 32 [.ptr M 15 0 0, iv z] mt b (.bool false) mt
theorem w_rwritesR (h1 : ROpen P) (M b : Nat) (hM : M < b) (z : Int) (hi : z < 0 ∨ 4 ≤ z) : VW P c35 (PRet (Ends [.tmp 4] b (.sl (strs [])) mt)) (fun t => [PV.ptr M 15 0 0, iv z][t]?) mt b := by
  unfold c35
  obtain ⟨n1, n2, n3, n4, n5⟩ := below_ne hM
  repeat' (first
    | exact True.intro
    | refine VW.seq ?_
    | refine VW.block ?_
    | ((first | refine VW.skip ?_ | refine VW.exit ?_ | refine VW.reg ?_ | refine VW.regD ?_ | refine VW.ret ?_ | show goA _ _ _ _ _ _ _ _ _ _ | show goB _ _ _ _ _ _ _ _ _ | show goAD _ _ _ _ _ _ _ _ _ _ _ _ _ _ | show goBD _ _ _ _ _ _ _ _ _ _ _); refine sx ?_)
    | refine VW.condT cx ?_
    | refine VW.condF cx ?_
    | refine VW.cond ex ?_ ?_
    | refine imp_nt ?_
    | refine imp_nf ?_
    | refine imp_dt (fun _ => ?_)
    | refine imp_df (fun _ => ?_)
    | (refine fun (_ : _ = true) => ?_)
    | (refine fun (_ : _ = false) => ?_)
    | refine vg_t ?_ ?_
    | refine vg_f ?_ ?_)
  refine VC.pure [.ptr M 15 0 0, iv z] _ ⟨.inl ⟨rfl, by simp -implicitDefEqProofs only [ltS, lt8, List.all_cons, List.all_nil, eng, reduceIte, reduceCtorEq, Nat.reduceAdd, Nat.reduceMul, Nat.reduceSub, Nat.reduceEqDiff, Nat.reduceLeDiff, Nat.reduceLT, Nat.reduceDiv, Nat.reduceMod, Int.reduceLE, Int.reduceLT, Int.reduceEq, Int.reduceNeg, Int.reduceAdd, Int.reduceSub, Int.reduceToNat, Nat.reducePow, Int.ofNat_zero, Int.natCast_one, Int.cast_ofNat_Int, *]⟩, .inl ⟨rfl, rfl⟩, trivial⟩ (h1.no M _ (by omega) z hi) ?_
  refine sx ?_
  repeat' (first
    | exact True.intro
    | refine VW.seq ?_
    | refine VW.block ?_
    | ((first | refine VW.skip ?_ | refine VW.exit ?_ | refine VW.reg ?_ | refine VW.regD ?_ | refine VW.ret ?_ | show goA _ _ _ _ _ _ _ _ _ _ | show goB _ _ _ _ _ _ _ _ _ | show goAD _ _ _ _ _ _ _ _ _ _ _ _ _ _ | show goBD _ _ _ _ _ _ _ _ _ _ _); refine sx ?_)
    | refine VW.condT cx ?_
    | refine VW.condF cx ?_
    | refine VW.cond ex ?_ ?_
    | refine imp_nt ?_
    | refine imp_nf ?_
    | refine imp_dt (fun _ => ?_)
    | refine imp_df (fun _ => ?_)
    | (refine fun (_ : _ = true) => ?_)
    | (refine fun (_ : _ = false) => ?_)
    | refine vg_t ?_ ?_
    | refine vg_f ?_ ?_)
  exact .tmprE (ex) (ex) (by simp) (by simp [strs])
theorem w_rwrites0 (h1 : ROpen P) (M b : Nat) (hM : M < b) (g : Mg) (hg : g.ok b) (z : Int) (i : Nat) (hi : Ix z i) (ho : (g.get i).o = false) (m : Mem) (hm : m M = some g.rbox) : VW P c35 (PRet (Ends [.tmp 4] b (.sl (strs [])) (ofL [(M, g.rbox)]))) (fun t => [PV.ptr M 15 0 0, iv z][t]?) m b := by
  unfold c35
  obtain ⟨n1, n2, n3, n4, n5⟩ := below_ne hM
  have hk := rone_keep hM hm hg
  repeat' (first
    | exact True.intro
    | refine VW.seq ?_
    | refine VW.block ?_
    | ((first | refine VW.skip ?_ | refine VW.exit ?_ | refine VW.reg ?_ | refine VW.regD ?_ | refine VW.ret ?_ | show goA _ _ _ _ _ _ _ _ _ _ | show goB _ _ _ _ _ _ _ _ _ | show goAD _ _ _ _ _ _ _ _ _ _ _ _ _ _ | show goBD _ _ _ _ _ _ _ _ _ _ _); refine sx ?_)
    | refine VW.condT cx ?_
    | refine VW.condF cx ?_
    | refine VW.cond ex ?_ ?_
    | refine imp_nt ?_
    | refine imp_nf ?_
    | refine imp_dt (fun _ => ?_)
    | refine imp_df (fun _ => ?_)
    | (refine fun (_ : _ = true) => ?_)
    | (refine fun (_ : _ = false) => ?_)
    | refine vg_t ?_ ?_
    | refine vg_f ?_ ?_)
  refine VC.same (qs := [.ptr M 15 0 0, iv z]) (l := [(M, g.rbox)]) ⟨.inl ⟨rfl, by simp -implicitDefEqProofs only [ltS, lt8, List.all_cons, List.all_nil, eng, reduceIte, reduceCtorEq, Nat.reduceAdd, Nat.reduceMul, Nat.reduceSub, Nat.reduceEqDiff, Nat.reduceLeDiff, Nat.reduceLT, Nat.reduceDiv, Nat.reduceMod, Int.reduceLE, Int.reduceLT, Int.reduceEq, Int.reduceNeg, Int.reduceAdd, Int.reduceSub, Int.reduceToNat, Nat.reducePow, Int.ofNat_zero, Int.natCast_one, Int.cast_ofNat_Int, *]⟩, .inl ⟨rfl, rfl⟩, trivial⟩ (by simp only [List.mem_cons, List.not_mem_nil, or_false, forall_eq, forall_eq_or_imp]; exact ⟨cx, by omega, Mg.rblt hg⟩) (h1.yes M _ (by omega) g z i hi (hg.mono (by omega))) ?_
  refine sx ?_
  repeat' (first
    | exact True.intro
    | refine VW.seq ?_
    | refine VW.block ?_
    | ((first | refine VW.skip ?_ | refine VW.exit ?_ | refine VW.reg ?_ | refine VW.regD ?_ | refine VW.ret ?_ | show goA _ _ _ _ _ _ _ _ _ _ | show goB _ _ _ _ _ _ _ _ _ | show goAD _ _ _ _ _ _ _ _ _ _ _ _ _ _ | show goBD _ _ _ _ _ _ _ _ _ _ _); refine sx ?_)
    | refine VW.condT cx ?_
    | refine VW.condF cx ?_
    | refine VW.cond ex ?_ ?_
    | refine imp_nt ?_
    | refine imp_nf ?_
    | refine imp_dt (fun _ => ?_)
    | refine imp_df (fun _ => ?_)
    | (refine fun (_ : _ = true) => ?_)
    | (refine fun (_ : _ = false) => ?_)
    | refine vg_t ?_ ?_
    | refine vg_f ?_ ?_)
  exact .keepRow (ex) (ex) (by simp) (by simp [strs]) (rone_keep hM (cx) hg) (by simp only [List.mem_cons, List.not_mem_nil, or_false, forall_eq, forall_eq_or_imp]; rfl)
theorem w_rwrites1 (h1 : ROpen P) (M b : Nat) (hM : M < b) (g : Mg) (hg : g.ok b) (z : Int) (i : Nat) (hi : Ix z i) (ho : (g.get i).o = true) (ks : List Str) (hks : slP (g.get i).k (strs ks)) (hkl : ks.length < 1000) (m : Mem) (hm : m M = some g.rbox) :
    VW P c35 (PRet (Ends [.tmp 4] b (.sl (strs ks)) (ofL [(M, g.rbox)]))) (fun t => [PV.ptr M 15 0 0, iv z][t]?) m b := by
  unfold c35
  obtain ⟨n1, n2, n3, n4, n5⟩ := below_ne hM
  have hlen := strs_len' (l := ks)
  have hall : allLen 1 (strs ks) := strs_one
  have b1 : ks.length * 16 ≤ 140737488355328 := by omega
  have htk : (strs ks).take ks.length = strs ks := by rw [← hlen]; exact List.take_length
  have hk0 : ∀ m' : Mem, m' M = some g.rbox → ∀ x ∈ [(M, g.rbox)], m' x.1 = some x.2 ∧ x.1 < b ∧ x.2.lt (b + 8) = true ∧ x.2.fix b = true := fun m' h => rone_keep hM h hg
  repeat' (first
    | exact True.intro
    | refine VW.seq ?_
    | refine VW.block ?_
    | ((first | refine VW.skip ?_ | refine VW.exit ?_ | refine VW.reg ?_ | refine VW.regD ?_ | refine VW.ret ?_ | show goA _ _ _ _ _ _ _ _ _ _ | show goB _ _ _ _ _ _ _ _ _ | show goAD _ _ _ _ _ _ _ _ _ _ _ _ _ _ | show goBD _ _ _ _ _ _ _ _ _ _ _); refine sx ?_)
    | refine VW.condT cx ?_
    | refine VW.condF cx ?_
    | refine VW.cond ex ?_ ?_
    | refine imp_nt ?_
    | refine imp_nf ?_
    | refine imp_dt (fun _ => ?_)
    | refine imp_df (fun _ => ?_)
    | (refine fun (_ : _ = true) => ?_)
    | (refine fun (_ : _ = false) => ?_)
    | refine vg_t ?_ ?_
    | refine vg_f ?_ ?_)
  refine VC.same (qs := [.ptr M 15 0 0, iv z]) (l := [(M, g.rbox)]) ⟨.inl ⟨rfl, by simp -implicitDefEqProofs only [ltS, lt8, List.all_cons, List.all_nil, eng, reduceIte, reduceCtorEq, Nat.reduceAdd, Nat.reduceMul, Nat.reduceSub, Nat.reduceEqDiff, Nat.reduceLeDiff, Nat.reduceLT, Nat.reduceDiv, Nat.reduceMod, Int.reduceLE, Int.reduceLT, Int.reduceEq, Int.reduceNeg, Int.reduceAdd, Int.reduceSub, Int.reduceToNat, Nat.reducePow, Int.ofNat_zero, Int.natCast_one, Int.cast_ofNat_Int, *]⟩, .inl ⟨rfl, rfl⟩, trivial⟩ (by simp only [List.mem_cons, List.not_mem_nil, or_false, forall_eq, forall_eq_or_imp]; exact ⟨cx, by omega, Mg.rblt hg⟩) (h1.yes M _ (by omega) g z i hi (hg.mono (by omega))) ?_
  refine sx ?_
  rcases hi.four with ⟨rfl, rfl⟩ | ⟨rfl, rfl⟩ | ⟨rfl, rfl⟩ | ⟨rfl, rfl⟩
  · simp only [Mg.get] at ho hks
    rcases hks with ⟨hks, h0⟩ | hks
    · rw [h0]
      repeat' (first
    | exact True.intro
    | refine VW.seq ?_
    | refine VW.block ?_
    | ((first | refine VW.skip ?_ | refine VW.exit ?_ | refine VW.reg ?_ | refine VW.regD ?_ | refine VW.ret ?_ | show goA _ _ _ _ _ _ _ _ _ _ | show goB _ _ _ _ _ _ _ _ _ | show goAD _ _ _ _ _ _ _ _ _ _ _ _ _ _ | show goBD _ _ _ _ _ _ _ _ _ _ _); refine sx ?_)
    | refine VW.condT cx ?_
    | refine VW.condF cx ?_
    | refine VW.cond ex ?_ ?_
    | refine imp_nt ?_
    | refine imp_nf ?_
    | refine imp_dt (fun _ => ?_)
    | refine imp_df (fun _ => ?_)
    | (refine fun (_ : _ = true) => ?_)
    | (refine fun (_ : _ = false) => ?_)
    | refine vg_t ?_ ?_
    | refine vg_f ?_ ?_)
      exact .keepRow (ex) (ex) (by simp [hlen]) (by simp) (hk0 _ (cx)) (by simp only [List.mem_cons, List.not_mem_nil, or_false, forall_eq, forall_eq_or_imp]; rfl)
    · repeat' (first
    | exact True.intro
    | refine VW.seq ?_
    | refine VW.block ?_
    | ((first | refine VW.skip ?_ | refine VW.exit ?_ | refine VW.reg ?_ | refine VW.regD ?_ | refine VW.ret ?_ | show goA _ _ _ _ _ _ _ _ _ _ | show goB _ _ _ _ _ _ _ _ _ | show goAD _ _ _ _ _ _ _ _ _ _ _ _ _ _ | show goBD _ _ _ _ _ _ _ _ _ _ _); refine sx ?_)
    | refine VW.condT cx ?_
    | refine VW.condF cx ?_
    | refine VW.cond ex ?_ ?_
    | refine imp_nt ?_
    | refine imp_nf ?_
    | refine imp_dt (fun _ => ?_)
    | refine imp_df (fun _ => ?_)
    | (refine fun (_ : _ = true) => ?_)
    | (refine fun (_ : _ = false) => ?_)
    | refine vg_t ?_ ?_
    | refine vg_f ?_ ?_)
      exact .keepRow (ex) (ex) (by simp [hlen]) (by simp) (hk0 _ (cx)) (by simp only [List.mem_cons, List.not_mem_nil, or_false, forall_eq, forall_eq_or_imp]; rfl)
  · simp only [Mg.get] at ho hks
    rcases hks with ⟨hks, h0⟩ | hks
    · rw [h0]
      repeat' (first
    | exact True.intro
    | refine VW.seq ?_
    | refine VW.block ?_
    | ((first | refine VW.skip ?_ | refine VW.exit ?_ | refine VW.reg ?_ | refine VW.regD ?_ | refine VW.ret ?_ | show goA _ _ _ _ _ _ _ _ _ _ | show goB _ _ _ _ _ _ _ _ _ | show goAD _ _ _ _ _ _ _ _ _ _ _ _ _ _ | show goBD _ _ _ _ _ _ _ _ _ _ _); refine sx ?_)
    | refine VW.condT cx ?_
    | refine VW.condF cx ?_
    | refine VW.cond ex ?_ ?_
    | refine imp_nt ?_
    | refine imp_nf ?_
    | refine imp_dt (fun _ => ?_)
    | refine imp_df (fun _ => ?_)
    | (refine fun (_ : _ = true) => ?_)
    | (refine fun (_ : _ = false) => ?_)
    | refine vg_t ?_ ?_
    | refine vg_f ?_ ?_)
      exact .keepRow (ex) (ex) (by simp [hlen]) (by simp) (hk0 _ (cx)) (by simp only [List.mem_cons, List.not_mem_nil, or_false, forall_eq, forall_eq_or_imp]; rfl)
    · repeat' (first
    | exact True.intro
    | refine VW.seq ?_
    | refine VW.block ?_
    | ((first | refine VW.skip ?_ | refine VW.exit ?_ | refine VW.reg ?_ | refine VW.regD ?_ | refine VW.ret ?_ | show goA _ _ _ _ _ _ _ _ _ _ | show goB _ _ _ _ _ _ _ _ _ | show goAD _ _ _ _ _ _ _ _ _ _ _ _ _ _ | show goBD _ _ _ _ _ _ _ _ _ _ _); refine sx ?_)
    | refine VW.condT cx ?_
    | refine VW.condF cx ?_
    | refine VW.cond ex ?_ ?_
    | refine imp_nt ?_
    | refine imp_nf ?_
    | refine imp_dt (fun _ => ?_)
    | refine imp_df (fun _ => ?_)
    | (refine fun (_ : _ = true) => ?_)
    | (refine fun (_ : _ = false) => ?_)
    | refine vg_t ?_ ?_
    | refine vg_f ?_ ?_)
      exact .keepRow (ex) (ex) (by simp [hlen]) (by simp) (hk0 _ (cx)) (by simp only [List.mem_cons, List.not_mem_nil, or_false, forall_eq, forall_eq_or_imp]; rfl)
  · simp only [Mg.get] at ho hks
    rcases hks with ⟨hks, h0⟩ | hks
    · rw [h0]
      repeat' (first
    | exact True.intro
    | refine VW.seq ?_
    | refine VW.block ?_
    | ((first | refine VW.skip ?_ | refine VW.exit ?_ | refine VW.reg ?_ | refine VW.regD ?_ | refine VW.ret ?_ | show goA _ _ _ _ _ _ _ _ _ _ | show goB _ _ _ _ _ _ _ _ _ | show goAD _ _ _ _ _ _ _ _ _ _ _ _ _ _ | show goBD _ _ _ _ _ _ _ _ _ _ _); refine sx ?_)
    | refine VW.condT cx ?_
    | refine VW.condF cx ?_
    | refine VW.cond ex ?_ ?_
    | refine imp_nt ?_
    | refine imp_nf ?_
    | refine imp_dt (fun _ => ?_)
    | refine imp_df (fun _ => ?_)
    | (refine fun (_ : _ = true) => ?_)
    | (refine fun (_ : _ = false) => ?_)
    | refine vg_t ?_ ?_
    | refine vg_f ?_ ?_)
      exact .keepRow (ex) (ex) (by simp [hlen]) (by simp) (hk0 _ (cx)) (by simp only [List.mem_cons, List.not_mem_nil, or_false, forall_eq, forall_eq_or_imp]; rfl)
    · repeat' (first
    | exact True.intro
    | refine VW.seq ?_
    | refine VW.block ?_
    | ((first | refine VW.skip ?_ | refine VW.exit ?_ | refine VW.reg ?_ | refine VW.regD ?_ | refine VW.ret ?_ | show goA _ _ _ _ _ _ _ _ _ _ | show goB _ _ _ _ _ _ _ _ _ | show goAD _ _ _ _ _ _ _ _ _ _ _ _ _ _ | show goBD _ _ _ _ _ _ _ _ _ _ _); refine sx ?_)
    | refine VW.condT cx ?_
    | refine VW.condF cx ?_
    | refine VW.cond ex ?_ ?_
    | refine imp_nt ?_
    | refine imp_nf ?_
    | refine imp_dt (fun _ => ?_)
    | refine imp_df (fun _ => ?_)
    | (refine fun (_ : _ = true) => ?_)
    | (refine fun (_ : _ = false) => ?_)
    | refine vg_t ?_ ?_
    | refine vg_f ?_ ?_)
      exact .keepRow (ex) (ex) (by simp [hlen]) (by simp) (hk0 _ (cx)) (by simp only [List.mem_cons, List.not_mem_nil, or_false, forall_eq, forall_eq_or_imp]; rfl)
  · simp only [Mg.get] at ho hks
    rcases hks with ⟨hks, h0⟩ | hks
    · rw [h0]
      repeat' (first
    | exact True.intro
    | refine VW.seq ?_
    | refine VW.block ?_
    | ((first | refine VW.skip ?_ | refine VW.exit ?_ | refine VW.reg ?_ | refine VW.regD ?_ | refine VW.ret ?_ | show goA _ _ _ _ _ _ _ _ _ _ | show goB _ _ _ _ _ _ _ _ _ | show goAD _ _ _ _ _ _ _ _ _ _ _ _ _ _ | show goBD _ _ _ _ _ _ _ _ _ _ _); refine sx ?_)
    | refine VW.condT cx ?_
    | refine VW.condF cx ?_
    | refine VW.cond ex ?_ ?_
    | refine imp_nt ?_
    | refine imp_nf ?_
    | refine imp_dt (fun _ => ?_)
    | refine imp_df (fun _ => ?_)
    | (refine fun (_ : _ = true) => ?_)
    | (refine fun (_ : _ = false) => ?_)
    | refine vg_t ?_ ?_
    | refine vg_f ?_ ?_)
      exact .keepRow (ex) (ex) (by simp [hlen]) (by simp) (hk0 _ (cx)) (by simp only [List.mem_cons, List.not_mem_nil, or_false, forall_eq, forall_eq_or_imp]; rfl)
    · repeat' (first
    | exact True.intro
    | refine VW.seq ?_
    | refine VW.block ?_
    | ((first | refine VW.skip ?_ | refine VW.exit ?_ | refine VW.reg ?_ | refine VW.regD ?_ | refine VW.ret ?_ | show goA _ _ _ _ _ _ _ _ _ _ | show goB _ _ _ _ _ _ _ _ _ | show goAD _ _ _ _ _ _ _ _ _ _ _ _ _ _ | show goBD _ _ _ _ _ _ _ _ _ _ _); refine sx ?_)
    | refine VW.condT cx ?_
    | refine VW.condF cx ?_
    | refine VW.cond ex ?_ ?_
    | refine imp_nt ?_
    | refine imp_nf ?_
    | refine imp_dt (fun _ => ?_)
    | refine imp_df (fun _ => ?_)
    | (refine fun (_ : _ = true) => ?_)
    | (refine fun (_ : _ = false) => ?_)
    | refine vg_t ?_ ?_
    | refine vg_f ?_ ?_)
      exact .keepRow (ex) (ex) (by simp [hlen]) (by simp) (hk0 _ (cx)) (by simp only [List.mem_cons, List.not_mem_nil, or_false, forall_eq, forall_eq_or_imp]; rfl)
  

def JX (xs ys : List Str) (i : Nat) (e : Env) (m : Mem) (nx : Nat) : Prop := e 0 = some (.sl (strs xs)) ∧ e 1 = some (.sl (strs ys)) ∧ e 5 = some (iv i) ∧ xs.take i = ys.take i
theorem w_sameTexts (xs ys : List Str) (hl : xs.length < 1000) (hl' : ys.length < 1000) (b : Nat) : VW P c34 (PRet (Ends [.tmp 4] b (.bool (decide (xs = ys))) mt)) (fun t => [PV.sl (strs xs), .sl (strs ys)][t]?) mt b := by
  unfold c34
  have hlx := strs_len' (l := xs)
  have hly := strs_len' (l := ys)
  by_cases hll : xs.length = ys.length
  · have hll' : (xs.length : Int) = ys.length := by omega
    rw [hll] at hlx
    repeat' (first
    | exact True.intro
    | refine VW.seq ?_
    | refine VW.block ?_
    | ((first | refine VW.skip ?_ | refine VW.exit ?_ | refine VW.reg ?_ | refine VW.regD ?_ | refine VW.ret ?_ | show goA _ _ _ _ _ _ _ _ _ _ | show goB _ _ _ _ _ _ _ _ _ | show goAD _ _ _ _ _ _ _ _ _ _ _ _ _ _ | show goBD _ _ _ _ _ _ _ _ _ _ _); refine sx ?_)
    | refine VW.condT cx ?_
    | refine VW.condF cx ?_
    | refine VW.cond ex ?_ ?_
    | refine imp_nt ?_
    | refine imp_nf ?_
    | refine imp_dt (fun _ => ?_)
    | refine imp_df (fun _ => ?_)
    | (refine fun (_ : _ = true) => ?_)
    | (refine fun (_ : _ = false) => ?_)
    | refine vg_t ?_ ?_
    | refine vg_f ?_ ?_)
    refine VW.forN ys.length (JX xs ys) 0 (by omega) ⟨cy, cy, ey, by simp⟩ ?_
    rintro i e m nx hi ⟨e0, e1, e5, htk⟩
    by_cases hin : i < ys.length
    · have hin' : (i : Int) < ys.length := by omega
      obtain ⟨x, hx⟩ := get_of (l := xs) (i := i) (by omega)
      obtain ⟨y, hy⟩ := get_of hin
      have hx' : (strs xs)[i]? = some [.str x] := by rw [strs_get', hx]; rfl
      have hy' : (strs ys)[i]? = some [.str y] := by rw [strs_get', hy]; rfl
      have h00 : (0 : Int) ≤ i := by omega
      have htn : (i : Int).toNat = i := Int.toNat_natCast i
      have hw := i64_nat (n := i) (by omega)
      by_cases hxy : x = y
      · subst hxy
        have htk' : xs.take (i + 1) = ys.take (i + 1) := by rw [List.take_add_one, List.take_add_one, htk, hx, hy]
        clear hx hy hll hll' htk
        repeat' (first
    | exact True.intro
    | refine VW.seq ?_
    | refine VW.block ?_
    | ((first | refine VW.skip ?_ | refine VW.exit ?_ | refine VW.reg ?_ | refine VW.regD ?_ | refine VW.ret ?_ | show goA _ _ _ _ _ _ _ _ _ _ | show goB _ _ _ _ _ _ _ _ _ | show goAD _ _ _ _ _ _ _ _ _ _ _ _ _ _ | show goBD _ _ _ _ _ _ _ _ _ _ _); refine sx ?_)
    | refine VW.condT cx ?_
    | refine VW.condF cx ?_
    | refine VW.cond ex ?_ ?_
    | refine imp_nt ?_
    | refine imp_nf ?_
    | refine imp_dt (fun _ => ?_)
    | refine imp_df (fun _ => ?_)
    | (refine fun (_ : _ = true) => ?_)
    | (refine fun (_ : _ = false) => ?_)
    | refine vg_t ?_ ?_
    | refine vg_f ?_ ?_)
        exact ⟨cx, cx, cx, htk'⟩
      · have hne : decide (xs = ys) = false := by
          rw [decide_eq_false_iff_not]
          rintro rfl
          rw [hx] at hy; injection hy with hy; exact hxy hy
        clear hx hy hll hll' htk
        repeat' (first
    | exact True.intro
    | refine VW.seq ?_
    | refine VW.block ?_
    | ((first | refine VW.skip ?_ | refine VW.exit ?_ | refine VW.reg ?_ | refine VW.regD ?_ | refine VW.ret ?_ | show goA _ _ _ _ _ _ _ _ _ _ | show goB _ _ _ _ _ _ _ _ _ | show goAD _ _ _ _ _ _ _ _ _ _ _ _ _ _ | show goBD _ _ _ _ _ _ _ _ _ _ _); refine sx ?_)
    | refine VW.condT cx ?_
    | refine VW.condF cx ?_
    | refine VW.cond ex ?_ ?_
    | refine imp_nt ?_
    | refine imp_nf ?_
    | refine imp_dt (fun _ => ?_)
    | refine imp_df (fun _ => ?_)
    | (refine fun (_ : _ = true) => ?_)
    | (refine fun (_ : _ = false) => ?_)
    | refine vg_t ?_ ?_
    | refine vg_f ?_ ?_)
        exact .v exR exR
    · have hin' : ¬ (i : Int) < ys.length := by omega
      obtain rfl : i = ys.length := by omega
      have heq : decide (xs = ys) = true := by
        rw [decide_eq_true_iff]
        rw [List.take_length, ← hll, List.take_length] at htk
        exact htk
      clear htk hll hll'
      repeat' (first
    | exact True.intro
    | refine VW.seq ?_
    | refine VW.block ?_
    | ((first | refine VW.skip ?_ | refine VW.exit ?_ | refine VW.reg ?_ | refine VW.regD ?_ | refine VW.ret ?_ | show goA _ _ _ _ _ _ _ _ _ _ | show goB _ _ _ _ _ _ _ _ _ | show goAD _ _ _ _ _ _ _ _ _ _ _ _ _ _ | show goBD _ _ _ _ _ _ _ _ _ _ _); refine sx ?_)
    | refine VW.condT cx ?_
    | refine VW.condF cx ?_
    | refine VW.cond ex ?_ ?_
    | refine imp_nt ?_
    | refine imp_nf ?_
    | refine imp_dt (fun _ => ?_)
    | refine imp_df (fun _ => ?_)
    | (refine fun (_ : _ = true) => ?_)
    | (refine fun (_ : _ = false) => ?_)
    | refine vg_t ?_ ?_
    | refine vg_f ?_ ?_)
      exact .v exR exR
  · have hll' : ¬ (xs.length : Int) = ys.length := by omega
    have hne : decide (xs = ys) = false := by
      rw [decide_eq_false_iff_not]
      rintro rfl
      exact hll rfl
    repeat' (first
    | exact True.intro
    | refine VW.seq ?_
    | refine VW.block ?_
    | ((first | refine VW.skip ?_ | refine VW.exit ?_ | refine VW.reg ?_ | refine VW.regD ?_ | refine VW.ret ?_ | show goA _ _ _ _ _ _ _ _ _ _ | show goB _ _ _ _ _ _ _ _ _ | show goAD _ _ _ _ _ _ _ _ _ _ _ _ _ _ | show goBD _ _ _ _ _ _ _ _ _ _ _); refine sx ?_)
    | refine VW.condT cx ?_
    | refine VW.condF cx ?_
    | refine VW.cond ex ?_ ?_
    | refine imp_nt ?_
    | refine imp_nf ?_
    | refine imp_dt (fun _ => ?_)
    | refine imp_df (fun _ => ?_)
    | (refine fun (_ : _ = true) => ?_)
    | (refine fun (_ : _ = false) => ?_)
    | refine vg_t ?_ ?_
    | refine vg_f ?_ ?_)
    exact .v exR exR
end
end Go.Vx
