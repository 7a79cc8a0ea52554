/- Walks of the reference's manager: Write, last. -/
import Derived.Test.YtgkkffhoflgpoaaGI
import Derived.Test.YtgkkffhoflgpoaaGD
set_option linter.unusedSimpArgs false
set_option linter.unusedVariables false
set_option maxRecDepth 4000
set_option maxHeartbeats 2000000
namespace Go.Vx
open Go Go.Proofs

/-- A slice's cell: nil, or a row. -/
def slP (p : PV) (xs : List (List PV)) : Prop := (p = .nsl ∧ xs = []) ∨ p = .sl xs
def dns (l : List (Str × Int)) : List (List PV) := l.map fun x => [.str x.1, iv x.2]
theorem dns_len {l : List (Str × Int)} : (dns l).length = l.length := by simp [dns]
theorem dns_get {l : List (Str × Int)} {i : Nat} : (dns l)[i]? = (l[i]?).map fun x => [.str x.1, iv x.2] := by simp [dns]
def lastF (l : List (Str × Int)) (k : Str) : Int := l.foldl (fun v x => if x.1 = k then x.2 else v) (-1)
theorem lastF_app {l : List (Str × Int)} {k : Str} {x : Str × Int} : lastF (l ++ [x]) k = if x.1 = k then x.2 else lastF l k := by simp [lastF]
theorem lastF_step {l : List (Str × Int)} {k : Str} {x : Str × Int} {i : Nat} (h : l[i]? = some x) : lastF (l.take (i + 1)) k = if x.1 = k then x.2 else lastF (l.take i) k := by
  rw [List.take_add_one, h]; exact lastF_app
theorem slP_lt {p : PV} {xs : List (List PV)} {b : Nat} (h : slP p xs) : lt1s b p = true := by
  rcases h with ⟨rfl, _⟩ | rfl <;> rfl

section
variable {P : Program}
theorem w_rwriteR (h1 : Look P) (M b : Nat) (hM : M < b) (z : Int) (hi : z < 0 ∨ 4 ≤ z) (k : Str) : VW P c42 (PRet (Ends [.tmp 6] b (iv 2) mt)) (fun t => [PV.ptr M 15 0 0, iv z, .str k][t]?) mt b := by
  unfold c42
  obtain ⟨n1, n2, n3, n4, n5⟩ := below_ne hM
  repeat' (first
    | exact True.intro
    | refine VW.seq ?_
    | refine VW.block ?_
    | ((first | refine VW.skip ?_ | refine VW.exit ?_ | refine VW.reg ?_ | refine VW.regD ?_ | refine VW.ret ?_ | show goA _ _ _ _ _ _ _ _ _ _ | show goB _ _ _ _ _ _ _ _ _ | show goAD _ _ _ _ _ _ _ _ _ _ _ _ _ _ | show goBD _ _ _ _ _ _ _ _ _ _ _); refine sx ?_)
    | refine VW.condT cx ?_
    | refine VW.condF cx ?_
    | refine VW.cond ex ?_ ?_
    | refine imp_nt ?_
    | refine imp_nf ?_
    | refine imp_dt (fun _ => ?_)
    | refine imp_df (fun _ => ?_)
    | (refine fun (_ : _ = true) => ?_)
    | (refine fun (_ : _ = false) => ?_)
    | refine vg_t ?_ ?_
    | refine vg_f ?_ ?_)
  refine VC.lookR h1 (by omega) hi ?_
  refine sx ?_
  repeat' (first
    | exact True.intro
    | refine VW.seq ?_
    | refine VW.block ?_
    | ((first | refine VW.skip ?_ | refine VW.exit ?_ | refine VW.reg ?_ | refine VW.regD ?_ | refine VW.ret ?_ | show goA _ _ _ _ _ _ _ _ _ _ | show goB _ _ _ _ _ _ _ _ _ | show goAD _ _ _ _ _ _ _ _ _ _ _ _ _ _ | show goBD _ _ _ _ _ _ _ _ _ _ _); refine sx ?_)
    | refine VW.condT cx ?_
    | refine VW.condF cx ?_
    | refine VW.cond ex ?_ ?_
    | refine imp_nt ?_
    | refine imp_nf ?_
    | refine imp_dt (fun _ => ?_)
    | refine imp_df (fun _ => ?_)
    | (refine fun (_ : _ = true) => ?_)
    | (refine fun (_ : _ = false) => ?_)
    | refine vg_t ?_ ?_
    | refine vg_f ?_ ?_)
  exact .v exR exR
theorem w_rwrite0 (h1 : Look P) (M b : Nat) (hM : M < b) (g : Mg) (hg : g.ok b) (z : Int) (i : Nat) (hi : Ix z i) (ho : (g.get i).o = false) (k : Str) (m : Mem) (hm : m M = some g.rbox) : VW P c42 (PRet (Ends [.tmp 6] b (iv 7) (ofL [(M, g.rbox)]))) (fun t => [PV.ptr M 15 0 0, iv z, .str k][t]?) m b := by
  unfold c42
  obtain ⟨n1, n2, n3, n4, n5⟩ := below_ne hM
  have hk := rone_keep hM hm hg
  repeat' (first
    | exact True.intro
    | refine VW.seq ?_
    | refine VW.block ?_
    | ((first | refine VW.skip ?_ | refine VW.exit ?_ | refine VW.reg ?_ | refine VW.regD ?_ | refine VW.ret ?_ | show goA _ _ _ _ _ _ _ _ _ _ | show goB _ _ _ _ _ _ _ _ _ | show goAD _ _ _ _ _ _ _ _ _ _ _ _ _ _ | show goBD _ _ _ _ _ _ _ _ _ _ _); refine sx ?_)
    | refine VW.condT cx ?_
    | refine VW.condF cx ?_
    | refine VW.cond ex ?_ ?_
    | refine imp_nt ?_
    | refine imp_nf ?_
    | refine imp_dt (fun _ => ?_)
    | refine imp_df (fun _ => ?_)
    | (refine fun (_ : _ = true) => ?_)
    | (refine fun (_ : _ = false) => ?_)
    | refine vg_t ?_ ?_
    | refine vg_f ?_ ?_)
  refine VC.look h1 (by omega) hi (hg.mono (by omega)) hm ?_
  refine sx ?_
  repeat' (first
    | exact True.intro
    | refine VW.seq ?_
    | refine VW.block ?_
    | ((first | refine VW.skip ?_ | refine VW.exit ?_ | refine VW.reg ?_ | refine VW.regD ?_ | refine VW.ret ?_ | show goA _ _ _ _ _ _ _ _ _ _ | show goB _ _ _ _ _ _ _ _ _ | show goAD _ _ _ _ _ _ _ _ _ _ _ _ _ _ | show goBD _ _ _ _ _ _ _ _ _ _ _); refine sx ?_)
    | refine VW.condT cx ?_
    | refine VW.condF cx ?_
    | refine VW.cond ex ?_ ?_
    | refine imp_nt ?_
    | refine imp_nf ?_
    | refine imp_dt (fun _ => ?_)
    | refine imp_df (fun _ => ?_)
    | (refine fun (_ : _ = true) => ?_)
    | (refine fun (_ : _ = false) => ?_)
    | refine vg_t ?_ ?_
    | refine vg_f ?_ ?_)
  exact .keep exR cxL hk
theorem w_rwrite1 (h1 : Look P) (M b : Nat) (hM : M < b) (g : Mg) (hg : g.ok b) (z : Int) (i : Nat) (hi : Ix z i) (ho : (g.get i).o = true) (k : Str) (xs ys : List (List PV)) (hp : slP (g.get i).k xs) (h2 : ∀ b, V P 53 [.sl xs, .str k] mt b (.sl ys) mt) (m : Mem) (hm : m M = some g.rbox) :
    VW P c42 (PRet (Ends [.tmp 6] b (iv 0) (ofL [(M, (g.put i ⟨true, (g.get i).s, .sl ys⟩).rbox)]))) (fun t => [PV.ptr M 15 0 0, iv z, .str k][t]?) m b := by
  unfold c42
  obtain ⟨n1, n2, n3, n4, n5⟩ := below_ne hM
  have hg' := Mg.put_ok (i := i) (x := ⟨true, (g.get i).s, .sl ys⟩) hg rfl
  repeat' (first
    | exact True.intro
    | refine VW.seq ?_
    | refine VW.block ?_
    | ((first | refine VW.skip ?_ | refine VW.exit ?_ | refine VW.reg ?_ | refine VW.regD ?_ | refine VW.ret ?_ | show goA _ _ _ _ _ _ _ _ _ _ | show goB _ _ _ _ _ _ _ _ _ | show goAD _ _ _ _ _ _ _ _ _ _ _ _ _ _ | show goBD _ _ _ _ _ _ _ _ _ _ _); refine sx ?_)
    | refine VW.condT cx ?_
    | refine VW.condF cx ?_
    | refine VW.cond ex ?_ ?_
    | refine imp_nt ?_
    | refine imp_nf ?_
    | refine imp_dt (fun _ => ?_)
    | refine imp_df (fun _ => ?_)
    | (refine fun (_ : _ = true) => ?_)
    | (refine fun (_ : _ = false) => ?_)
    | refine vg_t ?_ ?_
    | refine vg_f ?_ ?_)
  refine VC.look h1 (by omega) hi (hg.mono (by omega)) hm ?_
  refine sx ?_
  rcases hi.four with ⟨rfl, rfl⟩ | ⟨rfl, rfl⟩ | ⟨rfl, rfl⟩ | ⟨rfl, rfl⟩
  all_goals
    simp only [Mg.get] at ho hp hg' ⊢
    rcases hp with ⟨hp, rfl⟩ | hp
    · repeat' (first
    | exact True.intro
    | refine VW.seq ?_
    | refine VW.block ?_
    | ((first | refine VW.skip ?_ | refine VW.exit ?_ | refine VW.reg ?_ | refine VW.regD ?_ | refine VW.ret ?_ | show goA _ _ _ _ _ _ _ _ _ _ | show goB _ _ _ _ _ _ _ _ _ | show goAD _ _ _ _ _ _ _ _ _ _ _ _ _ _ | show goBD _ _ _ _ _ _ _ _ _ _ _); refine sx ?_)
    | refine VW.condT cx ?_
    | refine VW.condF cx ?_
    | refine VW.cond ex ?_ ?_
    | refine imp_nt ?_
    | refine imp_nf ?_
    | refine imp_dt (fun _ => ?_)
    | refine imp_df (fun _ => ?_)
    | (refine fun (_ : _ = true) => ?_)
    | (refine fun (_ : _ = false) => ?_)
    | refine vg_t ?_ ?_
    | refine vg_f ?_ ?_)
      refine VC.pure [.sl [], .str k] _ ⟨.inr rfl, .inl ⟨rfl, rfl⟩, trivial⟩ (h2 _) ?_
      refine sx ?_
      repeat' (first
    | exact True.intro
    | refine VW.seq ?_
    | refine VW.block ?_
    | ((first | refine VW.skip ?_ | refine VW.exit ?_ | refine VW.reg ?_ | refine VW.regD ?_ | refine VW.ret ?_ | show goA _ _ _ _ _ _ _ _ _ _ | show goB _ _ _ _ _ _ _ _ _ | show goAD _ _ _ _ _ _ _ _ _ _ _ _ _ _ | show goBD _ _ _ _ _ _ _ _ _ _ _); refine sx ?_)
    | refine VW.condT cx ?_
    | refine VW.condF cx ?_
    | refine VW.cond ex ?_ ?_
    | refine imp_nt ?_
    | refine imp_nf ?_
    | refine imp_dt (fun _ => ?_)
    | refine imp_df (fun _ => ?_)
    | (refine fun (_ : _ = true) => ?_)
    | (refine fun (_ : _ = false) => ?_)
    | refine vg_t ?_ ?_
    | refine vg_f ?_ ?_)
      exact .keep exR cxL (rone_keep hM (by simp -implicitDefEqProofs only [eng, reduceIte, reduceCtorEq, Nat.reduceAdd, Nat.reduceMul, Nat.reduceSub, Nat.reduceEqDiff, Nat.reduceLeDiff, Nat.reduceLT, Nat.reduceDiv, Nat.reduceMod, Int.reduceLE, Int.reduceLT, Int.reduceEq, Int.reduceNeg, Int.reduceAdd, Int.reduceSub, Int.reduceToNat, Nat.reducePow, Int.ofNat_zero, Int.natCast_one, Int.cast_ofNat_Int, Mg.put, *]) hg')
    · repeat' (first
    | exact True.intro
    | refine VW.seq ?_
    | refine VW.block ?_
    | ((first | refine VW.skip ?_ | refine VW.exit ?_ | refine VW.reg ?_ | refine VW.regD ?_ | refine VW.ret ?_ | show goA _ _ _ _ _ _ _ _ _ _ | show goB _ _ _ _ _ _ _ _ _ | show goAD _ _ _ _ _ _ _ _ _ _ _ _ _ _ | show goBD _ _ _ _ _ _ _ _ _ _ _ | refine VC.p2 (h2 _) rfl rfl rfl rfl ?_); refine sx ?_)
    | refine VW.condT cx ?_
    | refine VW.condF cx ?_
    | refine VW.cond ex ?_ ?_
    | refine imp_nt ?_
    | refine imp_nf ?_
    | refine imp_dt (fun _ => ?_)
    | refine imp_df (fun _ => ?_)
    | (refine fun (_ : _ = true) => ?_)
    | (refine fun (_ : _ = false) => ?_)
    | refine vg_t ?_ ?_
    | refine vg_f ?_ ?_)
      exact .keep exR cxL (rone_keep hM (by simp -implicitDefEqProofs only [eng, reduceIte, reduceCtorEq, Nat.reduceAdd, Nat.reduceMul, Nat.reduceSub, Nat.reduceEqDiff, Nat.reduceLeDiff, Nat.reduceLT, Nat.reduceDiv, Nat.reduceMod, Int.reduceLE, Int.reduceLT, Int.reduceEq, Int.reduceNeg, Int.reduceAdd, Int.reduceSub, Int.reduceToNat, Nat.reducePow, Int.ofNat_zero, Int.natCast_one, Int.cast_ofNat_Int, Mg.put, *]) hg')

def JL (g : Mg) (R : Nat) (k : Str) (dn : List (Str × Int)) (i : Nat) (e : Env) (m : Mem) (nx : Nat) : Prop :=
  e 0 = some (.ptr R 15 0 0) ∧ e 1 = some (.str k) ∧ e 6 = some (iv i) ∧ e 5 = some (iv (lastF (dn.take i) k)) ∧ m R = some g.rbox
theorem w_rlast (M b : Nat) (hM : M < b) (g : Mg) (hg : g.ok b) (k : Str) (dn : List (Str × Int)) (hd : slP g.w (dns dn)) (hl : dn.length < 100000) (m : Mem) (hm : m M = some g.rbox) :
    VW P c50 (PRet (Ends [.tmp 4] b (iv (lastF dn k)) (ofL [(M, g.rbox)]))) (fun t => [PV.ptr M 15 0 0, .str k][t]?) m b := by
  unfold c50
  obtain ⟨n1, n2, n3, n4, n5⟩ := below_ne hM
  have hlen := dns_len (l := dn)
  repeat' (first
    | exact True.intro
    | refine VW.seq ?_
    | refine VW.block ?_
    | ((first | refine VW.skip ?_ | refine VW.exit ?_ | refine VW.reg ?_ | refine VW.regD ?_ | refine VW.ret ?_ | show goA _ _ _ _ _ _ _ _ _ _ | show goB _ _ _ _ _ _ _ _ _ | show goAD _ _ _ _ _ _ _ _ _ _ _ _ _ _ | show goBD _ _ _ _ _ _ _ _ _ _ _); refine sx ?_)
    | refine VW.condT cx ?_
    | refine VW.condF cx ?_
    | refine VW.cond ex ?_ ?_
    | refine imp_nt ?_
    | refine imp_nf ?_
    | refine imp_dt (fun _ => ?_)
    | refine imp_df (fun _ => ?_)
    | (refine fun (_ : _ = true) => ?_)
    | (refine fun (_ : _ = false) => ?_)
    | refine vg_t ?_ ?_
    | refine vg_f ?_ ?_)
  refine VW.forN dn.length (JL g M k dn) 0 (by omega) ⟨cy, cy, ey, ey, hm⟩ ?_
  clear hm m
  rintro i e m nx hi ⟨e0, e1, e6, e5, hm⟩
  have hk := rone_keep hM hm hg
  rcases hd with ⟨hw0, hx0⟩ | hws
  · have hd0 : dn = [] := by simpa [dns] using hx0
    subst hd0
    obtain rfl : i = 0 := by simpa using hi
    replace e6 : e 6 = some (iv 0) := e6
    repeat' (first
    | exact True.intro
    | refine VW.seq ?_
    | refine VW.block ?_
    | ((first | refine VW.skip ?_ | refine VW.exit ?_ | refine VW.reg ?_ | refine VW.regD ?_ | refine VW.ret ?_ | show goA _ _ _ _ _ _ _ _ _ _ | show goB _ _ _ _ _ _ _ _ _ | show goAD _ _ _ _ _ _ _ _ _ _ _ _ _ _ | show goBD _ _ _ _ _ _ _ _ _ _ _); refine sx ?_)
    | refine VW.condT cx ?_
    | refine VW.condF cx ?_
    | refine VW.cond ex ?_ ?_
    | refine imp_nt ?_
    | refine imp_nf ?_
    | refine imp_dt (fun _ => ?_)
    | refine imp_df (fun _ => ?_)
    | (refine fun (_ : _ = true) => ?_)
    | (refine fun (_ : _ = false) => ?_)
    | refine vg_t ?_ ?_
    | refine vg_f ?_ ?_)
    exact .keep exR cxL hk
  · by_cases hin : i < dn.length
    · have hin' : (i : Int) < dn.length := by omega
      obtain ⟨x, hx⟩ := get_of hin
      have hx' : (dns dn)[i]? = some [.str x.1, iv x.2] := by rw [dns_get, hx]; rfl
      have h00 : (0 : Int) ≤ i := by omega
      have htn : (i : Int).toNat = i := Int.toNat_natCast i
      have hw := i64_nat (n := i) (by omega)
      have hst := lastF_step (k := k) hx
      by_cases hxk : x.1 = k
      · rw [if_pos hxk] at hst
        clear hx
        repeat' (first
    | exact True.intro
    | refine VW.seq ?_
    | refine VW.block ?_
    | ((first | refine VW.skip ?_ | refine VW.exit ?_ | refine VW.reg ?_ | refine VW.regD ?_ | refine VW.ret ?_ | show goA _ _ _ _ _ _ _ _ _ _ | show goB _ _ _ _ _ _ _ _ _ | show goAD _ _ _ _ _ _ _ _ _ _ _ _ _ _ | show goBD _ _ _ _ _ _ _ _ _ _ _); refine sx ?_)
    | refine VW.condT cx ?_
    | refine VW.condF cx ?_
    | refine VW.cond ex ?_ ?_
    | refine imp_nt ?_
    | refine imp_nf ?_
    | refine imp_dt (fun _ => ?_)
    | refine imp_df (fun _ => ?_)
    | (refine fun (_ : _ = true) => ?_)
    | (refine fun (_ : _ = false) => ?_)
    | refine vg_t ?_ ?_
    | refine vg_f ?_ ?_)
        exact ⟨cx, cx, cx, cx, hm⟩
      · rw [if_neg hxk] at hst
        clear hx
        repeat' (first
    | exact True.intro
    | refine VW.seq ?_
    | refine VW.block ?_
    | ((first | refine VW.skip ?_ | refine VW.exit ?_ | refine VW.reg ?_ | refine VW.regD ?_ | refine VW.ret ?_ | show goA _ _ _ _ _ _ _ _ _ _ | show goB _ _ _ _ _ _ _ _ _ | show goAD _ _ _ _ _ _ _ _ _ _ _ _ _ _ | show goBD _ _ _ _ _ _ _ _ _ _ _); refine sx ?_)
    | refine VW.condT cx ?_
    | refine VW.condF cx ?_
    | refine VW.cond ex ?_ ?_
    | refine imp_nt ?_
    | refine imp_nf ?_
    | refine imp_dt (fun _ => ?_)
    | refine imp_df (fun _ => ?_)
    | (refine fun (_ : _ = true) => ?_)
    | (refine fun (_ : _ = false) => ?_)
    | refine vg_t ?_ ?_
    | refine vg_f ?_ ?_)
        exact ⟨cx, cx, cx, cx, hm⟩
    · have hin' : ¬ (i : Int) < dn.length := by omega
      have hdr : dn.take i = dn := List.take_of_length_le (by omega)
      rw [hdr] at e5
      repeat' (first
    | exact True.intro
    | refine VW.seq ?_
    | refine VW.block ?_
    | ((first | refine VW.skip ?_ | refine VW.exit ?_ | refine VW.reg ?_ | refine VW.regD ?_ | refine VW.ret ?_ | show goA _ _ _ _ _ _ _ _ _ _ | show goB _ _ _ _ _ _ _ _ _ | show goAD _ _ _ _ _ _ _ _ _ _ _ _ _ _ | show goBD _ _ _ _ _ _ _ _ _ _ _); refine sx ?_)
    | refine VW.condT cx ?_
    | refine VW.condF cx ?_
    | refine VW.cond ex ?_ ?_
    | refine imp_nt ?_
    | refine imp_nf ?_
    | refine imp_dt (fun _ => ?_)
    | refine imp_df (fun _ => ?_)
    | (refine fun (_ : _ = true) => ?_)
    | (refine fun (_ : _ = false) => ?_)
    | refine vg_t ?_ ?_
    | refine vg_f ?_ ?_)
      exact .keep exR cxL hk
end
end Go.Vx
/- Walks of the reference's manager: Test, Commit, Writes; SameTexts. -/
set_option linter.unusedSimpArgs false
set_option linter.unusedVariables false
set_option maxRecDepth 4000
set_option maxHeartbeats 2000000
namespace Go.Vx
open Go Go.Proofs

def Last (P : Program) : Prop := ∀ M b, M < b → ∀ g, Mg.ok g b → ∀ k dn, slP g.w (dns dn) → dn.length < 100000 → V P 50 [.ptr M 15 0 0, .str k] (ofL [(M, g.rbox)]) b (iv (lastF dn k)) (ofL [(M, g.rbox)])
def rclash (dn : List (Str × Int)) (s : Int) (x : Str) : Bool := decide (s < lastF dn x)
def rtestF (ks : List Str) (dn : List (Str × Int)) (s h : Int) : Int := if ks.any (rclash dn s) then 13 else if 1073741824 ≤ h then 4 else 0

section
variable {P : Program}
theorem VC.rlast (h1 : Last P) {M b : Nat} (hM : M < b) {g : Mg} (hg : g.ok b) {k : Str} {dn : List (Str × Int)} (hd : slP g.w (dns dn)) (hl : dn.length < 100000) {mR m : Mem} (hR : mR M = some g.rbox) (hm : m M = some g.rbox) {nd : Bool} {K : PV → Mem → Prop} (hk : K (iv (lastF dn k)) m) : VC P b (.f 50) [.ptr M 15 0 0, .str k] true nd K mR m :=
  .ol rfl [.ptr M 15 0 0, .str k] [(M, g.rbox)] [(M, g.rbox)] _ ⟨.inl ⟨rfl, by simpa [PV.lt, lt1] using hM⟩, .inl ⟨rfl, rfl⟩, trivial⟩ (by simp only [List.mem_cons, List.not_mem_nil, or_false, forall_eq, forall_eq_or_imp]; exact ⟨hR, hM, by simpa using Mg.rblt (k := 0) hg⟩) (by simp) (h1 M b hM g hg k dn hd hl) (by
    rw [upds_same (by simp only [List.mem_cons, List.not_mem_nil, or_false, forall_eq, forall_eq_or_imp]; exact hm)]; exact hk)

def JT' (g : Mg) (s : Int) (p : PV) (M : Nat) (ks : List Str) (dn : List (Str × Int)) (b : Nat) (i : Nat) (e : Env) (m : Mem) (nx : Nat) : Prop :=
  ∃ X T, e 0 = some (.ptr M 15 0 0) ∧ e 7 = some (iv i) ∧ e 6 = some (.ptr X 3 0 0) ∧ m M = some g.rbox ∧ m X = some (.box [.bool true, iv s, p] T) ∧ (∀ x ∈ ks.take i, rclash dn s x = false) ∧ b ≤ nx
theorem w_rtestR (h1 : Look P) (M b : Nat) (hM : M < b) (z : Int) (hi : z < 0 ∨ 4 ≤ z) : VW P c33 (PRet (Ends [.tmp 4] b (iv 2) mt)) (fun t => [PV.ptr M 15 0 0, iv z][t]?) mt b := by
  unfold c33
  obtain ⟨n1, n2, n3, n4, n5⟩ := below_ne hM
  repeat' (first
    | exact True.intro
    | refine VW.seq ?_
    | refine VW.block ?_
    | ((first | refine VW.skip ?_ | refine VW.exit ?_ | refine VW.reg ?_ | refine VW.regD ?_ | refine VW.ret ?_ | show goA _ _ _ _ _ _ _ _ _ _ | show goB _ _ _ _ _ _ _ _ _ | show goAD _ _ _ _ _ _ _ _ _ _ _ _ _ _ | show goBD _ _ _ _ _ _ _ _ _ _ _); refine sx ?_)
    | refine VW.condT cx ?_
    | refine VW.condF cx ?_
    | refine VW.cond ex ?_ ?_
    | refine imp_nt ?_
    | refine imp_nf ?_
    | refine imp_dt (fun _ => ?_)
    | refine imp_df (fun _ => ?_)
    | (refine fun (_ : _ = true) => ?_)
    | (refine fun (_ : _ = false) => ?_)
    | refine vg_t ?_ ?_
    | refine vg_f ?_ ?_)
  refine VC.lookR h1 (by omega) hi ?_
  refine sx ?_
  repeat' (first
    | exact True.intro
    | refine VW.seq ?_
    | refine VW.block ?_
    | ((first | refine VW.skip ?_ | refine VW.exit ?_ | refine VW.reg ?_ | refine VW.regD ?_ | refine VW.ret ?_ | show goA _ _ _ _ _ _ _ _ _ _ | show goB _ _ _ _ _ _ _ _ _ | show goAD _ _ _ _ _ _ _ _ _ _ _ _ _ _ | show goBD _ _ _ _ _ _ _ _ _ _ _); refine sx ?_)
    | refine VW.condT cx ?_
    | refine VW.condF cx ?_
    | refine VW.cond ex ?_ ?_
    | refine imp_nt ?_
    | refine imp_nf ?_
    | refine imp_dt (fun _ => ?_)
    | refine imp_df (fun _ => ?_)
    | (refine fun (_ : _ = true) => ?_)
    | (refine fun (_ : _ = false) => ?_)
    | refine vg_t ?_ ?_
    | refine vg_f ?_ ?_)
  exact .v exR exR
theorem w_rtest0 (h1 : Look P) (M b : Nat) (hM : M < b) (g : Mg) (hg : g.ok b) (z : Int) (i : Nat) (hi : Ix z i) (ho : (g.get i).o = false) (m : Mem) (hm : m M = some g.rbox) : VW P c33 (PRet (Ends [.tmp 4] b (iv 7) (ofL [(M, g.rbox)]))) (fun t => [PV.ptr M 15 0 0, iv z][t]?) m b := by
  unfold c33
  obtain ⟨n1, n2, n3, n4, n5⟩ := below_ne hM
  have hk := rone_keep hM hm hg
  repeat' (first
    | exact True.intro
    | refine VW.seq ?_
    | refine VW.block ?_
    | ((first | refine VW.skip ?_ | refine VW.exit ?_ | refine VW.reg ?_ | refine VW.regD ?_ | refine VW.ret ?_ | show goA _ _ _ _ _ _ _ _ _ _ | show goB _ _ _ _ _ _ _ _ _ | show goAD _ _ _ _ _ _ _ _ _ _ _ _ _ _ | show goBD _ _ _ _ _ _ _ _ _ _ _); refine sx ?_)
    | refine VW.condT cx ?_
    | refine VW.condF cx ?_
    | refine VW.cond ex ?_ ?_
    | refine imp_nt ?_
    | refine imp_nf ?_
    | refine imp_dt (fun _ => ?_)
    | refine imp_df (fun _ => ?_)
    | (refine fun (_ : _ = true) => ?_)
    | (refine fun (_ : _ = false) => ?_)
    | refine vg_t ?_ ?_
    | refine vg_f ?_ ?_)
  refine VC.look h1 (by omega) hi (hg.mono (by omega)) hm ?_
  refine sx ?_
  repeat' (first
    | exact True.intro
    | refine VW.seq ?_
    | refine VW.block ?_
    | ((first | refine VW.skip ?_ | refine VW.exit ?_ | refine VW.reg ?_ | refine VW.regD ?_ | refine VW.ret ?_ | show goA _ _ _ _ _ _ _ _ _ _ | show goB _ _ _ _ _ _ _ _ _ | show goAD _ _ _ _ _ _ _ _ _ _ _ _ _ _ | show goBD _ _ _ _ _ _ _ _ _ _ _); refine sx ?_)
    | refine VW.condT cx ?_
    | refine VW.condF cx ?_
    | refine VW.cond ex ?_ ?_
    | refine imp_nt ?_
    | refine imp_nf ?_
    | refine imp_dt (fun _ => ?_)
    | refine imp_df (fun _ => ?_)
    | (refine fun (_ : _ = true) => ?_)
    | (refine fun (_ : _ = false) => ?_)
    | refine vg_t ?_ ?_
    | refine vg_f ?_ ?_)
  exact .keep exR cxL hk
theorem w_rtest1 (h1 : Look P) (h2 : Last P) (M b : Nat) (hM : M < b) (g : Mg) (hg : g.ok b) (z : Int) (i : Nat) (hi : Ix z i) (ho : (g.get i).o = true) (ks : List Str) (hks : slP (g.get i).k (strs ks)) (hkl : ks.length < 1000) (dn : List (Str × Int)) (hd : slP g.w (dns dn)) (hdl : dn.length < 100000) (m : Mem) (hm : m M = some g.rbox) :
    VW P c33 (PRet (Ends [.tmp 4] b (iv (rtestF ks dn (g.get i).s g.h)) (ofL [(M, g.rbox)]))) (fun t => [PV.ptr M 15 0 0, iv z][t]?) m b := by
  unfold c33
  obtain ⟨n1, n2, n3, n4, n5⟩ := below_ne hM
  have hlen := strs_len' (l := ks)
  repeat' (first
    | exact True.intro
    | refine VW.seq ?_
    | refine VW.block ?_
    | ((first | refine VW.skip ?_ | refine VW.exit ?_ | refine VW.reg ?_ | refine VW.regD ?_ | refine VW.ret ?_ | show goA _ _ _ _ _ _ _ _ _ _ | show goB _ _ _ _ _ _ _ _ _ | show goAD _ _ _ _ _ _ _ _ _ _ _ _ _ _ | show goBD _ _ _ _ _ _ _ _ _ _ _); refine sx ?_)
    | refine VW.condT cx ?_
    | refine VW.condF cx ?_
    | refine VW.cond ex ?_ ?_
    | refine imp_nt ?_
    | refine imp_nf ?_
    | refine imp_dt (fun _ => ?_)
    | refine imp_df (fun _ => ?_)
    | (refine fun (_ : _ = true) => ?_)
    | (refine fun (_ : _ = false) => ?_)
    | refine vg_t ?_ ?_
    | refine vg_f ?_ ?_)
  refine VC.look h1 (by omega) hi (hg.mono (by omega)) hm ?_
  refine sx ?_
  rcases hi.four with ⟨rfl, rfl⟩ | ⟨rfl, rfl⟩ | ⟨rfl, rfl⟩ | ⟨rfl, rfl⟩
  · simp only [Mg.get] at ho hks ⊢
    repeat' (first
    | exact True.intro
    | refine VW.seq ?_
    | refine VW.block ?_
    | ((first | refine VW.skip ?_ | refine VW.exit ?_ | refine VW.reg ?_ | refine VW.regD ?_ | refine VW.ret ?_ | show goA _ _ _ _ _ _ _ _ _ _ | show goB _ _ _ _ _ _ _ _ _ | show goAD _ _ _ _ _ _ _ _ _ _ _ _ _ _ | show goBD _ _ _ _ _ _ _ _ _ _ _); refine sx ?_)
    | refine VW.condT cx ?_
    | refine VW.condF cx ?_
    | refine VW.cond ex ?_ ?_
    | refine imp_nt ?_
    | refine imp_nf ?_
    | refine imp_dt (fun _ => ?_)
    | refine imp_df (fun _ => ?_)
    | (refine fun (_ : _ = true) => ?_)
    | (refine fun (_ : _ = false) => ?_)
    | refine vg_t ?_ ?_
    | refine vg_f ?_ ?_)
    refine VW.forN ks.length (JT' g g.a0.s g.a0.k M ks dn b) 0 (by omega) ⟨_, _, cy, ey, ey, cx, ex, by simp, by omega⟩ ?_
    clear hm m
    rintro i e m nx hi ⟨X, T, e0, e7, e6, hm, hX, hcl, hbn⟩
    have q1 := ne_of_obj hm hX (by simp)
    have q2 := ne_of_obj hX hm (by simp)
    have hk := rone_keep hM hm hg
    refine VW.below hm fun hlM => VW.below hX fun hlX => ?_
    obtain ⟨n1', n2', n3', n4', n5'⟩ := below_ne hlM
    obtain ⟨x1', x2', x3', x4', x5'⟩ := below_ne hlX
    by_cases hin : i < ks.length
    · have hks' : g.a0.k = .sl (strs ks) := by
        rcases hks with ⟨_, h0⟩ | h
        · rw [h0] at hlen; simp at hlen; omega
        · exact h
      have hin' : (i : Int) < ks.length := by omega
      obtain ⟨x, hx⟩ := get_of hin
      have hx' : (strs ks)[i]? = some [.str x] := by rw [strs_get', hx]; rfl
      have h00 : (0 : Int) ≤ i := by omega
      have htn : (i : Int).toNat = i := Int.toNat_natCast i
      have hw := i64_nat (n := i) (by omega)
      repeat' (first
    | exact True.intro
    | refine VW.seq ?_
    | refine VW.block ?_
    | ((first | refine VW.skip ?_ | refine VW.exit ?_ | refine VW.reg ?_ | refine VW.regD ?_ | refine VW.ret ?_ | show goA _ _ _ _ _ _ _ _ _ _ | show goB _ _ _ _ _ _ _ _ _ | show goAD _ _ _ _ _ _ _ _ _ _ _ _ _ _ | show goBD _ _ _ _ _ _ _ _ _ _ _); refine sx ?_)
    | refine VW.condT cx ?_
    | refine VW.condF cx ?_
    | refine VW.cond ex ?_ ?_
    | refine imp_nt ?_
    | refine imp_nf ?_
    | refine imp_dt (fun _ => ?_)
    | refine imp_df (fun _ => ?_)
    | (refine fun (_ : _ = true) => ?_)
    | (refine fun (_ : _ = false) => ?_)
    | refine vg_t ?_ ?_
    | refine vg_f ?_ ?_)
      refine VC.rlast h2 (by omega) (hg.mono (by omega)) hd hdl (cx) (cx) ?_
      by_cases hcx : g.a0.s < lastF dn x
      · have hT : rtestF ks dn g.a0.s g.h = 13 := by
          have : ks.any (rclash dn g.a0.s) = true := List.any_eq_true.2 ⟨x, List.mem_of_getElem? hx, by simp [rclash, hcx]⟩
          simp [rtestF, this]
        clear hx
        refine sx ?_
        repeat' (first
    | exact True.intro
    | refine VW.seq ?_
    | refine VW.block ?_
    | ((first | refine VW.skip ?_ | refine VW.exit ?_ | refine VW.reg ?_ | refine VW.regD ?_ | refine VW.ret ?_ | show goA _ _ _ _ _ _ _ _ _ _ | show goB _ _ _ _ _ _ _ _ _ | show goAD _ _ _ _ _ _ _ _ _ _ _ _ _ _ | show goBD _ _ _ _ _ _ _ _ _ _ _); refine sx ?_)
    | refine VW.condT cx ?_
    | refine VW.condF cx ?_
    | refine VW.cond ex ?_ ?_
    | refine imp_nt ?_
    | refine imp_nf ?_
    | refine imp_dt (fun _ => ?_)
    | refine imp_df (fun _ => ?_)
    | (refine fun (_ : _ = true) => ?_)
    | (refine fun (_ : _ = false) => ?_)
    | refine vg_t ?_ ?_
    | refine vg_f ?_ ?_)
        exact .keep exR cxL hk
      · have hcl' : ∀ y ∈ ks.take (i + 1), rclash dn g.a0.s y = false := fun y hy => by
          rw [List.take_add_one, hx] at hy
          rcases List.mem_append.1 hy with h | h
          · exact hcl y h
          · simp at h; subst h; simp [rclash]; omega
        clear hx
        refine sx ?_
        repeat' (first
    | exact True.intro
    | refine VW.seq ?_
    | refine VW.block ?_
    | ((first | refine VW.skip ?_ | refine VW.exit ?_ | refine VW.reg ?_ | refine VW.regD ?_ | refine VW.ret ?_ | show goA _ _ _ _ _ _ _ _ _ _ | show goB _ _ _ _ _ _ _ _ _ | show goAD _ _ _ _ _ _ _ _ _ _ _ _ _ _ | show goBD _ _ _ _ _ _ _ _ _ _ _); refine sx ?_)
    | refine VW.condT cx ?_
    | refine VW.condF cx ?_
    | refine VW.cond ex ?_ ?_
    | refine imp_nt ?_
    | refine imp_nf ?_
    | refine imp_dt (fun _ => ?_)
    | refine imp_df (fun _ => ?_)
    | (refine fun (_ : _ = true) => ?_)
    | (refine fun (_ : _ = false) => ?_)
    | refine vg_t ?_ ?_
    | refine vg_f ?_ ?_)
        exact ⟨X, T, cx, cx, cx, hm, by rw [← hks']; exact hX, hcl', by omega⟩
    · obtain rfl : i = ks.length := by omega
      have hno : ks.any (rclash dn g.a0.s) = false := by
        rw [List.any_eq_false]
        intro x hx
        have := hcl x (by rw [List.take_length]; exact hx)
        simp [this]
      clear hcl
      rcases hks with ⟨hks, h0⟩ | hks
      · have hl0 : ks.length = 0 := by rw [← hlen, h0]; rfl
        rw [hl0] at e7
        replace e7 : e 7 = some (iv 0) := e7
        by_cases hh : 1073741824 ≤ g.h
        · have hT : rtestF ks dn g.a0.s g.h = 4 := by simp [rtestF, hno, hh]
          repeat' (first
    | exact True.intro
    | refine VW.seq ?_
    | refine VW.block ?_
    | ((first | refine VW.skip ?_ | refine VW.exit ?_ | refine VW.reg ?_ | refine VW.regD ?_ | refine VW.ret ?_ | show goA _ _ _ _ _ _ _ _ _ _ | show goB _ _ _ _ _ _ _ _ _ | show goAD _ _ _ _ _ _ _ _ _ _ _ _ _ _ | show goBD _ _ _ _ _ _ _ _ _ _ _); refine sx ?_)
    | refine VW.condT cx ?_
    | refine VW.condF cx ?_
    | refine VW.cond ex ?_ ?_
    | refine imp_nt ?_
    | refine imp_nf ?_
    | refine imp_dt (fun _ => ?_)
    | refine imp_df (fun _ => ?_)
    | (refine fun (_ : _ = true) => ?_)
    | (refine fun (_ : _ = false) => ?_)
    | refine vg_t ?_ ?_
    | refine vg_f ?_ ?_)
          exact .keep exR cxL hk
        · have hT : rtestF ks dn g.a0.s g.h = 0 := by simp [rtestF, hno, hh]
          repeat' (first
    | exact True.intro
    | refine VW.seq ?_
    | refine VW.block ?_
    | ((first | refine VW.skip ?_ | refine VW.exit ?_ | refine VW.reg ?_ | refine VW.regD ?_ | refine VW.ret ?_ | show goA _ _ _ _ _ _ _ _ _ _ | show goB _ _ _ _ _ _ _ _ _ | show goAD _ _ _ _ _ _ _ _ _ _ _ _ _ _ | show goBD _ _ _ _ _ _ _ _ _ _ _); refine sx ?_)
    | refine VW.condT cx ?_
    | refine VW.condF cx ?_
    | refine VW.cond ex ?_ ?_
    | refine imp_nt ?_
    | refine imp_nf ?_
    | refine imp_dt (fun _ => ?_)
    | refine imp_df (fun _ => ?_)
    | (refine fun (_ : _ = true) => ?_)
    | (refine fun (_ : _ = false) => ?_)
    | refine vg_t ?_ ?_
    | refine vg_f ?_ ?_)
          exact .keep exR cxL hk
      · have hll : ¬ (ks.length : Int) < ks.length := by omega
        by_cases hh : 1073741824 ≤ g.h
        · have hT : rtestF ks dn g.a0.s g.h = 4 := by simp [rtestF, hno, hh]
          repeat' (first
    | exact True.intro
    | refine VW.seq ?_
    | refine VW.block ?_
    | ((first | refine VW.skip ?_ | refine VW.exit ?_ | refine VW.reg ?_ | refine VW.regD ?_ | refine VW.ret ?_ | show goA _ _ _ _ _ _ _ _ _ _ | show goB _ _ _ _ _ _ _ _ _ | show goAD _ _ _ _ _ _ _ _ _ _ _ _ _ _ | show goBD _ _ _ _ _ _ _ _ _ _ _); refine sx ?_)
    | refine VW.condT cx ?_
    | refine VW.condF cx ?_
    | refine VW.cond ex ?_ ?_
    | refine imp_nt ?_
    | refine imp_nf ?_
    | refine imp_dt (fun _ => ?_)
    | refine imp_df (fun _ => ?_)
    | (refine fun (_ : _ = true) => ?_)
    | (refine fun (_ : _ = false) => ?_)
    | refine vg_t ?_ ?_
    | refine vg_f ?_ ?_)
          exact .keep exR cxL hk
        · have hT : rtestF ks dn g.a0.s g.h = 0 := by simp [rtestF, hno, hh]
          repeat' (first
    | exact True.intro
    | refine VW.seq ?_
    | refine VW.block ?_
    | ((first | refine VW.skip ?_ | refine VW.exit ?_ | refine VW.reg ?_ | refine VW.regD ?_ | refine VW.ret ?_ | show goA _ _ _ _ _ _ _ _ _ _ | show goB _ _ _ _ _ _ _ _ _ | show goAD _ _ _ _ _ _ _ _ _ _ _ _ _ _ | show goBD _ _ _ _ _ _ _ _ _ _ _); refine sx ?_)
    | refine VW.condT cx ?_
    | refine VW.condF cx ?_
    | refine VW.cond ex ?_ ?_
    | refine imp_nt ?_
    | refine imp_nf ?_
    | refine imp_dt (fun _ => ?_)
    | refine imp_df (fun _ => ?_)
    | (refine fun (_ : _ = true) => ?_)
    | (refine fun (_ : _ = false) => ?_)
    | refine vg_t ?_ ?_
    | refine vg_f ?_ ?_)
          exact .keep exR cxL hk
  · simp only [Mg.get] at ho hks ⊢
    repeat' (first
    | exact True.intro
    | refine VW.seq ?_
    | refine VW.block ?_
    | ((first | refine VW.skip ?_ | refine VW.exit ?_ | refine VW.reg ?_ | refine VW.regD ?_ | refine VW.ret ?_ | show goA _ _ _ _ _ _ _ _ _ _ | show goB _ _ _ _ _ _ _ _ _ | show goAD _ _ _ _ _ _ _ _ _ _ _ _ _ _ | show goBD _ _ _ _ _ _ _ _ _ _ _); refine sx ?_)
    | refine VW.condT cx ?_
    | refine VW.condF cx ?_
    | refine VW.cond ex ?_ ?_
    | refine imp_nt ?_
    | refine imp_nf ?_
    | refine imp_dt (fun _ => ?_)
    | refine imp_df (fun _ => ?_)
    | (refine fun (_ : _ = true) => ?_)
    | (refine fun (_ : _ = false) => ?_)
    | refine vg_t ?_ ?_
    | refine vg_f ?_ ?_)
    refine VW.forN ks.length (JT' g g.a1.s g.a1.k M ks dn b) 0 (by omega) ⟨_, _, cy, ey, ey, cx, ex, by simp, by omega⟩ ?_
    clear hm m
    rintro i e m nx hi ⟨X, T, e0, e7, e6, hm, hX, hcl, hbn⟩
    have q1 := ne_of_obj hm hX (by simp)
    have q2 := ne_of_obj hX hm (by simp)
    have hk := rone_keep hM hm hg
    refine VW.below hm fun hlM => VW.below hX fun hlX => ?_
    obtain ⟨n1', n2', n3', n4', n5'⟩ := below_ne hlM
    obtain ⟨x1', x2', x3', x4', x5'⟩ := below_ne hlX
    by_cases hin : i < ks.length
    · have hks' : g.a1.k = .sl (strs ks) := by
        rcases hks with ⟨_, h0⟩ | h
        · rw [h0] at hlen; simp at hlen; omega
        · exact h
      have hin' : (i : Int) < ks.length := by omega
      obtain ⟨x, hx⟩ := get_of hin
      have hx' : (strs ks)[i]? = some [.str x] := by rw [strs_get', hx]; rfl
      have h00 : (0 : Int) ≤ i := by omega
      have htn : (i : Int).toNat = i := Int.toNat_natCast i
      have hw := i64_nat (n := i) (by omega)
      repeat' (first
    | exact True.intro
    | refine VW.seq ?_
    | refine VW.block ?_
    | ((first | refine VW.skip ?_ | refine VW.exit ?_ | refine VW.reg ?_ | refine VW.regD ?_ | refine VW.ret ?_ | show goA _ _ _ _ _ _ _ _ _ _ | show goB _ _ _ _ _ _ _ _ _ | show goAD _ _ _ _ _ _ _ _ _ _ _ _ _ _ | show goBD _ _ _ _ _ _ _ _ _ _ _); refine sx ?_)
    | refine VW.condT cx ?_
    | refine VW.condF cx ?_
    | refine VW.cond ex ?_ ?_
    | refine imp_nt ?_
    | refine imp_nf ?_
    | refine imp_dt (fun _ => ?_)
    | refine imp_df (fun _ => ?_)
    | (refine fun (_ : _ = true) => ?_)
    | (refine fun (_ : _ = false) => ?_)
    | refine vg_t ?_ ?_
    | refine vg_f ?_ ?_)
      refine VC.rlast h2 (by omega) (hg.mono (by omega)) hd hdl (cx) (cx) ?_
      by_cases hcx : g.a1.s < lastF dn x
      · have hT : rtestF ks dn g.a1.s g.h = 13 := by
          have : ks.any (rclash dn g.a1.s) = true := List.any_eq_true.2 ⟨x, List.mem_of_getElem? hx, by simp [rclash, hcx]⟩
          simp [rtestF, this]
        clear hx
        refine sx ?_
        repeat' (first
    | exact True.intro
    | refine VW.seq ?_
    | refine VW.block ?_
    | ((first | refine VW.skip ?_ | refine VW.exit ?_ | refine VW.reg ?_ | refine VW.regD ?_ | refine VW.ret ?_ | show goA _ _ _ _ _ _ _ _ _ _ | show goB _ _ _ _ _ _ _ _ _ | show goAD _ _ _ _ _ _ _ _ _ _ _ _ _ _ | show goBD _ _ _ _ _ _ _ _ _ _ _); refine sx ?_)
    | refine VW.condT cx ?_
    | refine VW.condF cx ?_
    | refine VW.cond ex ?_ ?_
    | refine imp_nt ?_
    | refine imp_nf ?_
    | refine imp_dt (fun _ => ?_)
    | refine imp_df (fun _ => ?_)
    | (refine fun (_ : _ = true) => ?_)
    | (refine fun (_ : _ = false) => ?_)
    | refine vg_t ?_ ?_
    | refine vg_f ?_ ?_)
        exact .keep exR cxL hk
      · have hcl' : ∀ y ∈ ks.take (i + 1), rclash dn g.a1.s y = false := fun y hy => by
          rw [List.take_add_one, hx] at hy
          rcases List.mem_append.1 hy with h | h
          · exact hcl y h
          · simp at h; subst h; simp [rclash]; omega
        clear hx
        refine sx ?_
        repeat' (first
    | exact True.intro
    | refine VW.seq ?_
    | refine VW.block ?_
    | ((first | refine VW.skip ?_ | refine VW.exit ?_ | refine VW.reg ?_ | refine VW.regD ?_ | refine VW.ret ?_ | show goA _ _ _ _ _ _ _ _ _ _ | show goB _ _ _ _ _ _ _ _ _ | show goAD _ _ _ _ _ _ _ _ _ _ _ _ _ _ | show goBD _ _ _ _ _ _ _ _ _ _ _); refine sx ?_)
    | refine VW.condT cx ?_
    | refine VW.condF cx ?_
    | refine VW.cond ex ?_ ?_
    | refine imp_nt ?_
    | refine imp_nf ?_
    | refine imp_dt (fun _ => ?_)
    | refine imp_df (fun _ => ?_)
    | (refine fun (_ : _ = true) => ?_)
    | (refine fun (_ : _ = false) => ?_)
    | refine vg_t ?_ ?_
    | refine vg_f ?_ ?_)
        exact ⟨X, T, cx, cx, cx, hm, by rw [← hks']; exact hX, hcl', by omega⟩
    · obtain rfl : i = ks.length := by omega
      have hno : ks.any (rclash dn g.a1.s) = false := by
        rw [List.any_eq_false]
        intro x hx
        have := hcl x (by rw [List.take_length]; exact hx)
        simp [this]
      clear hcl
      rcases hks with ⟨hks, h0⟩ | hks
      · have hl0 : ks.length = 0 := by rw [← hlen, h0]; rfl
        rw [hl0] at e7
        replace e7 : e 7 = some (iv 0) := e7
        by_cases hh : 1073741824 ≤ g.h
        · have hT : rtestF ks dn g.a1.s g.h = 4 := by simp [rtestF, hno, hh]
          repeat' (first
    | exact True.intro
    | refine VW.seq ?_
    | refine VW.block ?_
    | ((first | refine VW.skip ?_ | refine VW.exit ?_ | refine VW.reg ?_ | refine VW.regD ?_ | refine VW.ret ?_ | show goA _ _ _ _ _ _ _ _ _ _ | show goB _ _ _ _ _ _ _ _ _ | show goAD _ _ _ _ _ _ _ _ _ _ _ _ _ _ | show goBD _ _ _ _ _ _ _ _ _ _ _); refine sx ?_)
    | refine VW.condT cx ?_
    | refine VW.condF cx ?_
    | refine VW.cond ex ?_ ?_
    | refine imp_nt ?_
    | refine imp_nf ?_
    | refine imp_dt (fun _ => ?_)
    | refine imp_df (fun _ => ?_)
    | (refine fun (_ : _ = true) => ?_)
    | (refine fun (_ : _ = false) => ?_)
    | refine vg_t ?_ ?_
    | refine vg_f ?_ ?_)
          exact .keep exR cxL hk
        · have hT : rtestF ks dn g.a1.s g.h = 0 := by simp [rtestF, hno, hh]
          repeat' (first
    | exact True.intro
    | refine VW.seq ?_
    | refine VW.block ?_
    | ((first | refine VW.skip ?_ | refine VW.exit ?_ | refine VW.reg ?_ | refine VW.regD ?_ | refine VW.ret ?_ | show goA _ _ _ _ _ _ _ _ _ _ | show goB _ _ _ _ _ _ _ _ _ | show goAD _ _ _ _ _ _ _ _ _ _ _ _ _ _ | show goBD _ _ _ _ _ _ _ _ _ _ _); refine sx ?_)
    | refine VW.condT cx ?_
    | refine VW.condF cx ?_
    | refine VW.cond ex ?_ ?_
    | refine imp_nt ?_
    | refine imp_nf ?_
    | refine imp_dt (fun _ => ?_)
    | refine imp_df (fun _ => ?_)
    | (refine fun (_ : _ = true) => ?_)
    | (refine fun (_ : _ = false) => ?_)
    | refine vg_t ?_ ?_
    | refine vg_f ?_ ?_)
          exact .keep exR cxL hk
      · have hll : ¬ (ks.length : Int) < ks.length := by omega
        by_cases hh : 1073741824 ≤ g.h
        · have hT : rtestF ks dn g.a1.s g.h = 4 := by simp [rtestF, hno, hh]
          repeat' (first
    | exact True.intro
    | refine VW.seq ?_
    | refine VW.block ?_
    | ((first | refine VW.skip ?_ | refine VW.exit ?_ | refine VW.reg ?_ | refine VW.regD ?_ | refine VW.ret ?_ | show goA _ _ _ _ _ _ _ _ _ _ | show goB _ _ _ _ _ _ _ _ _ | show goAD _ _ _ _ _ _ _ _ _ _ _ _ _ _ | show goBD _ _ _ _ _ _ _ _ _ _ _); refine sx ?_)
    | refine VW.condT cx ?_
    | refine VW.condF cx ?_
    | refine VW.cond ex ?_ ?_
    | refine imp_nt ?_
    | refine imp_nf ?_
    | refine imp_dt (fun _ => ?_)
    | refine imp_df (fun _ => ?_)
    | (refine fun (_ : _ = true) => ?_)
    | (refine fun (_ : _ = false) => ?_)
    | refine vg_t ?_ ?_
    | refine vg_f ?_ ?_)
          exact .keep exR cxL hk
        · have hT : rtestF ks dn g.a1.s g.h = 0 := by simp [rtestF, hno, hh]
          repeat' (first
    | exact True.intro
    | refine VW.seq ?_
    | refine VW.block ?_
    | ((first | refine VW.skip ?_ | refine VW.exit ?_ | refine VW.reg ?_ | refine VW.regD ?_ | refine VW.ret ?_ | show goA _ _ _ _ _ _ _ _ _ _ | show goB _ _ _ _ _ _ _ _ _ | show goAD _ _ _ _ _ _ _ _ _ _ _ _ _ _ | show goBD _ _ _ _ _ _ _ _ _ _ _); refine sx ?_)
    | refine VW.condT cx ?_
    | refine VW.condF cx ?_
    | refine VW.cond ex ?_ ?_
    | refine imp_nt ?_
    | refine imp_nf ?_
    | refine imp_dt (fun _ => ?_)
    | refine imp_df (fun _ => ?_)
    | (refine fun (_ : _ = true) => ?_)
    | (refine fun (_ : _ = false) => ?_)
    | refine vg_t ?_ ?_
    | refine vg_f ?_ ?_)
          exact .keep exR cxL hk
  · simp only [Mg.get] at ho hks ⊢
    repeat' (first
    | exact True.intro
    | refine VW.seq ?_
    | refine VW.block ?_
    | ((first | refine VW.skip ?_ | refine VW.exit ?_ | refine VW.reg ?_ | refine VW.regD ?_ | refine VW.ret ?_ | show goA _ _ _ _ _ _ _ _ _ _ | show goB _ _ _ _ _ _ _ _ _ | show goAD _ _ _ _ _ _ _ _ _ _ _ _ _ _ | show goBD _ _ _ _ _ _ _ _ _ _ _); refine sx ?_)
    | refine VW.condT cx ?_
    | refine VW.condF cx ?_
    | refine VW.cond ex ?_ ?_
    | refine imp_nt ?_
    | refine imp_nf ?_
    | refine imp_dt (fun _ => ?_)
    | refine imp_df (fun _ => ?_)
    | (refine fun (_ : _ = true) => ?_)
    | (refine fun (_ : _ = false) => ?_)
    | refine vg_t ?_ ?_
    | refine vg_f ?_ ?_)
    refine VW.forN ks.length (JT' g g.a2.s g.a2.k M ks dn b) 0 (by omega) ⟨_, _, cy, ey, ey, cx, ex, by simp, by omega⟩ ?_
    clear hm m
    rintro i e m nx hi ⟨X, T, e0, e7, e6, hm, hX, hcl, hbn⟩
    have q1 := ne_of_obj hm hX (by simp)
    have q2 := ne_of_obj hX hm (by simp)
    have hk := rone_keep hM hm hg
    refine VW.below hm fun hlM => VW.below hX fun hlX => ?_
    obtain ⟨n1', n2', n3', n4', n5'⟩ := below_ne hlM
    obtain ⟨x1', x2', x3', x4', x5'⟩ := below_ne hlX
    by_cases hin : i < ks.length
    · have hks' : g.a2.k = .sl (strs ks) := by
        rcases hks with ⟨_, h0⟩ | h
        · rw [h0] at hlen; simp at hlen; omega
        · exact h
      have hin' : (i : Int) < ks.length := by omega
      obtain ⟨x, hx⟩ := get_of hin
      have hx' : (strs ks)[i]? = some [.str x] := by rw [strs_get', hx]; rfl
      have h00 : (0 : Int) ≤ i := by omega
      have htn : (i : Int).toNat = i := Int.toNat_natCast i
      have hw := i64_nat (n := i) (by omega)
      repeat' (first
    | exact True.intro
    | refine VW.seq ?_
    | refine VW.block ?_
    | ((first | refine VW.skip ?_ | refine VW.exit ?_ | refine VW.reg ?_ | refine VW.regD ?_ | refine VW.ret ?_ | show goA _ _ _ _ _ _ _ _ _ _ | show goB _ _ _ _ _ _ _ _ _ | show goAD _ _ _ _ _ _ _ _ _ _ _ _ _ _ | show goBD _ _ _ _ _ _ _ _ _ _ _); refine sx ?_)
    | refine VW.condT cx ?_
    | refine VW.condF cx ?_
    | refine VW.cond ex ?_ ?_
    | refine imp_nt ?_
    | refine imp_nf ?_
    | refine imp_dt (fun _ => ?_)
    | refine imp_df (fun _ => ?_)
    | (refine fun (_ : _ = true) => ?_)
    | (refine fun (_ : _ = false) => ?_)
    | refine vg_t ?_ ?_
    | refine vg_f ?_ ?_)
      refine VC.rlast h2 (by omega) (hg.mono (by omega)) hd hdl (cx) (cx) ?_
      by_cases hcx : g.a2.s < lastF dn x
      · have hT : rtestF ks dn g.a2.s g.h = 13 := by
          have : ks.any (rclash dn g.a2.s) = true := List.any_eq_true.2 ⟨x, List.mem_of_getElem? hx, by simp [rclash, hcx]⟩
          simp [rtestF, this]
        clear hx
        refine sx ?_
        repeat' (first
    | exact True.intro
    | refine VW.seq ?_
    | refine VW.block ?_
    | ((first | refine VW.skip ?_ | refine VW.exit ?_ | refine VW.reg ?_ | refine VW.regD ?_ | refine VW.ret ?_ | show goA _ _ _ _ _ _ _ _ _ _ | show goB _ _ _ _ _ _ _ _ _ | show goAD _ _ _ _ _ _ _ _ _ _ _ _ _ _ | show goBD _ _ _ _ _ _ _ _ _ _ _); refine sx ?_)
    | refine VW.condT cx ?_
    | refine VW.condF cx ?_
    | refine VW.cond ex ?_ ?_
    | refine imp_nt ?_
    | refine imp_nf ?_
    | refine imp_dt (fun _ => ?_)
    | refine imp_df (fun _ => ?_)
    | (refine fun (_ : _ = true) => ?_)
    | (refine fun (_ : _ = false) => ?_)
    | refine vg_t ?_ ?_
    | refine vg_f ?_ ?_)
        exact .keep exR cxL hk
      · have hcl' : ∀ y ∈ ks.take (i + 1), rclash dn g.a2.s y = false := fun y hy => by
          rw [List.take_add_one, hx] at hy
          rcases List.mem_append.1 hy with h | h
          · exact hcl y h
          · simp at h; subst h; simp [rclash]; omega
        clear hx
        refine sx ?_
        repeat' (first
    | exact True.intro
    | refine VW.seq ?_
    | refine VW.block ?_
    | ((first | refine VW.skip ?_ | refine VW.exit ?_ | refine VW.reg ?_ | refine VW.regD ?_ | refine VW.ret ?_ | show goA _ _ _ _ _ _ _ _ _ _ | show goB _ _ _ _ _ _ _ _ _ | show goAD _ _ _ _ _ _ _ _ _ _ _ _ _ _ | show goBD _ _ _ _ _ _ _ _ _ _ _); refine sx ?_)
    | refine VW.condT cx ?_
    | refine VW.condF cx ?_
    | refine VW.cond ex ?_ ?_
    | refine imp_nt ?_
    | refine imp_nf ?_
    | refine imp_dt (fun _ => ?_)
    | refine imp_df (fun _ => ?_)
    | (refine fun (_ : _ = true) => ?_)
    | (refine fun (_ : _ = false) => ?_)
    | refine vg_t ?_ ?_
    | refine vg_f ?_ ?_)
        exact ⟨X, T, cx, cx, cx, hm, by rw [← hks']; exact hX, hcl', by omega⟩
    · obtain rfl : i = ks.length := by omega
      have hno : ks.any (rclash dn g.a2.s) = false := by
        rw [List.any_eq_false]
        intro x hx
        have := hcl x (by rw [List.take_length]; exact hx)
        simp [this]
      clear hcl
      rcases hks with ⟨hks, h0⟩ | hks
      · have hl0 : ks.length = 0 := by rw [← hlen, h0]; rfl
        rw [hl0] at e7
        replace e7 : e 7 = some (iv 0) := e7
        by_cases hh : 1073741824 ≤ g.h
        · have hT : rtestF ks dn g.a2.s g.h = 4 := by simp [rtestF, hno, hh]
          repeat' (first
    | exact True.intro
    | refine VW.seq ?_
    | refine VW.block ?_
    | ((first | refine VW.skip ?_ | refine VW.exit ?_ | refine VW.reg ?_ | refine VW.regD ?_ | refine VW.ret ?_ | show goA _ _ _ _ _ _ _ _ _ _ | show goB _ _ _ _ _ _ _ _ _ | show goAD _ _ _ _ _ _ _ _ _ _ _ _ _ _ | show goBD _ _ _ _ _ _ _ _ _ _ _); refine sx ?_)
    | refine VW.condT cx ?_
    | refine VW.condF cx ?_
    | refine VW.cond ex ?_ ?_
    | refine imp_nt ?_
    | refine imp_nf ?_
    | refine imp_dt (fun _ => ?_)
    | refine imp_df (fun _ => ?_)
    | (refine fun (_ : _ = true) => ?_)
    | (refine fun (_ : _ = false) => ?_)
    | refine vg_t ?_ ?_
    | refine vg_f ?_ ?_)
          exact .keep exR cxL hk
        · have hT : rtestF ks dn g.a2.s g.h = 0 := by simp [rtestF, hno, hh]
          repeat' (first
    | exact True.intro
    | refine VW.seq ?_
    | refine VW.block ?_
    | ((first | refine VW.skip ?_ | refine VW.exit ?_ | refine VW.reg ?_ | refine VW.regD ?_ | refine VW.ret ?_ | show goA _ _ _ _ _ _ _ _ _ _ | show goB _ _ _ _ _ _ _ _ _ | show goAD _ _ _ _ _ _ _ _ _ _ _ _ _ _ | show goBD _ _ _ _ _ _ _ _ _ _ _); refine sx ?_)
    | refine VW.condT cx ?_
    | refine VW.condF cx ?_
    | refine VW.cond ex ?_ ?_
    | refine imp_nt ?_
    | refine imp_nf ?_
    | refine imp_dt (fun _ => ?_)
    | refine imp_df (fun _ => ?_)
    | (refine fun (_ : _ = true) => ?_)
    | (refine fun (_ : _ = false) => ?_)
    | refine vg_t ?_ ?_
    | refine vg_f ?_ ?_)
          exact .keep exR cxL hk
      · have hll : ¬ (ks.length : Int) < ks.length := by omega
        by_cases hh : 1073741824 ≤ g.h
        · have hT : rtestF ks dn g.a2.s g.h = 4 := by simp [rtestF, hno, hh]
          repeat' (first
    | exact True.intro
    | refine VW.seq ?_
    | refine VW.block ?_
    | ((first | refine VW.skip ?_ | refine VW.exit ?_ | refine VW.reg ?_ | refine VW.regD ?_ | refine VW.ret ?_ | show goA _ _ _ _ _ _ _ _ _ _ | show goB _ _ _ _ _ _ _ _ _ | show goAD _ _ _ _ _ _ _ _ _ _ _ _ _ _ | show goBD _ _ _ _ _ _ _ _ _ _ _); refine sx ?_)
    | refine VW.condT cx ?_
    | refine VW.condF cx ?_
    | refine VW.cond ex ?_ ?_
    | refine imp_nt ?_
    | refine imp_nf ?_
    | refine imp_dt (fun _ => ?_)
    | refine imp_df (fun _ => ?_)
    | (refine fun (_ : _ = true) => ?_)
    | (refine fun (_ : _ = false) => ?_)
    | refine vg_t ?_ ?_
    | refine vg_f ?_ ?_)
          exact .keep exR cxL hk
        · have hT : rtestF ks dn g.a2.s g.h = 0 := by simp [rtestF, hno, hh]
          repeat' (first
    | exact True.intro
    | refine VW.seq ?_
    | refine VW.block ?_
    | ((first | refine VW.skip ?_ | refine VW.exit ?_ | refine VW.reg ?_ | refine VW.regD ?_ | refine VW.ret ?_ | show goA _ _ _ _ _ _ _ _ _ _ | show goB _ _ _ _ _ _ _ _ _ | show goAD _ _ _ _ _ _ _ _ _ _ _ _ _ _ | show goBD _ _ _ _ _ _ _ _ _ _ _); refine sx ?_)
    | refine VW.condT cx ?_
    | refine VW.condF cx ?_
    | refine VW.cond ex ?_ ?_
    | refine imp_nt ?_
    | refine imp_nf ?_
    | refine imp_dt (fun _ => ?_)
    | refine imp_df (fun _ => ?_)
    | (refine fun (_ : _ = true) => ?_)
    | (refine fun (_ : _ = false) => ?_)
    | refine vg_t ?_ ?_
    | refine vg_f ?_ ?_)
          exact .keep exR cxL hk
  · simp only [Mg.get] at ho hks ⊢
    repeat' (first
    | exact True.intro
    | refine VW.seq ?_
    | refine VW.block ?_
    | ((first | refine VW.skip ?_ | refine VW.exit ?_ | refine VW.reg ?_ | refine VW.regD ?_ | refine VW.ret ?_ | show goA _ _ _ _ _ _ _ _ _ _ | show goB _ _ _ _ _ _ _ _ _ | show goAD _ _ _ _ _ _ _ _ _ _ _ _ _ _ | show goBD _ _ _ _ _ _ _ _ _ _ _); refine sx ?_)
    | refine VW.condT cx ?_
    | refine VW.condF cx ?_
    | refine VW.cond ex ?_ ?_
    | refine imp_nt ?_
    | refine imp_nf ?_
    | refine imp_dt (fun _ => ?_)
    | refine imp_df (fun _ => ?_)
    | (refine fun (_ : _ = true) => ?_)
    | (refine fun (_ : _ = false) => ?_)
    | refine vg_t ?_ ?_
    | refine vg_f ?_ ?_)
    refine VW.forN ks.length (JT' g g.a3.s g.a3.k M ks dn b) 0 (by omega) ⟨_, _, cy, ey, ey, cx, ex, by simp, by omega⟩ ?_
    clear hm m
    rintro i e m nx hi ⟨X, T, e0, e7, e6, hm, hX, hcl, hbn⟩
    have q1 := ne_of_obj hm hX (by simp)
    have q2 := ne_of_obj hX hm (by simp)
    have hk := rone_keep hM hm hg
    refine VW.below hm fun hlM => VW.below hX fun hlX => ?_
    obtain ⟨n1', n2', n3', n4', n5'⟩ := below_ne hlM
    obtain ⟨x1', x2', x3', x4', x5'⟩ := below_ne hlX
    by_cases hin : i < ks.length
    · have hks' : g.a3.k = .sl (strs ks) := by
        rcases hks with ⟨_, h0⟩ | h
        · rw [h0] at hlen; simp at hlen; omega
        · exact h
      have hin' : (i : Int) < ks.length := by omega
      obtain ⟨x, hx⟩ := get_of hin
      have hx' : (strs ks)[i]? = some [.str x] := by rw [strs_get', hx]; rfl
      have h00 : (0 : Int) ≤ i := by omega
      have htn : (i : Int).toNat = i := Int.toNat_natCast i
      have hw := i64_nat (n := i) (by omega)
      repeat' (first
    | exact True.intro
    | refine VW.seq ?_
    | refine VW.block ?_
    | ((first | refine VW.skip ?_ | refine VW.exit ?_ | refine VW.reg ?_ | refine VW.regD ?_ | refine VW.ret ?_ | show goA _ _ _ _ _ _ _ _ _ _ | show goB _ _ _ _ _ _ _ _ _ | show goAD _ _ _ _ _ _ _ _ _ _ _ _ _ _ | show goBD _ _ _ _ _ _ _ _ _ _ _); refine sx ?_)
    | refine VW.condT cx ?_
    | refine VW.condF cx ?_
    | refine VW.cond ex ?_ ?_
    | refine imp_nt ?_
    | refine imp_nf ?_
    | refine imp_dt (fun _ => ?_)
    | refine imp_df (fun _ => ?_)
    | (refine fun (_ : _ = true) => ?_)
    | (refine fun (_ : _ = false) => ?_)
    | refine vg_t ?_ ?_
    | refine vg_f ?_ ?_)
      refine VC.rlast h2 (by omega) (hg.mono (by omega)) hd hdl (cx) (cx) ?_
      by_cases hcx : g.a3.s < lastF dn x
      · have hT : rtestF ks dn g.a3.s g.h = 13 := by
          have : ks.any (rclash dn g.a3.s) = true := List.any_eq_true.2 ⟨x, List.mem_of_getElem? hx, by simp [rclash, hcx]⟩
          simp [rtestF, this]
        clear hx
        refine sx ?_
        repeat' (first
    | exact True.intro
    | refine VW.seq ?_
    | refine VW.block ?_
    | ((first | refine VW.skip ?_ | refine VW.exit ?_ | refine VW.reg ?_ | refine VW.regD ?_ | refine VW.ret ?_ | show goA _ _ _ _ _ _ _ _ _ _ | show goB _ _ _ _ _ _ _ _ _ | show goAD _ _ _ _ _ _ _ _ _ _ _ _ _ _ | show goBD _ _ _ _ _ _ _ _ _ _ _); refine sx ?_)
    | refine VW.condT cx ?_
    | refine VW.condF cx ?_
    | refine VW.cond ex ?_ ?_
    | refine imp_nt ?_
    | refine imp_nf ?_
    | refine imp_dt (fun _ => ?_)
    | refine imp_df (fun _ => ?_)
    | (refine fun (_ : _ = true) => ?_)
    | (refine fun (_ : _ = false) => ?_)
    | refine vg_t ?_ ?_
    | refine vg_f ?_ ?_)
        exact .keep exR cxL hk
      · have hcl' : ∀ y ∈ ks.take (i + 1), rclash dn g.a3.s y = false := fun y hy => by
          rw [List.take_add_one, hx] at hy
          rcases List.mem_append.1 hy with h | h
          · exact hcl y h
          · simp at h; subst h; simp [rclash]; omega
        clear hx
        refine sx ?_
        repeat' (first
    | exact True.intro
    | refine VW.seq ?_
    | refine VW.block ?_
    | ((first | refine VW.skip ?_ | refine VW.exit ?_ | refine VW.reg ?_ | refine VW.regD ?_ | refine VW.ret ?_ | show goA _ _ _ _ _ _ _ _ _ _ | show goB _ _ _ _ _ _ _ _ _ | show goAD _ _ _ _ _ _ _ _ _ _ _ _ _ _ | show goBD _ _ _ _ _ _ _ _ _ _ _); refine sx ?_)
    | refine VW.condT cx ?_
    | refine VW.condF cx ?_
    | refine VW.cond ex ?_ ?_
    | refine imp_nt ?_
    | refine imp_nf ?_
    | refine imp_dt (fun _ => ?_)
    | refine imp_df (fun _ => ?_)
    | (refine fun (_ : _ = true) => ?_)
    | (refine fun (_ : _ = false) => ?_)
    | refine vg_t ?_ ?_
    | refine vg_f ?_ ?_)
        exact ⟨X, T, cx, cx, cx, hm, by rw [← hks']; exact hX, hcl', by omega⟩
    · obtain rfl : i = ks.length := by omega
      have hno : ks.any (rclash dn g.a3.s) = false := by
        rw [List.any_eq_false]
        intro x hx
        have := hcl x (by rw [List.take_length]; exact hx)
        simp [this]
      clear hcl
      rcases hks with ⟨hks, h0⟩ | hks
      · have hl0 : ks.length = 0 := by rw [← hlen, h0]; rfl
        rw [hl0] at e7
        replace e7 : e 7 = some (iv 0) := e7
        by_cases hh : 1073741824 ≤ g.h
        · have hT : rtestF ks dn g.a3.s g.h = 4 := by simp [rtestF, hno, hh]
          repeat' (first
    | exact True.intro
    | refine VW.seq ?_
    | refine VW.block ?_
    | ((first | refine VW.skip ?_ | refine VW.exit ?_ | refine VW.reg ?_ | refine VW.regD ?_ | refine VW.ret ?_ | show goA _ _ _ _ _ _ _ _ _ _ | show goB _ _ _ _ _ _ _ _ _ | show goAD _ _ _ _ _ _ _ _ _ _ _ _ _ _ | show goBD _ _ _ _ _ _ _ _ _ _ _); refine sx ?_)
    | refine VW.condT cx ?_
    | refine VW.condF cx ?_
    | refine VW.cond ex ?_ ?_
    | refine imp_nt ?_
    | refine imp_nf ?_
    | refine imp_dt (fun _ => ?_)
    | refine imp_df (fun _ => ?_)
    | (refine fun (_ : _ = true) => ?_)
    | (refine fun (_ : _ = false) => ?_)
    | refine vg_t ?_ ?_
    | refine vg_f ?_ ?_)
          exact .keep exR cxL hk
        · have hT : rtestF ks dn g.a3.s g.h = 0 := by simp [rtestF, hno, hh]
          repeat' (first
    | exact True.intro
    | refine VW.seq ?_
    | refine VW.block ?_
    | ((first | refine VW.skip ?_ | refine VW.exit ?_ | refine VW.reg ?_ | refine VW.regD ?_ | refine VW.ret ?_ | show goA _ _ _ _ _ _ _ _ _ _ | show goB _ _ _ _ _ _ _ _ _ | show goAD _ _ _ _ _ _ _ _ _ _ _ _ _ _ | show goBD _ _ _ _ _ _ _ _ _ _ _); refine sx ?_)
    | refine VW.condT cx ?_
    | refine VW.condF cx ?_
    | refine VW.cond ex ?_ ?_
    | refine imp_nt ?_
    | refine imp_nf ?_
    | refine imp_dt (fun _ => ?_)
    | refine imp_df (fun _ => ?_)
    | (refine fun (_ : _ = true) => ?_)
    | (refine fun (_ : _ = false) => ?_)
    | refine vg_t ?_ ?_
    | refine vg_f ?_ ?_)
          exact .keep exR cxL hk
      · have hll : ¬ (ks.length : Int) < ks.length := by omega
        by_cases hh : 1073741824 ≤ g.h
        · have hT : rtestF ks dn g.a3.s g.h = 4 := by simp [rtestF, hno, hh]
          repeat' (first
    | exact True.intro
    | refine VW.seq ?_
    | refine VW.block ?_
    | ((first | refine VW.skip ?_ | refine VW.exit ?_ | refine VW.reg ?_ | refine VW.regD ?_ | refine VW.ret ?_ | show goA _ _ _ _ _ _ _ _ _ _ | show goB _ _ _ _ _ _ _ _ _ | show goAD _ _ _ _ _ _ _ _ _ _ _ _ _ _ | show goBD _ _ _ _ _ _ _ _ _ _ _); refine sx ?_)
    | refine VW.condT cx ?_
    | refine VW.condF cx ?_
    | refine VW.cond ex ?_ ?_
    | refine imp_nt ?_
    | refine imp_nf ?_
    | refine imp_dt (fun _ => ?_)
    | refine imp_df (fun _ => ?_)
    | (refine fun (_ : _ = true) => ?_)
    | (refine fun (_ : _ = false) => ?_)
    | refine vg_t ?_ ?_
    | refine vg_f ?_ ?_)
          exact .keep exR cxL hk
        · have hT : rtestF ks dn g.a3.s g.h = 0 := by simp [rtestF, hno, hh]
          repeat' (first
    | exact True.intro
    | refine VW.seq ?_
    | refine VW.block ?_
    | ((first | refine VW.skip ?_ | refine VW.exit ?_ | refine VW.reg ?_ | refine VW.regD ?_ | refine VW.ret ?_ | show goA _ _ _ _ _ _ _ _ _ _ | show goB _ _ _ _ _ _ _ _ _ | show goAD _ _ _ _ _ _ _ _ _ _ _ _ _ _ | show goBD _ _ _ _ _ _ _ _ _ _ _); refine sx ?_)
    | refine VW.condT cx ?_
    | refine VW.condF cx ?_
    | refine VW.cond ex ?_ ?_
    | refine imp_nt ?_
    | refine imp_nf ?_
    | refine imp_dt (fun _ => ?_)
    | refine imp_df (fun _ => ?_)
    | (refine fun (_ : _ = true) => ?_)
    | (refine fun (_ : _ = false) => ?_)
    | refine vg_t ?_ ?_
    | refine vg_f ?_ ?_)
          exact .keep exR cxL hk
  
end
end Go.Vx
