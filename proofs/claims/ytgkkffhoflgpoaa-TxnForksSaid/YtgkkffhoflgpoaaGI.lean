/- Walks of the reference's manager: what has no loop. -/
import Derived.Test.YtgkkffhoflgpoaaGH
set_option linter.unusedSimpArgs false
set_option linter.unusedVariables false
set_option maxRecDepth 4000
set_option maxHeartbeats 2000000
namespace Go.Vx
open Go Go.Proofs

/-- The reference's manager: the same cells, of another type; keys are a slice. -/
abbrev Mg.rbox (g : Mg) : Obj := .box [iv g.c, iv g.h, .bool g.a0.o, iv g.a0.s, g.a0.k, .bool g.a1.o, iv g.a1.s, g.a1.k, .bool g.a2.o, iv g.a2.s, g.a2.k, .bool g.a3.o, iv g.a3.s, g.a3.k, g.w] 74
theorem Mg.rblt {g : Mg} {b k : Nat} (h : g.ok b) : g.rbox.lt (b + k) = true := by
  obtain ⟨h0, h1, h2, h3, h4⟩ := h
  simp only [olt_box, Plt_int, Plt_bool, List.all_cons, List.all_nil, (lt1s_mono h0).1, (lt1s_mono h1).1, (lt1s_mono h2).1, (lt1s_mono h3).1, (lt1s_mono h4).1, Bool.and_self]
theorem rone_keep {g : Mg} {M b : Nat} {m : Mem} (hM : M < b) (hm : m M = some g.rbox) (hg : g.ok b) : ∀ x ∈ [(M, g.rbox)], m x.1 = some x.2 ∧ x.1 < b ∧ x.2.lt (b + 8) = true ∧ x.2.fix b = true := by
  simp only [List.mem_cons, List.not_mem_nil, or_false, forall_eq]
  exact ⟨hm, hM, Mg.rblt hg, rfl⟩
def isF (z : Int) : Bool := decide (0 ≤ z ∧ z < 4)

section
variable {P : Program}
theorem w_is (z : Int) (b : Nat) : VW P c52 (PRet (Ends [.tmp 2] b (.bool (isF z)) mt)) (fun t => [iv z][t]?) mt b := by
  unfold c52
  by_cases h0 : 0 ≤ z
  · by_cases h4 : z < 4
    · have h : isF z = true := by simp [isF, h0, h4]
      have h0' : ¬ z < 0 := by omega
      repeat' (first
    | exact True.intro
    | refine VW.seq ?_
    | refine VW.block ?_
    | ((first | refine VW.skip ?_ | refine VW.exit ?_ | refine VW.reg ?_ | refine VW.regD ?_ | refine VW.ret ?_ | show goA _ _ _ _ _ _ _ _ _ _ | show goB _ _ _ _ _ _ _ _ _ | show goAD _ _ _ _ _ _ _ _ _ _ _ _ _ _ | show goBD _ _ _ _ _ _ _ _ _ _ _); refine sx ?_)
    | refine VW.condT cx ?_
    | refine VW.condF cx ?_
    | refine VW.cond ex ?_ ?_
    | refine imp_nt ?_
    | refine imp_nf ?_
    | refine imp_dt (fun _ => ?_)
    | refine imp_df (fun _ => ?_)
    | (refine fun (_ : _ = true) => ?_)
    | (refine fun (_ : _ = false) => ?_)
    | refine vg_t ?_ ?_
    | refine vg_f ?_ ?_)
      exact .v exR exR
    · have h : isF z = false := by simp [isF, h4]
      have h0' : ¬ z < 0 := by omega
      repeat' (first
    | exact True.intro
    | refine VW.seq ?_
    | refine VW.block ?_
    | ((first | refine VW.skip ?_ | refine VW.exit ?_ | refine VW.reg ?_ | refine VW.regD ?_ | refine VW.ret ?_ | show goA _ _ _ _ _ _ _ _ _ _ | show goB _ _ _ _ _ _ _ _ _ | show goAD _ _ _ _ _ _ _ _ _ _ _ _ _ _ | show goBD _ _ _ _ _ _ _ _ _ _ _); refine sx ?_)
    | refine VW.condT cx ?_
    | refine VW.condF cx ?_
    | refine VW.cond ex ?_ ?_
    | refine imp_nt ?_
    | refine imp_nf ?_
    | refine imp_dt (fun _ => ?_)
    | refine imp_df (fun _ => ?_)
    | (refine fun (_ : _ = true) => ?_)
    | (refine fun (_ : _ = false) => ?_)
    | refine vg_t ?_ ?_
    | refine vg_f ?_ ?_)
      exact .v exR exR
  · have h : isF z = false := by simp [isF, h0]
    have h0' : z < 0 := by omega
    repeat' (first
    | exact True.intro
    | refine VW.seq ?_
    | refine VW.block ?_
    | ((first | refine VW.skip ?_ | refine VW.exit ?_ | refine VW.reg ?_ | refine VW.regD ?_ | refine VW.ret ?_ | show goA _ _ _ _ _ _ _ _ _ _ | show goB _ _ _ _ _ _ _ _ _ | show goAD _ _ _ _ _ _ _ _ _ _ _ _ _ _ | show goBD _ _ _ _ _ _ _ _ _ _ _); refine sx ?_)
    | refine VW.condT cx ?_
    | refine VW.condF cx ?_
    | refine VW.cond ex ?_ ?_
    | refine imp_nt ?_
    | refine imp_nf ?_
    | refine imp_dt (fun _ => ?_)
    | refine imp_df (fun _ => ?_)
    | (refine fun (_ : _ = true) => ?_)
    | (refine fun (_ : _ = false) => ?_)
    | refine vg_t ?_ ?_
    | refine vg_f ?_ ?_)
    exact .v exR exR

theorem w_look (h1 : ∀ z b, V P 52 [iv z] mt b (.bool (isF z)) mt) (M b : Nat) (hM : M < b) (g : Mg) (z : Int) (i : Nat) (hi : Ix z i) (hg : g.ok b) (m : Mem) (hm : m M = some g.rbox) :
    VW P c49 (PRet (Ends [.tmp 4] b (iv (if (g.get i).o then 0 else 7)) (ofL [(M, g.rbox)]))) (fun t => [PV.ptr M 15 0 0, iv z][t]?) m b := by
  unfold c49
  obtain ⟨n1, n2, n3, n4, n5⟩ := below_ne hM
  have hk := rone_keep hM hm hg
  have his : isF z = true := by unfold Ix at hi; simp [isF]; omega
  rcases hi.four with ⟨rfl, rfl⟩ | ⟨rfl, rfl⟩ | ⟨rfl, rfl⟩ | ⟨rfl, rfl⟩
  · simp only [Mg.get]
    cases ho : g.a0.o
    all_goals
      repeat' (first
    | exact True.intro
    | refine VW.seq ?_
    | refine VW.block ?_
    | ((first | refine VW.skip ?_ | refine VW.exit ?_ | refine VW.reg ?_ | refine VW.regD ?_ | refine VW.ret ?_ | show goA _ _ _ _ _ _ _ _ _ _ | show goB _ _ _ _ _ _ _ _ _ | show goAD _ _ _ _ _ _ _ _ _ _ _ _ _ _ | show goBD _ _ _ _ _ _ _ _ _ _ _ | refine VC.p1 (h1 _ _) rfl rfl ?_); refine sx ?_)
    | refine VW.condT cx ?_
    | refine VW.condF cx ?_
    | refine VW.cond ex ?_ ?_
    | refine imp_nt ?_
    | refine imp_nf ?_
    | refine imp_dt (fun _ => ?_)
    | refine imp_df (fun _ => ?_)
    | (refine fun (_ : _ = true) => ?_)
    | (refine fun (_ : _ = false) => ?_)
    | refine vg_t ?_ ?_
    | refine vg_f ?_ ?_)
      exact .keep exR cxL hk
  · simp only [Mg.get]
    cases ho : g.a1.o
    all_goals
      repeat' (first
    | exact True.intro
    | refine VW.seq ?_
    | refine VW.block ?_
    | ((first | refine VW.skip ?_ | refine VW.exit ?_ | refine VW.reg ?_ | refine VW.regD ?_ | refine VW.ret ?_ | show goA _ _ _ _ _ _ _ _ _ _ | show goB _ _ _ _ _ _ _ _ _ | show goAD _ _ _ _ _ _ _ _ _ _ _ _ _ _ | show goBD _ _ _ _ _ _ _ _ _ _ _ | refine VC.p1 (h1 _ _) rfl rfl ?_); refine sx ?_)
    | refine VW.condT cx ?_
    | refine VW.condF cx ?_
    | refine VW.cond ex ?_ ?_
    | refine imp_nt ?_
    | refine imp_nf ?_
    | refine imp_dt (fun _ => ?_)
    | refine imp_df (fun _ => ?_)
    | (refine fun (_ : _ = true) => ?_)
    | (refine fun (_ : _ = false) => ?_)
    | refine vg_t ?_ ?_
    | refine vg_f ?_ ?_)
      exact .keep exR cxL hk
  · simp only [Mg.get]
    cases ho : g.a2.o
    all_goals
      repeat' (first
    | exact True.intro
    | refine VW.seq ?_
    | refine VW.block ?_
    | ((first | refine VW.skip ?_ | refine VW.exit ?_ | refine VW.reg ?_ | refine VW.regD ?_ | refine VW.ret ?_ | show goA _ _ _ _ _ _ _ _ _ _ | show goB _ _ _ _ _ _ _ _ _ | show goAD _ _ _ _ _ _ _ _ _ _ _ _ _ _ | show goBD _ _ _ _ _ _ _ _ _ _ _ | refine VC.p1 (h1 _ _) rfl rfl ?_); refine sx ?_)
    | refine VW.condT cx ?_
    | refine VW.condF cx ?_
    | refine VW.cond ex ?_ ?_
    | refine imp_nt ?_
    | refine imp_nf ?_
    | refine imp_dt (fun _ => ?_)
    | refine imp_df (fun _ => ?_)
    | (refine fun (_ : _ = true) => ?_)
    | (refine fun (_ : _ = false) => ?_)
    | refine vg_t ?_ ?_
    | refine vg_f ?_ ?_)
      exact .keep exR cxL hk
  · simp only [Mg.get]
    cases ho : g.a3.o
    all_goals
      repeat' (first
    | exact True.intro
    | refine VW.seq ?_
    | refine VW.block ?_
    | ((first | refine VW.skip ?_ | refine VW.exit ?_ | refine VW.reg ?_ | refine VW.regD ?_ | refine VW.ret ?_ | show goA _ _ _ _ _ _ _ _ _ _ | show goB _ _ _ _ _ _ _ _ _ | show goAD _ _ _ _ _ _ _ _ _ _ _ _ _ _ | show goBD _ _ _ _ _ _ _ _ _ _ _ | refine VC.p1 (h1 _ _) rfl rfl ?_); refine sx ?_)
    | refine VW.condT cx ?_
    | refine VW.condF cx ?_
    | refine VW.cond ex ?_ ?_
    | refine imp_nt ?_
    | refine imp_nf ?_
    | refine imp_dt (fun _ => ?_)
    | refine imp_df (fun _ => ?_)
    | (refine fun (_ : _ = true) => ?_)
    | (refine fun (_ : _ = false) => ?_)
    | refine vg_t ?_ ?_
    | refine vg_f ?_ ?_)
      exact .keep exR cxL hk
  
theorem w_lookR (h1 : ∀ z b, V P 52 [iv z] mt b (.bool (isF z)) mt) (M b : Nat) (hM : M < b) (z : Int) (hi : z < 0 ∨ 4 ≤ z) :
    VW P c49 (PRet (Ends [.tmp 4] b (iv 2) mt)) (fun t => [PV.ptr M 15 0 0, iv z][t]?) mt b := by
  unfold c49
  obtain ⟨n1, n2, n3, n4, n5⟩ := below_ne hM
  have his : isF z = false := by simp [isF]; omega
  repeat' (first
    | exact True.intro
    | refine VW.seq ?_
    | refine VW.block ?_
    | ((first | refine VW.skip ?_ | refine VW.exit ?_ | refine VW.reg ?_ | refine VW.regD ?_ | refine VW.ret ?_ | show goA _ _ _ _ _ _ _ _ _ _ | show goB _ _ _ _ _ _ _ _ _ | show goAD _ _ _ _ _ _ _ _ _ _ _ _ _ _ | show goBD _ _ _ _ _ _ _ _ _ _ _ | refine VC.p1 (h1 _ _) rfl rfl ?_); refine sx ?_)
    | refine VW.condT cx ?_
    | refine VW.condF cx ?_
    | refine VW.cond ex ?_ ?_
    | refine imp_nt ?_
    | refine imp_nf ?_
    | refine imp_dt (fun _ => ?_)
    | refine imp_df (fun _ => ?_)
    | (refine fun (_ : _ = true) => ?_)
    | (refine fun (_ : _ = false) => ?_)
    | refine vg_t ?_ ?_
    | refine vg_f ?_ ?_)
  exact .v exR exR
end
end Go.Vx
/- Walks of the reference's manager: what has no loop, the second part. -/
set_option linter.unusedSimpArgs false
set_option linter.unusedVariables false
set_option maxRecDepth 4000
set_option maxHeartbeats 2000000
namespace Go.Vx
open Go Go.Proofs

structure Look (P : Program) : Prop where
  yes : ∀ M b, M < b → ∀ g z i, Ix z i → Mg.ok g b → V P 49 [.ptr M 15 0 0, iv z] (ofL [(M, g.rbox)]) b (iv (if (g.get i).o then 0 else 7)) (ofL [(M, g.rbox)])
  no : ∀ M b, M < b → ∀ z, (z < 0 ∨ 4 ≤ z) → V P 49 [.ptr M 15 0 0, iv z] mt b (iv 2) mt

section
variable {P : Program}
theorem VC.look (h1 : Look P) {M b : Nat} (hM : M < b) {z : Int} {i : Nat} (hi : Ix z i) {g : Mg} (hg : g.ok b) {m : Mem} (hm : m M = some g.rbox) {nd : Bool} {K : PV → Mem → Prop} (hk : K (iv (if (g.get i).o then 0 else 7)) m) : VC P b (.f 49) [.ptr M 15 0 0, iv z] true nd K m m :=
  .same (qs := [.ptr M 15 0 0, iv z]) (l := [(M, g.rbox)]) ⟨.inl ⟨rfl, by simpa [PV.lt, lt1] using hM⟩, .inl ⟨rfl, rfl⟩, trivial⟩ (by simp only [List.mem_cons, List.not_mem_nil, or_false, forall_eq, forall_eq_or_imp]; exact ⟨hm, hM, by simpa using Mg.rblt (k := 0) hg⟩) (h1.yes M b hM g z i hi hg) hk
theorem VC.lookR (h1 : Look P) {M b : Nat} (hM : M < b) {z : Int} (hi : z < 0 ∨ 4 ≤ z) {m : Mem} {nd : Bool} {K : PV → Mem → Prop} (hk : K (iv 2) m) : VC P b (.f 49) [.ptr M 15 0 0, iv z] true nd K m m :=
  .pure [.ptr M 15 0 0, iv z] _ ⟨.inl ⟨rfl, by simpa [PV.lt, lt1] using hM⟩, .inl ⟨rfl, rfl⟩, trivial⟩ (h1.no M b hM z hi) hk

theorem w_rnew (z : Int) (b : Nat) : VW P c30 (PRet (Ends [.tmp 2] b (.ptr b 15 0 0) (ofL [(b, (Mg.mk (min (max z 0) 1073741824) (min (max z 0) 1073741824) ⟨false, 0, .nsl⟩ ⟨false, 0, .nsl⟩ ⟨false, 0, .nsl⟩ ⟨false, 0, .nsl⟩ .nsl).rbox)])))
    (fun t => [iv z][t]?) mt b := by
  unfold c30
  repeat' (first
    | exact True.intro
    | refine VW.seq ?_
    | refine VW.block ?_
    | ((first | refine VW.skip ?_ | refine VW.exit ?_ | refine VW.reg ?_ | refine VW.regD ?_ | refine VW.ret ?_ | show goA _ _ _ _ _ _ _ _ _ _ | show goB _ _ _ _ _ _ _ _ _ | show goAD _ _ _ _ _ _ _ _ _ _ _ _ _ _ | show goBD _ _ _ _ _ _ _ _ _ _ _); refine sx ?_)
    | refine VW.condT cx ?_
    | refine VW.condF cx ?_
    | refine VW.cond ex ?_ ?_
    | refine imp_nt ?_
    | refine imp_nf ?_
    | refine imp_dt (fun _ => ?_)
    | refine imp_df (fun _ => ?_)
    | (refine fun (_ : _ = true) => ?_)
    | (refine fun (_ : _ = false) => ?_)
    | refine vg_t ?_ ?_
    | refine vg_f ?_ ?_)
  exact .ol [b + 64] (by simp -implicitDefEqProofs only [eng, reduceIte, reduceCtorEq, Nat.reduceAdd, Nat.reduceMul, Nat.reduceSub, Nat.reduceEqDiff, Nat.reduceLeDiff, Nat.reduceLT, Nat.reduceDiv, Nat.reduceMod, Int.reduceLE, Int.reduceLT, Int.reduceEq, Int.reduceNeg, Int.reduceAdd, Int.reduceSub, Int.reduceToNat, Nat.reducePow, Int.ofNat_zero, Int.natCast_one, Int.cast_ofNat_Int, resF, resL, RX.ev, tup1, purT] <;> rfl) (by simp -implicitDefEqProofs only [renS, List.map_cons, List.map_nil, sg_0, sg_1, sg_2, eng, reduceIte, reduceCtorEq, Nat.reduceAdd, Nat.reduceMul, Nat.reduceSub, Nat.reduceEqDiff, Nat.reduceLeDiff, Nat.reduceLT, Nat.reduceDiv, Nat.reduceMod, Int.reduceLE, Int.reduceLT, Int.reduceEq, Int.reduceNeg, Int.reduceAdd, Int.reduceSub, Int.reduceToNat, Nat.reducePow, Int.ofNat_zero, Int.natCast_one, Int.cast_ofNat_Int]) (cxL) (by simp) (by simp) (by
    simp only [List.mem_cons, List.not_mem_nil, or_false, forall_eq, forall_eq_or_imp]
    refine ⟨?_, ?_, ?_, ?_, ?_⟩
    all_goals first | (simp only [List.length_cons, List.length_nil]; omega) | (simp -implicitDefEqProofs only [renS, List.map_cons, List.map_nil, sg_0, sg_1, sg_2, ltS, lt8, List.all_cons, List.all_nil, eng, reduceIte, reduceCtorEq, Nat.reduceAdd, Nat.reduceMul, Nat.reduceSub, Nat.reduceEqDiff, Nat.reduceLeDiff, Nat.reduceLT, Nat.reduceDiv, Nat.reduceMod, Int.reduceLE, Int.reduceLT, Int.reduceEq, Int.reduceNeg, Int.reduceAdd, Int.reduceSub, Int.reduceToNat, Nat.reducePow, Int.ofNat_zero, Int.natCast_one, Int.cast_ofNat_Int, Mg.rbox, *]; done) | skip)

theorem w_ropenR (h1 : Look P) (M b : Nat) (hM : M < b) (z : Int) (hi : z < 0 ∨ 4 ≤ z) : VW P c32 (PRet (Ends [.tmp 4] b (.bool false) mt)) (fun t => [PV.ptr M 15 0 0, iv z][t]?) mt b := by
  unfold c32
  obtain ⟨n1, n2, n3, n4, n5⟩ := below_ne hM
  repeat' (first
    | exact True.intro
    | refine VW.seq ?_
    | refine VW.block ?_
    | ((first | refine VW.skip ?_ | refine VW.exit ?_ | refine VW.reg ?_ | refine VW.regD ?_ | refine VW.ret ?_ | show goA _ _ _ _ _ _ _ _ _ _ | show goB _ _ _ _ _ _ _ _ _ | show goAD _ _ _ _ _ _ _ _ _ _ _ _ _ _ | show goBD _ _ _ _ _ _ _ _ _ _ _); refine sx ?_)
    | refine VW.condT cx ?_
    | refine VW.condF cx ?_
    | refine VW.cond ex ?_ ?_
    | refine imp_nt ?_
    | refine imp_nf ?_
    | refine imp_dt (fun _ => ?_)
    | refine imp_df (fun _ => ?_)
    | (refine fun (_ : _ = true) => ?_)
    | (refine fun (_ : _ = false) => ?_)
    | refine vg_t ?_ ?_
    | refine vg_f ?_ ?_)
  refine VC.lookR h1 (by omega) hi ?_
  refine sx ?_
  repeat' (first
    | exact True.intro
    | refine VW.seq ?_
    | refine VW.block ?_
    | ((first | refine VW.skip ?_ | refine VW.exit ?_ | refine VW.reg ?_ | refine VW.regD ?_ | refine VW.ret ?_ | show goA _ _ _ _ _ _ _ _ _ _ | show goB _ _ _ _ _ _ _ _ _ | show goAD _ _ _ _ _ _ _ _ _ _ _ _ _ _ | show goBD _ _ _ _ _ _ _ _ _ _ _); refine sx ?_)
    | refine VW.condT cx ?_
    | refine VW.condF cx ?_
    | refine VW.cond ex ?_ ?_
    | refine imp_nt ?_
    | refine imp_nf ?_
    | refine imp_dt (fun _ => ?_)
    | refine imp_df (fun _ => ?_)
    | (refine fun (_ : _ = true) => ?_)
    | (refine fun (_ : _ = false) => ?_)
    | refine vg_t ?_ ?_
    | refine vg_f ?_ ?_)
  exact .v exR exR
theorem w_ropen (h1 : Look P) (M b : Nat) (hM : M < b) (g : Mg) (hg : g.ok b) (z : Int) (i : Nat) (hi : Ix z i) (m : Mem) (hm : m M = some g.rbox) : VW P c32 (PRet (Ends [.tmp 4] b (.bool (g.get i).o) (ofL [(M, g.rbox)]))) (fun t => [PV.ptr M 15 0 0, iv z][t]?) m b := by
  unfold c32
  obtain ⟨n1, n2, n3, n4, n5⟩ := below_ne hM
  have hk := rone_keep hM hm hg
  repeat' (first
    | exact True.intro
    | refine VW.seq ?_
    | refine VW.block ?_
    | ((first | refine VW.skip ?_ | refine VW.exit ?_ | refine VW.reg ?_ | refine VW.regD ?_ | refine VW.ret ?_ | show goA _ _ _ _ _ _ _ _ _ _ | show goB _ _ _ _ _ _ _ _ _ | show goAD _ _ _ _ _ _ _ _ _ _ _ _ _ _ | show goBD _ _ _ _ _ _ _ _ _ _ _); refine sx ?_)
    | refine VW.condT cx ?_
    | refine VW.condF cx ?_
    | refine VW.cond ex ?_ ?_
    | refine imp_nt ?_
    | refine imp_nf ?_
    | refine imp_dt (fun _ => ?_)
    | refine imp_df (fun _ => ?_)
    | (refine fun (_ : _ = true) => ?_)
    | (refine fun (_ : _ = false) => ?_)
    | refine vg_t ?_ ?_
    | refine vg_f ?_ ?_)
  refine VC.look h1 (by omega) hi (hg.mono (by omega)) hm ?_
  cases ho : (g.get i).o
  all_goals
    refine sx ?_
    repeat' (first
    | exact True.intro
    | refine VW.seq ?_
    | refine VW.block ?_
    | ((first | refine VW.skip ?_ | refine VW.exit ?_ | refine VW.reg ?_ | refine VW.regD ?_ | refine VW.ret ?_ | show goA _ _ _ _ _ _ _ _ _ _ | show goB _ _ _ _ _ _ _ _ _ | show goAD _ _ _ _ _ _ _ _ _ _ _ _ _ _ | show goBD _ _ _ _ _ _ _ _ _ _ _); refine sx ?_)
    | refine VW.condT cx ?_
    | refine VW.condF cx ?_
    | refine VW.cond ex ?_ ?_
    | refine imp_nt ?_
    | refine imp_nf ?_
    | refine imp_dt (fun _ => ?_)
    | refine imp_df (fun _ => ?_)
    | (refine fun (_ : _ = true) => ?_)
    | (refine fun (_ : _ = false) => ?_)
    | refine vg_t ?_ ?_
    | refine vg_f ?_ ?_)
    exact .keep exR cxL hk
theorem w_rclock (M b : Nat) (hM : M < b) (g : Mg) (hg : g.ok b) (m : Mem) (hm : m M = some g.rbox) : VW P c37 (PRet (Ends [.tmp 2] b (iv g.c) (ofL [(M, g.rbox)]))) (fun t => [PV.ptr M 15 0 0][t]?) m b := by
  unfold c37
  obtain ⟨n1, n2, n3, n4, n5⟩ := below_ne hM
  have hk := rone_keep hM hm hg
  repeat' (first
    | exact True.intro
    | refine VW.seq ?_
    | refine VW.block ?_
    | ((first | refine VW.skip ?_ | refine VW.exit ?_ | refine VW.reg ?_ | refine VW.regD ?_ | refine VW.ret ?_ | show goA _ _ _ _ _ _ _ _ _ _ | show goB _ _ _ _ _ _ _ _ _ | show goAD _ _ _ _ _ _ _ _ _ _ _ _ _ _ | show goBD _ _ _ _ _ _ _ _ _ _ _); refine sx ?_)
    | refine VW.condT cx ?_
    | refine VW.condF cx ?_
    | refine VW.cond ex ?_ ?_
    | refine imp_nt ?_
    | refine imp_nf ?_
    | refine imp_dt (fun _ => ?_)
    | refine imp_df (fun _ => ?_)
    | (refine fun (_ : _ = true) => ?_)
    | (refine fun (_ : _ = false) => ?_)
    | refine vg_t ?_ ?_
    | refine vg_f ?_ ?_)
  exact .keep exR cxL hk
theorem w_rhigh (M b : Nat) (hM : M < b) (g : Mg) (hg : g.ok b) (m : Mem) (hm : m M = some g.rbox) : VW P c38 (PRet (Ends [.tmp 2] b (iv g.h) (ofL [(M, g.rbox)]))) (fun t => [PV.ptr M 15 0 0][t]?) m b := by
  unfold c38
  obtain ⟨n1, n2, n3, n4, n5⟩ := below_ne hM
  have hk := rone_keep hM hm hg
  repeat' (first
    | exact True.intro
    | refine VW.seq ?_
    | refine VW.block ?_
    | ((first | refine VW.skip ?_ | refine VW.exit ?_ | refine VW.reg ?_ | refine VW.regD ?_ | refine VW.ret ?_ | show goA _ _ _ _ _ _ _ _ _ _ | show goB _ _ _ _ _ _ _ _ _ | show goAD _ _ _ _ _ _ _ _ _ _ _ _ _ _ | show goBD _ _ _ _ _ _ _ _ _ _ _); refine sx ?_)
    | refine VW.condT cx ?_
    | refine VW.condF cx ?_
    | refine VW.cond ex ?_ ?_
    | refine imp_nt ?_
    | refine imp_nf ?_
    | refine imp_dt (fun _ => ?_)
    | refine imp_df (fun _ => ?_)
    | (refine fun (_ : _ = true) => ?_)
    | (refine fun (_ : _ = false) => ?_)
    | refine vg_t ?_ ?_
    | refine vg_f ?_ ?_)
  exact .keep exR cxL hk
theorem w_rendR (h1 : Look P) (M b : Nat) (hM : M < b) (z : Int) (hi : z < 0 ∨ 4 ≤ z) : VW P c44 (PRet (Ends [.tmp 4] b (iv 2) mt)) (fun t => [PV.ptr M 15 0 0, iv z][t]?) mt b := by
  unfold c44
  obtain ⟨n1, n2, n3, n4, n5⟩ := below_ne hM
  repeat' (first
    | exact True.intro
    | refine VW.seq ?_
    | refine VW.block ?_
    | ((first | refine VW.skip ?_ | refine VW.exit ?_ | refine VW.reg ?_ | refine VW.regD ?_ | refine VW.ret ?_ | show goA _ _ _ _ _ _ _ _ _ _ | show goB _ _ _ _ _ _ _ _ _ | show goAD _ _ _ _ _ _ _ _ _ _ _ _ _ _ | show goBD _ _ _ _ _ _ _ _ _ _ _); refine sx ?_)
    | refine VW.condT cx ?_
    | refine VW.condF cx ?_
    | refine VW.cond ex ?_ ?_
    | refine imp_nt ?_
    | refine imp_nf ?_
    | refine imp_dt (fun _ => ?_)
    | refine imp_df (fun _ => ?_)
    | (refine fun (_ : _ = true) => ?_)
    | (refine fun (_ : _ = false) => ?_)
    | refine vg_t ?_ ?_
    | refine vg_f ?_ ?_)
  refine VC.lookR h1 (by omega) hi ?_
  refine sx ?_
  repeat' (first
    | exact True.intro
    | refine VW.seq ?_
    | refine VW.block ?_
    | ((first | refine VW.skip ?_ | refine VW.exit ?_ | refine VW.reg ?_ | refine VW.regD ?_ | refine VW.ret ?_ | show goA _ _ _ _ _ _ _ _ _ _ | show goB _ _ _ _ _ _ _ _ _ | show goAD _ _ _ _ _ _ _ _ _ _ _ _ _ _ | show goBD _ _ _ _ _ _ _ _ _ _ _); refine sx ?_)
    | refine VW.condT cx ?_
    | refine VW.condF cx ?_
    | refine VW.cond ex ?_ ?_
    | refine imp_nt ?_
    | refine imp_nf ?_
    | refine imp_dt (fun _ => ?_)
    | refine imp_df (fun _ => ?_)
    | (refine fun (_ : _ = true) => ?_)
    | (refine fun (_ : _ = false) => ?_)
    | refine vg_t ?_ ?_
    | refine vg_f ?_ ?_)
  exact .v exR exR
theorem w_rend0 (h1 : Look P) (M b : Nat) (hM : M < b) (g : Mg) (hg : g.ok b) (z : Int) (i : Nat) (hi : Ix z i) (ho : (g.get i).o = false) (m : Mem) (hm : m M = some g.rbox) : VW P c44 (PRet (Ends [.tmp 4] b (iv 7) (ofL [(M, g.rbox)]))) (fun t => [PV.ptr M 15 0 0, iv z][t]?) m b := by
  unfold c44
  obtain ⟨n1, n2, n3, n4, n5⟩ := below_ne hM
  have hk := rone_keep hM hm hg
  repeat' (first
    | exact True.intro
    | refine VW.seq ?_
    | refine VW.block ?_
    | ((first | refine VW.skip ?_ | refine VW.exit ?_ | refine VW.reg ?_ | refine VW.regD ?_ | refine VW.ret ?_ | show goA _ _ _ _ _ _ _ _ _ _ | show goB _ _ _ _ _ _ _ _ _ | show goAD _ _ _ _ _ _ _ _ _ _ _ _ _ _ | show goBD _ _ _ _ _ _ _ _ _ _ _); refine sx ?_)
    | refine VW.condT cx ?_
    | refine VW.condF cx ?_
    | refine VW.cond ex ?_ ?_
    | refine imp_nt ?_
    | refine imp_nf ?_
    | refine imp_dt (fun _ => ?_)
    | refine imp_df (fun _ => ?_)
    | (refine fun (_ : _ = true) => ?_)
    | (refine fun (_ : _ = false) => ?_)
    | refine vg_t ?_ ?_
    | refine vg_f ?_ ?_)
  refine VC.look h1 (by omega) hi (hg.mono (by omega)) hm ?_
  refine sx ?_
  repeat' (first
    | exact True.intro
    | refine VW.seq ?_
    | refine VW.block ?_
    | ((first | refine VW.skip ?_ | refine VW.exit ?_ | refine VW.reg ?_ | refine VW.regD ?_ | refine VW.ret ?_ | show goA _ _ _ _ _ _ _ _ _ _ | show goB _ _ _ _ _ _ _ _ _ | show goAD _ _ _ _ _ _ _ _ _ _ _ _ _ _ | show goBD _ _ _ _ _ _ _ _ _ _ _); refine sx ?_)
    | refine VW.condT cx ?_
    | refine VW.condF cx ?_
    | refine VW.cond ex ?_ ?_
    | refine imp_nt ?_
    | refine imp_nf ?_
    | refine imp_dt (fun _ => ?_)
    | refine imp_df (fun _ => ?_)
    | (refine fun (_ : _ = true) => ?_)
    | (refine fun (_ : _ = false) => ?_)
    | refine vg_t ?_ ?_
    | refine vg_f ?_ ?_)
  exact .keep exR cxL hk
theorem w_rend1 (h1 : Look P) (M b : Nat) (hM : M < b) (g : Mg) (hg : g.ok b) (z : Int) (i : Nat) (hi : Ix z i) (ho : (g.get i).o = true) (m : Mem) (hm : m M = some g.rbox) : VW P c44 (PRet (Ends [.tmp 4] b (iv 0) (ofL [(M, (g.put i ⟨false, 0, .nsl⟩).rbox)]))) (fun t => [PV.ptr M 15 0 0, iv z][t]?) m b := by
  unfold c44
  obtain ⟨n1, n2, n3, n4, n5⟩ := below_ne hM
  have hg' := Mg.put_ok (i := i) (x := ⟨false, 0, .nsl⟩) hg rfl
  repeat' (first
    | exact True.intro
    | refine VW.seq ?_
    | refine VW.block ?_
    | ((first | refine VW.skip ?_ | refine VW.exit ?_ | refine VW.reg ?_ | refine VW.regD ?_ | refine VW.ret ?_ | show goA _ _ _ _ _ _ _ _ _ _ | show goB _ _ _ _ _ _ _ _ _ | show goAD _ _ _ _ _ _ _ _ _ _ _ _ _ _ | show goBD _ _ _ _ _ _ _ _ _ _ _); refine sx ?_)
    | refine VW.condT cx ?_
    | refine VW.condF cx ?_
    | refine VW.cond ex ?_ ?_
    | refine imp_nt ?_
    | refine imp_nf ?_
    | refine imp_dt (fun _ => ?_)
    | refine imp_df (fun _ => ?_)
    | (refine fun (_ : _ = true) => ?_)
    | (refine fun (_ : _ = false) => ?_)
    | refine vg_t ?_ ?_
    | refine vg_f ?_ ?_)
  refine VC.look h1 (by omega) hi (hg.mono (by omega)) hm ?_
  refine sx ?_
  rcases hi.four with ⟨rfl, rfl⟩ | ⟨rfl, rfl⟩ | ⟨rfl, rfl⟩ | ⟨rfl, rfl⟩
  all_goals
    simp only [Mg.get] at ho
    repeat' (first
    | exact True.intro
    | refine VW.seq ?_
    | refine VW.block ?_
    | ((first | refine VW.skip ?_ | refine VW.exit ?_ | refine VW.reg ?_ | refine VW.regD ?_ | refine VW.ret ?_ | show goA _ _ _ _ _ _ _ _ _ _ | show goB _ _ _ _ _ _ _ _ _ | show goAD _ _ _ _ _ _ _ _ _ _ _ _ _ _ | show goBD _ _ _ _ _ _ _ _ _ _ _); refine sx ?_)
    | refine VW.condT cx ?_
    | refine VW.condF cx ?_
    | refine VW.cond ex ?_ ?_
    | refine imp_nt ?_
    | refine imp_nf ?_
    | refine imp_dt (fun _ => ?_)
    | refine imp_df (fun _ => ?_)
    | (refine fun (_ : _ = true) => ?_)
    | (refine fun (_ : _ = false) => ?_)
    | refine vg_t ?_ ?_
    | refine vg_f ?_ ?_)
    exact .keep exR cxL (rone_keep hM (by simp -implicitDefEqProofs only [eng, reduceIte, reduceCtorEq, Nat.reduceAdd, Nat.reduceMul, Nat.reduceSub, Nat.reduceEqDiff, Nat.reduceLeDiff, Nat.reduceLT, Nat.reduceDiv, Nat.reduceMod, Int.reduceLE, Int.reduceLT, Int.reduceEq, Int.reduceNeg, Int.reduceAdd, Int.reduceSub, Int.reduceToNat, Nat.reducePow, Int.ofNat_zero, Int.natCast_one, Int.cast_ofNat_Int, Mg.put, *]) hg')
theorem w_rtick (M b : Nat) (hM : M < b) (g : Mg) (hg : g.ok b) (n : Int) (m : Mem) (hm : m M = some g.rbox) : VW P c45 (PRet (Ends [] b (.tup []) (ofL [(M, ({ g with c := tickF g.c n } : Mg).rbox)]))) (fun t => [PV.ptr M 15 0 0, iv n][t]?) m b := by
  unfold c45
  obtain ⟨n1, n2, n3, n4, n5⟩ := below_ne hM
  have hg' : ({ g with c := tickF g.c n } : Mg).ok b := hg
  by_cases hn : n < 1
  · have hn' : ¬ 0 < n := by omega
    repeat' (first
    | exact True.intro
    | refine VW.seq ?_
    | refine VW.block ?_
    | ((first | refine VW.skip ?_ | refine VW.exit ?_ | refine VW.reg ?_ | refine VW.regD ?_ | refine VW.ret ?_ | show goA _ _ _ _ _ _ _ _ _ _ | show goB _ _ _ _ _ _ _ _ _ | show goAD _ _ _ _ _ _ _ _ _ _ _ _ _ _ | show goBD _ _ _ _ _ _ _ _ _ _ _); refine sx ?_)
    | refine VW.condT cx ?_
    | refine VW.condF cx ?_
    | refine VW.cond ex ?_ ?_
    | refine imp_nt ?_
    | refine imp_nf ?_
    | refine imp_dt (fun _ => ?_)
    | refine imp_df (fun _ => ?_)
    | (refine fun (_ : _ = true) => ?_)
    | (refine fun (_ : _ = false) => ?_)
    | refine vg_t ?_ ?_
    | refine vg_f ?_ ?_)
    exact .keep exR cxL (rone_keep hM (by simp -implicitDefEqProofs only [eng, reduceIte, reduceCtorEq, Nat.reduceAdd, Nat.reduceMul, Nat.reduceSub, Nat.reduceEqDiff, Nat.reduceLeDiff, Nat.reduceLT, Nat.reduceDiv, Nat.reduceMod, Int.reduceLE, Int.reduceLT, Int.reduceEq, Int.reduceNeg, Int.reduceAdd, Int.reduceSub, Int.reduceToNat, Nat.reducePow, Int.ofNat_zero, Int.natCast_one, Int.cast_ofNat_Int, tickF, *]) hg')
  · have hn' : 0 < n := by omega
    repeat' (first
    | exact True.intro
    | refine VW.seq ?_
    | refine VW.block ?_
    | ((first | refine VW.skip ?_ | refine VW.exit ?_ | refine VW.reg ?_ | refine VW.regD ?_ | refine VW.ret ?_ | show goA _ _ _ _ _ _ _ _ _ _ | show goB _ _ _ _ _ _ _ _ _ | show goAD _ _ _ _ _ _ _ _ _ _ _ _ _ _ | show goBD _ _ _ _ _ _ _ _ _ _ _); refine sx ?_)
    | refine VW.condT cx ?_
    | refine VW.condF cx ?_
    | refine VW.cond ex ?_ ?_
    | refine imp_nt ?_
    | refine imp_nf ?_
    | refine imp_dt (fun _ => ?_)
    | refine imp_df (fun _ => ?_)
    | (refine fun (_ : _ = true) => ?_)
    | (refine fun (_ : _ = false) => ?_)
    | refine vg_t ?_ ?_
    | refine vg_f ?_ ?_)
    exact .keep exR cxL (rone_keep hM (by simp -implicitDefEqProofs only [eng, reduceIte, reduceCtorEq, Nat.reduceAdd, Nat.reduceMul, Nat.reduceSub, Nat.reduceEqDiff, Nat.reduceLeDiff, Nat.reduceLT, Nat.reduceDiv, Nat.reduceMod, Int.reduceLE, Int.reduceLT, Int.reduceEq, Int.reduceNeg, Int.reduceAdd, Int.reduceSub, Int.reduceToNat, Nat.reducePow, Int.ofNat_zero, Int.natCast_one, Int.cast_ofNat_Int, tickF, *]) hg')
end
end Go.Vx
/- Walks of the reference's manager: Since, Begin. -/
set_option linter.unusedSimpArgs false
set_option linter.unusedVariables false
set_option maxRecDepth 4000
set_option maxHeartbeats 2000000
namespace Go.Vx
open Go Go.Proofs

section
variable {P : Program}
theorem w_rsince (h1 : ∀ M b, M < b → ∀ (g : Mg) z i, Ix z i → Mg.ok g b → V P 32 [.ptr M 15 0 0, iv z] (ofL [(M, g.rbox)]) b (.bool (g.get i).o) (ofL [(M, g.rbox)])) (M b : Nat) (hM : M < b) (g : Mg) (hg : g.ok b) (z : Int) (i : Nat) (hi : Ix z i) (m : Mem) (hm : m M = some g.rbox) :
    VW P c31 (PRet (Ends [.tmp 4, .tmp 5] b (if (g.get i).o then .tup [iv (g.get i).s, .bool true] else .tup [iv 0, .bool false]) (ofL [(M, g.rbox)]))) (fun t => [PV.ptr M 15 0 0, iv z][t]?) m b := by
  unfold c31
  obtain ⟨n1, n2, n3, n4, n5⟩ := below_ne hM
  have hk := rone_keep hM hm hg
  repeat' (first
    | exact True.intro
    | refine VW.seq ?_
    | refine VW.block ?_
    | ((first | refine VW.skip ?_ | refine VW.exit ?_ | refine VW.reg ?_ | refine VW.regD ?_ | refine VW.ret ?_ | show goA _ _ _ _ _ _ _ _ _ _ | show goB _ _ _ _ _ _ _ _ _ | show goAD _ _ _ _ _ _ _ _ _ _ _ _ _ _ | show goBD _ _ _ _ _ _ _ _ _ _ _); refine sx ?_)
    | refine VW.condT cx ?_
    | refine VW.condF cx ?_
    | refine VW.cond ex ?_ ?_
    | refine imp_nt ?_
    | refine imp_nf ?_
    | refine imp_dt (fun _ => ?_)
    | refine imp_df (fun _ => ?_)
    | (refine fun (_ : _ = true) => ?_)
    | (refine fun (_ : _ = false) => ?_)
    | refine vg_t ?_ ?_
    | refine vg_f ?_ ?_)
  refine VC.same (qs := [.ptr M 15 0 0, iv z]) (l := [(M, g.rbox)]) ⟨.inl ⟨rfl, by simp -implicitDefEqProofs only [ltS, lt8, List.all_cons, List.all_nil, eng, reduceIte, reduceCtorEq, Nat.reduceAdd, Nat.reduceMul, Nat.reduceSub, Nat.reduceEqDiff, Nat.reduceLeDiff, Nat.reduceLT, Nat.reduceDiv, Nat.reduceMod, Int.reduceLE, Int.reduceLT, Int.reduceEq, Int.reduceNeg, Int.reduceAdd, Int.reduceSub, Int.reduceToNat, Nat.reducePow, Int.ofNat_zero, Int.natCast_one, Int.cast_ofNat_Int, *]⟩, .inl ⟨rfl, rfl⟩, trivial⟩ (by simp only [List.mem_cons, List.not_mem_nil, or_false, forall_eq, forall_eq_or_imp]; exact ⟨hm, by omega, Mg.rblt hg⟩) (h1 M _ (by omega) g z i hi (hg.mono (by omega))) ?_
  cases ho : (g.get i).o
  · simp -implicitDefEqProofs only [eng, reduceIte, reduceCtorEq, Nat.reduceAdd, Nat.reduceMul, Nat.reduceSub, Nat.reduceEqDiff, Nat.reduceLeDiff, Nat.reduceLT, Nat.reduceDiv, Nat.reduceMod, Int.reduceLE, Int.reduceLT, Int.reduceEq, Int.reduceNeg, Int.reduceAdd, Int.reduceSub, Int.reduceToNat, Nat.reducePow, Int.ofNat_zero, Int.natCast_one, Int.cast_ofNat_Int, *]
    repeat' (first
    | exact True.intro
    | refine VW.seq ?_
    | refine VW.block ?_
    | ((first | refine VW.skip ?_ | refine VW.exit ?_ | refine VW.reg ?_ | refine VW.regD ?_ | refine VW.ret ?_ | show goA _ _ _ _ _ _ _ _ _ _ | show goB _ _ _ _ _ _ _ _ _ | show goAD _ _ _ _ _ _ _ _ _ _ _ _ _ _ | show goBD _ _ _ _ _ _ _ _ _ _ _); refine sx ?_)
    | refine VW.condT cx ?_
    | refine VW.condF cx ?_
    | refine VW.cond ex ?_ ?_
    | refine imp_nt ?_
    | refine imp_nf ?_
    | refine imp_dt (fun _ => ?_)
    | refine imp_df (fun _ => ?_)
    | (refine fun (_ : _ = true) => ?_)
    | (refine fun (_ : _ = false) => ?_)
    | refine vg_t ?_ ?_
    | refine vg_f ?_ ?_)
    exact .keep exR cxL hk
  · simp -implicitDefEqProofs only [eng, reduceIte, reduceCtorEq, Nat.reduceAdd, Nat.reduceMul, Nat.reduceSub, Nat.reduceEqDiff, Nat.reduceLeDiff, Nat.reduceLT, Nat.reduceDiv, Nat.reduceMod, Int.reduceLE, Int.reduceLT, Int.reduceEq, Int.reduceNeg, Int.reduceAdd, Int.reduceSub, Int.reduceToNat, Nat.reducePow, Int.ofNat_zero, Int.natCast_one, Int.cast_ofNat_Int, *]
    rcases hi.four with ⟨rfl, rfl⟩ | ⟨rfl, rfl⟩ | ⟨rfl, rfl⟩ | ⟨rfl, rfl⟩
    all_goals
      simp only [Mg.get] at ho
      repeat' (first
    | exact True.intro
    | refine VW.seq ?_
    | refine VW.block ?_
    | ((first | refine VW.skip ?_ | refine VW.exit ?_ | refine VW.reg ?_ | refine VW.regD ?_ | refine VW.ret ?_ | show goA _ _ _ _ _ _ _ _ _ _ | show goB _ _ _ _ _ _ _ _ _ | show goAD _ _ _ _ _ _ _ _ _ _ _ _ _ _ | show goBD _ _ _ _ _ _ _ _ _ _ _); refine sx ?_)
    | refine VW.condT cx ?_
    | refine VW.condF cx ?_
    | refine VW.cond ex ?_ ?_
    | refine imp_nt ?_
    | refine imp_nf ?_
    | refine imp_dt (fun _ => ?_)
    | refine imp_df (fun _ => ?_)
    | (refine fun (_ : _ = true) => ?_)
    | (refine fun (_ : _ = false) => ?_)
    | refine vg_t ?_ ?_
    | refine vg_f ?_ ?_)
      exact .keep exR cxL hk
theorem w_rsinceR (h1 : ∀ M b, M < b → ∀ z, (z < 0 ∨ 4 ≤ z) → V P 32 [.ptr M 15 0 0, iv z] mt b (.bool false) mt) (M b : Nat) (hM : M < b) (z : Int) (hi : z < 0 ∨ 4 ≤ z) :
    VW P c31 (PRet (Ends [.tmp 4, .tmp 5] b (.tup [iv 0, .bool false]) mt)) (fun t => [PV.ptr M 15 0 0, iv z][t]?) mt b := by
  unfold c31
  obtain ⟨n1, n2, n3, n4, n5⟩ := below_ne hM
  repeat' (first
    | exact True.intro
    | refine VW.seq ?_
    | refine VW.block ?_
    | ((first | refine VW.skip ?_ | refine VW.exit ?_ | refine VW.reg ?_ | refine VW.regD ?_ | refine VW.ret ?_ | show goA _ _ _ _ _ _ _ _ _ _ | show goB _ _ _ _ _ _ _ _ _ | show goAD _ _ _ _ _ _ _ _ _ _ _ _ _ _ | show goBD _ _ _ _ _ _ _ _ _ _ _); refine sx ?_)
    | refine VW.condT cx ?_
    | refine VW.condF cx ?_
    | refine VW.cond ex ?_ ?_
    | refine imp_nt ?_
    | refine imp_nf ?_
    | refine imp_dt (fun _ => ?_)
    | refine imp_df (fun _ => ?_)
    | (refine fun (_ : _ = true) => ?_)
    | (refine fun (_ : _ = false) => ?_)
    | refine vg_t ?_ ?_
    | refine vg_f ?_ ?_)
  refine VC.pure [.ptr M 15 0 0, iv z] _ ⟨.inl ⟨rfl, by simp -implicitDefEqProofs only [ltS, lt8, List.all_cons, List.all_nil, eng, reduceIte, reduceCtorEq, Nat.reduceAdd, Nat.reduceMul, Nat.reduceSub, Nat.reduceEqDiff, Nat.reduceLeDiff, Nat.reduceLT, Nat.reduceDiv, Nat.reduceMod, Int.reduceLE, Int.reduceLT, Int.reduceEq, Int.reduceNeg, Int.reduceAdd, Int.reduceSub, Int.reduceToNat, Nat.reducePow, Int.ofNat_zero, Int.natCast_one, Int.cast_ofNat_Int, *]⟩, .inl ⟨rfl, rfl⟩, trivial⟩ (h1 M _ (by omega) z hi) ?_
  refine sx ?_
  repeat' (first
    | exact True.intro
    | refine VW.seq ?_
    | refine VW.block ?_
    | ((first | refine VW.skip ?_ | refine VW.exit ?_ | refine VW.reg ?_ | refine VW.regD ?_ | refine VW.ret ?_ | show goA _ _ _ _ _ _ _ _ _ _ | show goB _ _ _ _ _ _ _ _ _ | show goAD _ _ _ _ _ _ _ _ _ _ _ _ _ _ | show goBD _ _ _ _ _ _ _ _ _ _ _); refine sx ?_)
    | refine VW.condT cx ?_
    | refine VW.condF cx ?_
    | refine VW.cond ex ?_ ?_
    | refine imp_nt ?_
    | refine imp_nf ?_
    | refine imp_dt (fun _ => ?_)
    | refine imp_df (fun _ => ?_)
    | (refine fun (_ : _ = true) => ?_)
    | (refine fun (_ : _ = false) => ?_)
    | refine vg_t ?_ ?_
    | refine vg_f ?_ ?_)
  exact .v exR exR

theorem w_rbegin1 (h1 : ∀ z b, V P 52 [iv z] mt b (.bool (isF z)) mt) (M b : Nat) (hM : M < b) (g : Mg) (z : Int) (i : Nat) (hi : Ix z i) (hg : g.ok b) (ho : (g.get i).o = false) (m : Mem) (hm : m M = some g.rbox) :
    VW P c41 (PRet (Ends [.tmp 4, .tmp 5] b (.tup [iv (max g.c g.h), iv 0]) (ofL [(M, (({ g with h := max g.c g.h } : Mg).put i ⟨true, max g.c g.h, .nsl⟩).rbox)]))) (fun t => [PV.ptr M 15 0 0, iv z][t]?) m b := by
  unfold c41
  obtain ⟨n1, n2, n3, n4, n5⟩ := below_ne hM
  have his : isF z = true := by unfold Ix at hi; simp [isF]; omega
  have hg' : ({ g with h := max g.c g.h } : Mg).ok b := hg
  have hg'' := Mg.put_ok (i := i) (x := ⟨true, max g.c g.h, .nsl⟩) hg' rfl
  rcases hi.four with ⟨rfl, rfl⟩ | ⟨rfl, rfl⟩ | ⟨rfl, rfl⟩ | ⟨rfl, rfl⟩
  all_goals
    simp only [Mg.get] at ho
    repeat' (first
    | exact True.intro
    | refine VW.seq ?_
    | refine VW.block ?_
    | ((first | refine VW.skip ?_ | refine VW.exit ?_ | refine VW.reg ?_ | refine VW.regD ?_ | refine VW.ret ?_ | show goA _ _ _ _ _ _ _ _ _ _ | show goB _ _ _ _ _ _ _ _ _ | show goAD _ _ _ _ _ _ _ _ _ _ _ _ _ _ | show goBD _ _ _ _ _ _ _ _ _ _ _ | refine VC.p1 (h1 _ _) rfl rfl ?_); refine sx ?_)
    | refine VW.condT cx ?_
    | refine VW.condF cx ?_
    | refine VW.cond ex ?_ ?_
    | refine imp_nt ?_
    | refine imp_nf ?_
    | refine imp_dt (fun _ => ?_)
    | refine imp_df (fun _ => ?_)
    | (refine fun (_ : _ = true) => ?_)
    | (refine fun (_ : _ = false) => ?_)
    | refine vg_t ?_ ?_
    | refine vg_f ?_ ?_)
    exact .keep exR cxL (rone_keep hM (by simp -implicitDefEqProofs only [eng, reduceIte, reduceCtorEq, Nat.reduceAdd, Nat.reduceMul, Nat.reduceSub, Nat.reduceEqDiff, Nat.reduceLeDiff, Nat.reduceLT, Nat.reduceDiv, Nat.reduceMod, Int.reduceLE, Int.reduceLT, Int.reduceEq, Int.reduceNeg, Int.reduceAdd, Int.reduceSub, Int.reduceToNat, Nat.reducePow, Int.ofNat_zero, Int.natCast_one, Int.cast_ofNat_Int, Mg.put, *]) hg'')
theorem w_rbegin0 (h1 : ∀ z b, V P 52 [iv z] mt b (.bool (isF z)) mt) (M b : Nat) (hM : M < b) (g : Mg) (z : Int) (i : Nat) (hi : Ix z i) (hg : g.ok b) (ho : (g.get i).o = true) (m : Mem) (hm : m M = some g.rbox) :
    VW P c41 (PRet (Ends [.tmp 4, .tmp 5] b (.tup [iv 0, iv 7]) (ofL [(M, g.rbox)]))) (fun t => [PV.ptr M 15 0 0, iv z][t]?) m b := by
  unfold c41
  obtain ⟨n1, n2, n3, n4, n5⟩ := below_ne hM
  have his : isF z = true := by unfold Ix at hi; simp [isF]; omega
  have hk := rone_keep hM hm hg
  rcases hi.four with ⟨rfl, rfl⟩ | ⟨rfl, rfl⟩ | ⟨rfl, rfl⟩ | ⟨rfl, rfl⟩
  all_goals
    simp only [Mg.get] at ho
    repeat' (first
    | exact True.intro
    | refine VW.seq ?_
    | refine VW.block ?_
    | ((first | refine VW.skip ?_ | refine VW.exit ?_ | refine VW.reg ?_ | refine VW.regD ?_ | refine VW.ret ?_ | show goA _ _ _ _ _ _ _ _ _ _ | show goB _ _ _ _ _ _ _ _ _ | show goAD _ _ _ _ _ _ _ _ _ _ _ _ _ _ | show goBD _ _ _ _ _ _ _ _ _ _ _ | refine VC.p1 (h1 _ _) rfl rfl ?_); refine sx ?_)
    | refine VW.condT cx ?_
    | refine VW.condF cx ?_
    | refine VW.cond ex ?_ ?_
    | refine imp_nt ?_
    | refine imp_nf ?_
    | refine imp_dt (fun _ => ?_)
    | refine imp_df (fun _ => ?_)
    | (refine fun (_ : _ = true) => ?_)
    | (refine fun (_ : _ = false) => ?_)
    | refine vg_t ?_ ?_
    | refine vg_f ?_ ?_)
    exact .keep exR cxL hk
theorem w_rbeginR (h1 : ∀ z b, V P 52 [iv z] mt b (.bool (isF z)) mt) (M b : Nat) (hM : M < b) (z : Int) (hi : z < 0 ∨ 4 ≤ z) :
    VW P c41 (PRet (Ends [.tmp 4, .tmp 5] b (.tup [iv 0, iv 2]) mt)) (fun t => [PV.ptr M 15 0 0, iv z][t]?) mt b := by
  unfold c41
  obtain ⟨n1, n2, n3, n4, n5⟩ := below_ne hM
  have his : isF z = false := by simp [isF]; omega
  repeat' (first
    | exact True.intro
    | refine VW.seq ?_
    | refine VW.block ?_
    | ((first | refine VW.skip ?_ | refine VW.exit ?_ | refine VW.reg ?_ | refine VW.regD ?_ | refine VW.ret ?_ | show goA _ _ _ _ _ _ _ _ _ _ | show goB _ _ _ _ _ _ _ _ _ | show goAD _ _ _ _ _ _ _ _ _ _ _ _ _ _ | show goBD _ _ _ _ _ _ _ _ _ _ _ | refine VC.p1 (h1 _ _) rfl rfl ?_); refine sx ?_)
    | refine VW.condT cx ?_
    | refine VW.condF cx ?_
    | refine VW.cond ex ?_ ?_
    | refine imp_nt ?_
    | refine imp_nf ?_
    | refine imp_dt (fun _ => ?_)
    | refine imp_df (fun _ => ?_)
    | (refine fun (_ : _ = true) => ?_)
    | (refine fun (_ : _ = false) => ?_)
    | refine vg_t ?_ ?_
    | refine vg_f ?_ ?_)
  exact .v exR exR
end
end Go.Vx
/- Walks of the reference: Insert2. -/
set_option linter.unusedSimpArgs false
set_option linter.unusedVariables false
set_option maxRecDepth 4000
set_option maxHeartbeats 2000000
namespace Go.Vx
open Go Go.Proofs

def lessK (k x : Str) : Bool := Op.bytesLess x k
/-- How many are less. -/
def cntK (k : Str) (l : List Str) : Nat := (l.takeWhile (lessK k)).length
theorem cntK_le {k : Str} {l : List Str} : cntK k l ≤ l.length := (List.takeWhile_sublist _).length_le
def insF (l : List Str) (k : Str) : List Str := if l[cntK k l]? = some k then l else l.take (cntK k l) ++ k :: l.drop (cntK k l)
theorem cntK_step {k : Str} {l : List Str} {i : Nat} {x : Str} (hi : i ≤ cntK k l) (hx : l[i]? = some x) : (lessK k x = true → i + 1 ≤ cntK k l) ∧ (lessK k x = false → i = cntK k l) := by
  induction l generalizing i with
  | nil => simp at hx
  | cons y l ih =>
    unfold cntK at hi ⊢
    rw [List.takeWhile_cons] at hi ⊢
    cases i with
    | zero =>
      simp only [List.getElem?_cons_zero, Option.some.injEq] at hx
      subst hx
      refine ⟨fun h => ?_, fun h => ?_⟩ <;> simp [h]
    | succ i =>
      by_cases hy : lessK k y = true
      · simp only [hy, if_true, List.length_cons] at hi ⊢
        have := ih (i := i) (by unfold cntK; omega) (by simpa using hx)
        unfold cntK at this
        exact ⟨fun h => by have := this.1 h; omega, fun h => by have := this.2 h; omega⟩
      · simp [hy] at hi
theorem strs_len' {l : List Str} : (strs l).length = l.length := by simp [strs]
theorem strs_get' {l : List Str} {i : Nat} : (strs l)[i]? = (l[i]?).map fun s => [.str s] := by simp [strs]
section
variable {P : Program}
theorem strs_one {l : List Str} : ∀ y ∈ strs l, y.length = 1 := fun y hy => by
  obtain ⟨x, _, rfl⟩ := List.mem_map.1 hy
  rfl
def JI (l : List Str) (k : Str) (i : Nat) (e : Env) (m : Mem) (nx : Nat) : Prop := e 0 = some (.sl (strs l)) ∧ e 1 = some (.str k) ∧ e 5 = some (iv i)
theorem w_ins2 (l : List Str) (k : Str) (hl : l.length < 1000) (b : Nat) : VW P c53 (PRet (Ends [.tmp 4] b (.sl (strs (insF l k))) mt)) (fun t => [PV.sl (strs l), .str k][t]?) mt b := by
  unfold c53
  have hlen := strs_len' (l := l)
  repeat' (first
    | exact True.intro
    | refine VW.seq ?_
    | refine VW.block ?_
    | ((first | refine VW.skip ?_ | refine VW.exit ?_ | refine VW.reg ?_ | refine VW.regD ?_ | refine VW.ret ?_ | show goA _ _ _ _ _ _ _ _ _ _ | show goB _ _ _ _ _ _ _ _ _ | show goAD _ _ _ _ _ _ _ _ _ _ _ _ _ _ | show goBD _ _ _ _ _ _ _ _ _ _ _); refine sx ?_)
    | refine VW.condT cx ?_
    | refine VW.condF cx ?_
    | refine VW.cond ex ?_ ?_
    | refine imp_nt ?_
    | refine imp_nf ?_
    | refine imp_dt (fun _ => ?_)
    | refine imp_df (fun _ => ?_)
    | (refine fun (_ : _ = true) => ?_)
    | (refine fun (_ : _ = false) => ?_)
    | refine vg_t ?_ ?_
    | refine vg_f ?_ ?_)
  refine VW.forN (cntK k l) (JI l k) 0 (by omega) ⟨cy, cy, ey⟩ ?_
  rintro i e m nx hi ⟨e0, e1, e5⟩
  have hcl := cntK_le (k := k) (l := l)
  have h00 : (0 : Int) ≤ i := by omega
  have htn : (i : Int).toNat = i := Int.toNat_natCast i
  have hw := i64_nat (n := i) (by omega)
  by_cases hin : i < l.length
  · have hin' : (i : Int) < l.length := by omega
    obtain ⟨x, hx⟩ := get_of hin
    have hx' : (strs l)[i]? = some [.str x] := by rw [strs_get', hx]; rfl
    obtain ⟨s1, s2⟩ := cntK_step hi hx
    cases hls : Op.bytesLess x k
    · obtain rfl := s2 hls
      clear s1 s2
      by_cases hxk : x = k
      · have hins : insF l k = l := by unfold insF; rw [hx, hxk, if_pos rfl]
        subst hxk
        repeat' (first
    | exact True.intro
    | refine VW.seq ?_
    | refine VW.block ?_
    | ((first | refine VW.skip ?_ | refine VW.exit ?_ | refine VW.reg ?_ | refine VW.regD ?_ | refine VW.ret ?_ | show goA _ _ _ _ _ _ _ _ _ _ | show goB _ _ _ _ _ _ _ _ _ | show goAD _ _ _ _ _ _ _ _ _ _ _ _ _ _ | show goBD _ _ _ _ _ _ _ _ _ _ _); refine sx ?_)
    | refine VW.condT cx ?_
    | refine VW.condF cx ?_
    | refine VW.cond ex ?_ ?_
    | refine imp_nt ?_
    | refine imp_nf ?_
    | refine imp_dt (fun _ => ?_)
    | refine imp_df (fun _ => ?_)
    | (refine fun (_ : _ = true) => ?_)
    | (refine fun (_ : _ = false) => ?_)
    | refine vg_t ?_ ?_
    | refine vg_f ?_ ?_)
        exact .v exR exR
      · have hins : insF l k = l.take (cntK k l) ++ k :: l.drop (cntK k l) := by unfold insF; rw [hx, if_neg (by simpa using hxk)]
        generalize cntK k l = c at *
        have hins' : strs (insF l k) = (strs l).take c ++ [.str k] :: (strs l).drop c := by rw [hins]; simp [strs]
        have hAl : ((strs l).take c).length = c := by rw [List.length_take, hlen]; omega
        have hBl : ((strs l).drop c).length = l.length - c := by rw [List.length_drop, hlen]
        have hA1 : allLen 1 ((strs l).take c) := fun y hy => strs_one y (List.mem_of_mem_take hy)
        have hB1 : allLen 1 ((strs l).drop c) := fun y hy => strs_one y (List.mem_of_mem_drop hy)
        have b1 : c * 16 ≤ 140737488355328 := by omega
        have b2 : (c + 1) * 16 ≤ 140737488355328 := by omega
        have b3 : (c + 1 + (l.length - c)) * 16 ≤ 140737488355328 := by omega
        have htl : (strs l).take l.length = strs l := by rw [← hlen]; exact List.take_length
        have hone : (∀ x : List PV, x ∈ strs l → x.length = 1) = True := eq_true strs_one
        have hall : allLen 1 (strs l) := strs_one
        have hnx : ∀ q, nx ≤ nx + q := fun q => by omega
        have hAA : ((strs l).take c ++ [[PV.str k]]).length = c + 1 := by rw [List.length_append, hAl]; rfl
        have b6 : (c + (1 + (l.length - c))) * 16 ≤ 140737488355328 := by omega
        clear hins hw hx
        by_cases hc0 : c = 0
        · subst hc0
          simp only [List.take_zero, List.drop_zero, List.nil_append] at hins'
          clear hAl hBl hA1 hB1 hAA
          have b4 : (1 + l.length) * 16 ≤ 140737488355328 := by omega
          have b5 : (0 + 1 + l.length) * 16 ≤ 140737488355328 := by omega
          repeat' (first
    | exact True.intro
    | refine VW.seq ?_
    | refine VW.block ?_
    | ((first | refine VW.skip ?_ | refine VW.exit ?_ | refine VW.reg ?_ | refine VW.regD ?_ | refine VW.ret ?_ | show goA _ _ _ _ _ _ _ _ _ _ | show goB _ _ _ _ _ _ _ _ _ | show goAD _ _ _ _ _ _ _ _ _ _ _ _ _ _ | show goBD _ _ _ _ _ _ _ _ _ _ _); refine sx ?_)
    | refine VW.condT cx ?_
    | refine VW.condF cx ?_
    | refine VW.cond ex ?_ ?_
    | refine imp_nt ?_
    | refine imp_nf ?_
    | refine imp_dt (fun _ => ?_)
    | refine imp_df (fun _ => ?_)
    | (refine fun (_ : _ = true) => ?_)
    | (refine fun (_ : _ = false) => ?_)
    | refine vg_t ?_ ?_
    | refine vg_f ?_ ?_)
          all_goals exact .tmprE (ex) (ex) (by simp [hlen] <;> omega) (by simp)
        · repeat' (first
    | exact True.intro
    | refine VW.seq ?_
    | refine VW.block ?_
    | ((first | refine VW.skip ?_ | refine VW.exit ?_ | refine VW.reg ?_ | refine VW.regD ?_ | refine VW.ret ?_ | show goA _ _ _ _ _ _ _ _ _ _ | show goB _ _ _ _ _ _ _ _ _ | show goAD _ _ _ _ _ _ _ _ _ _ _ _ _ _ | show goBD _ _ _ _ _ _ _ _ _ _ _); refine sx ?_)
    | refine VW.condT cx ?_
    | refine VW.condF cx ?_
    | refine VW.cond ex ?_ ?_
    | refine imp_nt ?_
    | refine imp_nf ?_
    | refine imp_dt (fun _ => ?_)
    | refine imp_df (fun _ => ?_)
    | (refine fun (_ : _ = true) => ?_)
    | (refine fun (_ : _ = false) => ?_)
    | refine vg_t ?_ ?_
    | refine vg_f ?_ ?_)
          all_goals exact .tmprE (ex) (ex) (by simp [hlen] <;> omega) (by simp)
    · have hlt := s1 hls
      have hlt' : i < cntK k l := by omega
      clear s1 s2
      repeat' (first
    | exact True.intro
    | refine VW.seq ?_
    | refine VW.block ?_
    | ((first | refine VW.skip ?_ | refine VW.exit ?_ | refine VW.reg ?_ | refine VW.regD ?_ | refine VW.ret ?_ | show goA _ _ _ _ _ _ _ _ _ _ | show goB _ _ _ _ _ _ _ _ _ | show goAD _ _ _ _ _ _ _ _ _ _ _ _ _ _ | show goBD _ _ _ _ _ _ _ _ _ _ _); refine sx ?_)
    | refine VW.condT cx ?_
    | refine VW.condF cx ?_
    | refine VW.cond ex ?_ ?_
    | refine imp_nt ?_
    | refine imp_nf ?_
    | refine imp_dt (fun _ => ?_)
    | refine imp_df (fun _ => ?_)
    | (refine fun (_ : _ = true) => ?_)
    | (refine fun (_ : _ = false) => ?_)
    | refine vg_t ?_ ?_
    | refine vg_f ?_ ?_)
      exact ⟨cx, cx, cx⟩
  · have hin' : ¬ (i : Int) < l.length := by omega
    obtain rfl : i = l.length := by omega
    have hins : insF l k = l ++ [k] := by
      have hc : cntK k l = l.length := by omega
      unfold insF
      rw [hc]
      simp
    have hins' : strs (insF l k) = strs l ++ [[.str k]] := by rw [hins]; simp [strs]
    generalize cntK k l = c at *
    have htl : (strs l).take l.length = strs l := by rw [← hlen]; exact List.take_length
    have hdl : (strs l).drop l.length = [] := by rw [← hlen]; exact List.drop_length
    have hone : (∀ x : List PV, x ∈ strs l → x.length = 1) = True := eq_true strs_one
    have hall : allLen 1 (strs l) := strs_one
    have hnx : ∀ q, nx ≤ nx + q := fun q => by omega
    have b1 : l.length * 16 ≤ 140737488355328 := by omega
    have b2 : (l.length + 1) * 16 ≤ 140737488355328 := by omega
    have hAA : (strs l ++ [[PV.str k]]).length = l.length + 1 := by rw [List.length_append, hlen]; rfl
    clear hins hw hi hcl
    by_cases hc0 : l.length = 0
    · have hnil : strs l = [] := List.eq_nil_of_length_eq_zero (by rw [hlen]; exact hc0)
      repeat' (first
    | exact True.intro
    | refine VW.seq ?_
    | refine VW.block ?_
    | ((first | refine VW.skip ?_ | refine VW.exit ?_ | refine VW.reg ?_ | refine VW.regD ?_ | refine VW.ret ?_ | show goA _ _ _ _ _ _ _ _ _ _ | show goB _ _ _ _ _ _ _ _ _ | show goAD _ _ _ _ _ _ _ _ _ _ _ _ _ _ | show goBD _ _ _ _ _ _ _ _ _ _ _); refine sx ?_)
    | refine VW.condT cx ?_
    | refine VW.condF cx ?_
    | refine VW.cond ex ?_ ?_
    | refine imp_nt ?_
    | refine imp_nf ?_
    | refine imp_dt (fun _ => ?_)
    | refine imp_df (fun _ => ?_)
    | (refine fun (_ : _ = true) => ?_)
    | (refine fun (_ : _ = false) => ?_)
    | refine vg_t ?_ ?_
    | refine vg_f ?_ ?_)
      all_goals exact .tmprE (ex) (ex) (by simp [hlen] <;> omega) (by simp)
    · repeat' (first
    | exact True.intro
    | refine VW.seq ?_
    | refine VW.block ?_
    | ((first | refine VW.skip ?_ | refine VW.exit ?_ | refine VW.reg ?_ | refine VW.regD ?_ | refine VW.ret ?_ | show goA _ _ _ _ _ _ _ _ _ _ | show goB _ _ _ _ _ _ _ _ _ | show goAD _ _ _ _ _ _ _ _ _ _ _ _ _ _ | show goBD _ _ _ _ _ _ _ _ _ _ _); refine sx ?_)
    | refine VW.condT cx ?_
    | refine VW.condF cx ?_
    | refine VW.cond ex ?_ ?_
    | refine imp_nt ?_
    | refine imp_nf ?_
    | refine imp_dt (fun _ => ?_)
    | refine imp_df (fun _ => ?_)
    | (refine fun (_ : _ = true) => ?_)
    | (refine fun (_ : _ = false) => ?_)
    | refine vg_t ?_ ?_
    | refine vg_f ?_ ?_)
      all_goals exact .tmprE (ex) (ex) (by simp [hlen] <;> omega) (by simp)
end
end Go.Vx
/- Walks of the reference's manager: Oldest. -/
set_option linter.unusedSimpArgs false
set_option linter.unusedVariables false
set_option maxRecDepth 4000
set_option maxHeartbeats 2000000
namespace Go.Vx
open Go Go.Proofs

theorem minL_app {l : List Int} {x : Int} : minL (l ++ [x]) = if l = [] then x else min (minL l) x := by
  cases l with
  | nil => rfl
  | cons y l => simp [minL]
theorem opens_step (g : Mg) {i : Nat} (hi : i < 4) : g.opens (i + 1) = g.opens i ++ if (g.get i).o then [(g.get i).s] else [] := by
  have h : g.ses[i]? = some (g.get i) := by
    have : i = 0 ∨ i = 1 ∨ i = 2 ∨ i = 3 := by omega
    rcases this with rfl | rfl | rfl | rfl <;> rfl
  unfold Mg.opens
  rw [List.take_add_one, h]
  cases hso : (g.get i).o <;> simp [List.filter_cons, hso]
def someL (l : List Int) : Bool := !l.isEmpty
section
variable {P : Program}
def JR (g : Mg) (M b : Nat) (i : Nat) (e : Env) (m : Mem) (nx : Nat) : Prop :=
  e 0 = some (.ptr M 15 0 0) ∧ e 6 = some (iv i) ∧ e 4 = some (iv (minL (g.opens i))) ∧ e 5 = some (.bool (someL (g.opens i))) ∧ m M = some g.rbox ∧ b ≤ nx
theorem w_rold (h1 : ∀ M b, M < b → ∀ (g : Mg) z i, Ix z i → Mg.ok g b → V P 31 [.ptr M 15 0 0, iv z] (ofL [(M, g.rbox)]) b (if (g.get i).o then .tup [iv (g.get i).s, .bool true] else .tup [iv 0, .bool false]) (ofL [(M, g.rbox)]))
    (M b : Nat) (hM : M < b) (g : Mg) (hg : g.ok b) (m : Mem) (hm : m M = some g.rbox) :
    VW P c36 (PRet (Ends [.tmp 2, .tmp 3] b (oldF (g.opens 4)) (ofL [(M, g.rbox)]))) (fun t => [PV.ptr M 15 0 0][t]?) m b := by
  unfold c36
  obtain ⟨n1, n2, n3, n4, n5⟩ := below_ne hM
  repeat' (first
    | exact True.intro
    | refine VW.seq ?_
    | refine VW.block ?_
    | ((first | refine VW.skip ?_ | refine VW.exit ?_ | refine VW.reg ?_ | refine VW.regD ?_ | refine VW.ret ?_ | show goA _ _ _ _ _ _ _ _ _ _ | show goB _ _ _ _ _ _ _ _ _ | show goAD _ _ _ _ _ _ _ _ _ _ _ _ _ _ | show goBD _ _ _ _ _ _ _ _ _ _ _); refine sx ?_)
    | refine VW.condT cx ?_
    | refine VW.condF cx ?_
    | refine VW.cond ex ?_ ?_
    | refine imp_nt ?_
    | refine imp_nf ?_
    | refine imp_dt (fun _ => ?_)
    | refine imp_df (fun _ => ?_)
    | (refine fun (_ : _ = true) => ?_)
    | (refine fun (_ : _ = false) => ?_)
    | refine vg_t ?_ ?_
    | refine vg_f ?_ ?_)
  refine VW.forN 4 (JR g M b) 0 (by omega) ⟨cy, ey, ey, ey, hm, by omega⟩ ?_
  clear hm m
  rintro i e m nx hi ⟨e0, e6, e4, e5, hm, hbn⟩
  refine VW.below hm fun hlM => ?_
  obtain ⟨n1', n2', n3', n4', n5'⟩ := below_ne hlM
  by_cases hi4 : i < 4
  · have hi4' : (i : Int) < 4 := by omega
    have hw := i64_nat (n := i) (by omega)
    have hst := opens_step g hi4
    repeat' (first
    | exact True.intro
    | refine VW.seq ?_
    | refine VW.block ?_
    | ((first | refine VW.skip ?_ | refine VW.exit ?_ | refine VW.reg ?_ | refine VW.regD ?_ | refine VW.ret ?_ | show goA _ _ _ _ _ _ _ _ _ _ | show goB _ _ _ _ _ _ _ _ _ | show goAD _ _ _ _ _ _ _ _ _ _ _ _ _ _ | show goBD _ _ _ _ _ _ _ _ _ _ _); refine sx ?_)
    | refine VW.condT cx ?_
    | refine VW.condF cx ?_
    | refine VW.cond ex ?_ ?_
    | refine imp_nt ?_
    | refine imp_nf ?_
    | refine imp_dt (fun _ => ?_)
    | refine imp_df (fun _ => ?_)
    | (refine fun (_ : _ = true) => ?_)
    | (refine fun (_ : _ = false) => ?_)
    | refine vg_t ?_ ?_
    | refine vg_f ?_ ?_)
    refine VC.same (qs := [.ptr M 15 0 0, iv i]) (l := [(M, g.rbox)]) ⟨.inl ⟨rfl, by simp -implicitDefEqProofs only [ltS, lt8, List.all_cons, List.all_nil, eng, reduceIte, reduceCtorEq, Nat.reduceAdd, Nat.reduceMul, Nat.reduceSub, Nat.reduceEqDiff, Nat.reduceLeDiff, Nat.reduceLT, Nat.reduceDiv, Nat.reduceMod, Int.reduceLE, Int.reduceLT, Int.reduceEq, Int.reduceNeg, Int.reduceAdd, Int.reduceSub, Int.reduceToNat, Nat.reducePow, Int.ofNat_zero, Int.natCast_one, Int.cast_ofNat_Int, *]⟩, .inl ⟨rfl, rfl⟩, trivial⟩ (by simp only [List.mem_cons, List.not_mem_nil, or_false, forall_eq, forall_eq_or_imp]; exact ⟨hm, by omega, by simpa using Mg.rblt (k := 0) (hg.mono (by omega))⟩) (h1 M _ (by omega) g i i ⟨rfl, hi4⟩ (hg.mono (by omega))) ?_
    cases ho : (g.get i).o
    · rw [ho] at hst
      simp only [Bool.false_eq_true, if_false, List.append_nil] at hst
      refine sy ?_
      repeat' (first
    | exact True.intro
    | refine VW.seq ?_
    | refine VW.block ?_
    | ((first | refine VW.skip ?_ | refine VW.exit ?_ | refine VW.reg ?_ | refine VW.regD ?_ | refine VW.ret ?_ | show goA _ _ _ _ _ _ _ _ _ _ | show goB _ _ _ _ _ _ _ _ _ | show goAD _ _ _ _ _ _ _ _ _ _ _ _ _ _ | show goBD _ _ _ _ _ _ _ _ _ _ _); refine sx ?_)
    | refine VW.condT cx ?_
    | refine VW.condF cx ?_
    | refine VW.cond ex ?_ ?_
    | refine imp_nt ?_
    | refine imp_nf ?_
    | refine imp_dt (fun _ => ?_)
    | refine imp_df (fun _ => ?_)
    | (refine fun (_ : _ = true) => ?_)
    | (refine fun (_ : _ = false) => ?_)
    | refine vg_t ?_ ?_
    | refine vg_f ?_ ?_)
      exact ⟨cx, cx, cx, cx, cx, by omega⟩
    · rw [ho] at hst
      simp only [if_true] at hst
      have hms := minL_app (l := g.opens i) (x := (g.get i).s)
      have hso : someL (g.opens (i + 1)) = true := by rw [hst]; simp [someL]
      cases hse : someL (g.opens i)
      · have hnil : g.opens i = [] := by simpa [someL] using hse
        rw [if_pos hnil, ← hst] at hms
        clear hnil hst
        simp -implicitDefEqProofs only [eng, reduceIte, reduceCtorEq, Nat.reduceAdd, Nat.reduceMul, Nat.reduceSub, Nat.reduceEqDiff, Nat.reduceLeDiff, Nat.reduceLT, Nat.reduceDiv, Nat.reduceMod, Int.reduceLE, Int.reduceLT, Int.reduceEq, Int.reduceNeg, Int.reduceAdd, Int.reduceSub, Int.reduceToNat, Nat.reducePow, Int.ofNat_zero, Int.natCast_one, Int.cast_ofNat_Int, if_true]
        repeat' (first
    | exact True.intro
    | refine VW.seq ?_
    | refine VW.block ?_
    | ((first | refine VW.skip ?_ | refine VW.exit ?_ | refine VW.reg ?_ | refine VW.regD ?_ | refine VW.ret ?_ | show goA _ _ _ _ _ _ _ _ _ _ | show goB _ _ _ _ _ _ _ _ _ | show goAD _ _ _ _ _ _ _ _ _ _ _ _ _ _ | show goBD _ _ _ _ _ _ _ _ _ _ _); refine sx ?_)
    | refine VW.condT cx ?_
    | refine VW.condF cx ?_
    | refine VW.cond ex ?_ ?_
    | refine imp_nt ?_
    | refine imp_nf ?_
    | refine imp_dt (fun _ => ?_)
    | refine imp_df (fun _ => ?_)
    | (refine fun (_ : _ = true) => ?_)
    | (refine fun (_ : _ = false) => ?_)
    | refine vg_t ?_ ?_
    | refine vg_f ?_ ?_)
        exact ⟨cx, cx, cx, cx, cx, by omega⟩
      · have hnil : g.opens i ≠ [] := by intro h; rw [h] at hse; cases hse
        rw [if_neg hnil, ← hst] at hms
        clear hnil hst
        by_cases hlt : (g.get i).s < minL (g.opens i)
        · have hms' : minL (g.opens (i + 1)) = (g.get i).s := by omega
          clear hms
          simp -implicitDefEqProofs only [eng, reduceIte, reduceCtorEq, Nat.reduceAdd, Nat.reduceMul, Nat.reduceSub, Nat.reduceEqDiff, Nat.reduceLeDiff, Nat.reduceLT, Nat.reduceDiv, Nat.reduceMod, Int.reduceLE, Int.reduceLT, Int.reduceEq, Int.reduceNeg, Int.reduceAdd, Int.reduceSub, Int.reduceToNat, Nat.reducePow, Int.ofNat_zero, Int.natCast_one, Int.cast_ofNat_Int, if_true]
          repeat' (first
    | exact True.intro
    | refine VW.seq ?_
    | refine VW.block ?_
    | ((first | refine VW.skip ?_ | refine VW.exit ?_ | refine VW.reg ?_ | refine VW.regD ?_ | refine VW.ret ?_ | show goA _ _ _ _ _ _ _ _ _ _ | show goB _ _ _ _ _ _ _ _ _ | show goAD _ _ _ _ _ _ _ _ _ _ _ _ _ _ | show goBD _ _ _ _ _ _ _ _ _ _ _); refine sx ?_)
    | refine VW.condT cx ?_
    | refine VW.condF cx ?_
    | refine VW.cond ex ?_ ?_
    | refine imp_nt ?_
    | refine imp_nf ?_
    | refine imp_dt (fun _ => ?_)
    | refine imp_df (fun _ => ?_)
    | (refine fun (_ : _ = true) => ?_)
    | (refine fun (_ : _ = false) => ?_)
    | refine vg_t ?_ ?_
    | refine vg_f ?_ ?_)
          exact ⟨cx, cx, cx, cx, cx, by omega⟩
        · have hms' : minL (g.opens (i + 1)) = minL (g.opens i) := by omega
          clear hms
          simp -implicitDefEqProofs only [eng, reduceIte, reduceCtorEq, Nat.reduceAdd, Nat.reduceMul, Nat.reduceSub, Nat.reduceEqDiff, Nat.reduceLeDiff, Nat.reduceLT, Nat.reduceDiv, Nat.reduceMod, Int.reduceLE, Int.reduceLT, Int.reduceEq, Int.reduceNeg, Int.reduceAdd, Int.reduceSub, Int.reduceToNat, Nat.reducePow, Int.ofNat_zero, Int.natCast_one, Int.cast_ofNat_Int, if_true]
          repeat' (first
    | exact True.intro
    | refine VW.seq ?_
    | refine VW.block ?_
    | ((first | refine VW.skip ?_ | refine VW.exit ?_ | refine VW.reg ?_ | refine VW.regD ?_ | refine VW.ret ?_ | show goA _ _ _ _ _ _ _ _ _ _ | show goB _ _ _ _ _ _ _ _ _ | show goAD _ _ _ _ _ _ _ _ _ _ _ _ _ _ | show goBD _ _ _ _ _ _ _ _ _ _ _); refine sx ?_)
    | refine VW.condT cx ?_
    | refine VW.condF cx ?_
    | refine VW.cond ex ?_ ?_
    | refine imp_nt ?_
    | refine imp_nf ?_
    | refine imp_dt (fun _ => ?_)
    | refine imp_df (fun _ => ?_)
    | (refine fun (_ : _ = true) => ?_)
    | (refine fun (_ : _ = false) => ?_)
    | refine vg_t ?_ ?_
    | refine vg_f ?_ ?_)
          exact ⟨cx, cx, cx, cx, cx, by omega⟩
  · obtain rfl : i = 4 := by omega
    have hold : oldF (g.opens 4) = .tup [iv (minL (g.opens 4)), .bool (someL (g.opens 4))] := by
      unfold oldF someL
      cases g.opens 4 <;> simp [minL]
    replace e6 : e 6 = some (iv 4) := e6
    rw [hold]
    have hk := rone_keep hM hm hg
    repeat' (first
    | exact True.intro
    | refine VW.seq ?_
    | refine VW.block ?_
    | ((first | refine VW.skip ?_ | refine VW.exit ?_ | refine VW.reg ?_ | refine VW.regD ?_ | refine VW.ret ?_ | show goA _ _ _ _ _ _ _ _ _ _ | show goB _ _ _ _ _ _ _ _ _ | show goAD _ _ _ _ _ _ _ _ _ _ _ _ _ _ | show goBD _ _ _ _ _ _ _ _ _ _ _); refine sx ?_)
    | refine VW.condT cx ?_
    | refine VW.condF cx ?_
    | refine VW.cond ex ?_ ?_
    | refine imp_nt ?_
    | refine imp_nf ?_
    | refine imp_dt (fun _ => ?_)
    | refine imp_df (fun _ => ?_)
    | (refine fun (_ : _ = true) => ?_)
    | (refine fun (_ : _ = false) => ?_)
    | refine vg_t ?_ ?_
    | refine vg_f ?_ ?_)
    exact .keep exR cxL hk
end
end Go.Vx
