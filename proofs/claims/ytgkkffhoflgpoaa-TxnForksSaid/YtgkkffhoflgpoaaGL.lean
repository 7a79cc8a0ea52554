/- Walks of the manager's keys in order: maps.Keys, slices.AppendSeq over it. -/
import Derived.Test.YtgkkffhoflgpoaaGK
import Derived.Test.YtgkkffhoflgpoaaGD
import Derived.Test.YtgkkffhoflgpoaaL
set_option linter.unusedSimpArgs false
set_option linter.unusedVariables false
set_option maxRecDepth 4000
set_option maxHeartbeats 2000000
namespace Go.Vx
open Go Go.Proofs

/-- The keys drawn so far. -/
def accF (ks : List Str) (seen : List Nat) : List Str := seen.filterMap fun j => ks[j]?
theorem accF_app {ks : List Str} {seen : List Nat} {j : Nat} {x : Str} (h : ks[j]? = some x) : accF ks (seen ++ [j]) = accF ks seen ++ [x] := by simp [accF, h]
theorem range_all {ks : List Str} : (List.range ks.length).filterMap (fun j => ks[j]?) = ks := by
  induction ks with
  | nil => rfl
  | cons x ks ih =>
    rw [List.length_cons, List.range_succ_eq_map, List.filterMap_cons]
    simp only [List.getElem?_cons_zero, List.filterMap_map]
    congr 1
theorem accF_perm {ks : List Str} {seen : List Nat} (hn : seen.Nodup) (hl : ∀ j ∈ seen, j < ks.length) (ha : ∀ j, j < ks.length → j ∈ seen) : (accF ks seen).Perm ks := by
  have hp : seen.Perm (List.range ks.length) := (List.perm_ext_iff_of_nodup hn List.nodup_range).2 fun j => ⟨fun h => List.mem_range.2 (hl j h), fun h => ha j (List.mem_range.1 h)⟩
  have := hp.filterMap (fun j => ks[j]?)
  rw [range_all] at this
  exact this
theorem accF_len {ks : List Str} {seen : List Nat} (hl : ∀ j ∈ seen, j < ks.length) : (accF ks seen).length = seen.length := by
  induction seen with
  | nil => rfl
  | cons j seen ih =>
    have h1 : ks[j]? = some (ks[j]'(hl j (by simp))) := by simp
    have := ih fun i hi => hl i (by simp [hi])
    simp only [accF, List.filterMap_cons, h1, List.length_cons] at this ⊢
    omega

section
variable {P : Program}
theorem w_mkeys (K b : Nat) (hK : K < b) : VW P c48 (PRet (Ends [.tmp 2] b (.fn 56 [.ptr b 1 0 0]) (ofL [(b, .box [.map K] 56)]))) (fun t => [PV.map K][t]?) mt b := by
  unfold c48
  have hlt : Obj.lt (b + 8) (.box [.map K] 56) = true := by simp [Obj.lt, PV.lt, lt1]; omega
  repeat' (first
    | exact True.intro
    | refine VW.seq ?_
    | refine VW.block ?_
    | ((first | refine VW.skip ?_ | refine VW.exit ?_ | refine VW.reg ?_ | refine VW.regD ?_ | refine VW.ret ?_ | show goA _ _ _ _ _ _ _ _ _ _ | show goB _ _ _ _ _ _ _ _ _ | show goAD _ _ _ _ _ _ _ _ _ _ _ _ _ _ | show goBD _ _ _ _ _ _ _ _ _ _ _); refine sx ?_)
    | refine VW.condT cx ?_
    | refine VW.condF cx ?_
    | refine VW.cond ex ?_ ?_
    | refine imp_nt ?_
    | refine imp_nf ?_
    | refine imp_dt (fun _ => ?_)
    | refine imp_df (fun _ => ?_)
    | (refine fun (_ : _ = true) => ?_)
    | (refine fun (_ : _ = false) => ?_)
    | refine vg_t ?_ ?_
    | refine vg_f ?_ ?_)
  exact .ol [b] (by simp -implicitDefEqProofs only [eng, reduceIte, reduceCtorEq, Nat.reduceAdd, Nat.reduceMul, Nat.reduceSub, Nat.reduceEqDiff, Nat.reduceLeDiff, Nat.reduceLT, Nat.reduceDiv, Nat.reduceMod, Int.reduceLE, Int.reduceLT, Int.reduceEq, Int.reduceNeg, Int.reduceAdd, Int.reduceSub, Int.reduceToNat, Nat.reducePow, Int.ofNat_zero, Int.natCast_one, Int.cast_ofNat_Int, resF, resL, RX.ev, tup1, purT] <;> rfl) (by simp -implicitDefEqProofs only [renS, List.map_cons, List.map_nil, sg_0, sg_1, sg_2, eng, reduceIte, reduceCtorEq, Nat.reduceAdd, Nat.reduceMul, Nat.reduceSub, Nat.reduceEqDiff, Nat.reduceLeDiff, Nat.reduceLT, Nat.reduceDiv, Nat.reduceMod, Int.reduceLE, Int.reduceLT, Int.reduceEq, Int.reduceNeg, Int.reduceAdd, Int.reduceSub, Int.reduceToNat, Nat.reducePow, Int.ofNat_zero, Int.natCast_one, Int.cast_ofNat_Int]) (cxL) (by simp) (by simp) (by
    simp only [List.mem_cons, List.not_mem_nil, or_false, forall_eq, forall_eq_or_imp]
    refine ⟨?_, ?_, ?_, ?_, ?_⟩
    all_goals first | (simp only [List.length_cons, List.length_nil]; omega) | (simp -implicitDefEqProofs only [renS, List.map_cons, List.map_nil, sg_0, sg_1, sg_2, ltS, lt8, List.all_cons, List.all_nil, eng, reduceIte, reduceCtorEq, Nat.reduceAdd, Nat.reduceMul, Nat.reduceSub, Nat.reduceEqDiff, Nat.reduceLeDiff, Nat.reduceLT, Nat.reduceDiv, Nat.reduceMod, Int.reduceLE, Int.reduceLT, Int.reduceEq, Int.reduceNeg, Int.reduceAdd, Int.reduceSub, Int.reduceToNat, Nat.reducePow, Int.ofNat_zero, Int.natCast_one, Int.cast_ofNat_Int, sg_lt hK, *]; done) | skip)

/-- What the loop's body of AppendSeq does: the first key, and each further one. -/
structure Yld (P : Program) (k : LoopKey) (L C : Nat) : Prop where
  one : ∀ b x, L < b → C < b → VX P (.y L) [.str x] (ofL [(L, .loop k .ready none), (C, .box [.nsl] 23)]) b (Just (.bool true) (ofL [(L, .loop k .ready none), (C, .box [.osl b 1] 23), (b, .row 1 (strs [x]) 9 false)]))
  more : ∀ b x D acc, L < b → C < b → D < b → D ≠ C → D ≠ L → acc.length < 1000 → VX P (.y L) [.str x] (ofL [(L, .loop k .ready none), (C, .box [.osl D acc.length] 23), (D, .row 1 (strs acc) 9 false)]) b
    (Just (.bool true) (ofL [(L, .loop k .ready none), (C, .box [.osl b (acc.length + 1)] 23), (b, .row 1 (strs (acc ++ [x])) 9 false)]))

def xaApp : XCode := .reg [⟨(some 5), .mv (.t 7), none, 0, true, false⟩]
def xbApp : XCode := .block 1 (.reg [⟨(some 8), .load1 (.t 2), none, 0, true, false⟩,
            ⟨(some 9), .mv (.t 5), none, 0, true, false⟩,
            ⟨(some 10), .mkrow 9 1 1 [(.str [])] [(0, (.t 9))], none, 0, true, false⟩,
            ⟨(some 11), .append 9 1 16 (.t 8) (.t 10), none, 0, true, false⟩,
            ⟨none, .store 1 (.t 2) (.t 11), none, 0, true, false⟩])

theorem yld_app (hmix : P.follows .mixedOrders = true) {k : LoopKey} {L C : Nat} (hCL : C ≠ L) (htop : k.top ≤ L) (hP : k.P = P) (h2 : k.e 2 = some (.ptr C 1 0 0)) (hps : k.ps = [7]) (hxa : k.xa = xaApp) (hxb : k.xb = xbApp) : Yld P k L C := by
  constructor
  · intro b x hL hC
    obtain ⟨c1, c2, c3, c4, c5⟩ := below_ne hC
    obtain ⟨l1, l2, l3, l4, l5⟩ := below_ne hL
    have x1 : (C = L) = False := by simp [hCL]
    have x2 : (L = C) = False := by simp [Ne.symm hCL]
    have hlL : Obj.lt (b + 8) (.loop k .ready none) = true := by simp [Obj.lt]; omega
    have hfL : Obj.fix b (.loop k .ready none) = true := by simp [Obj.fix]; omega
    obtain ⟨o1, o2⟩ := ofL_2 (o := .loop k .ready none) (p := .box [.nsl] 23) (Ne.symm hCL)
    refine VL.of hmix hP o1 (by rw [hps]; rfl) (by rw [hxa]; rfl) (by rw [hxb]; rfl) ?_
    rw [hxa, hps]
    generalize ofL [(L, .loop k .ready none), (C, .box [.nsl] 23)] = m at *
    unfold xaApp
    have he7 : putL k.e [7] [.str x] = upd k.e 7 (some (.str x)) := rfl
    have hs1 : strs [x] = [[.str x]] := rfl
    rw [he7]
    repeat' (first
    | exact True.intro
    | refine VW.seq ?_
    | refine VW.block ?_
    | ((first | refine VW.skip ?_ | refine VW.exit ?_ | refine VW.reg ?_ | refine VW.regD ?_ | refine VW.ret ?_ | show goA _ _ _ _ _ _ _ _ _ _ | show goB _ _ _ _ _ _ _ _ _ | show goAD _ _ _ _ _ _ _ _ _ _ _ _ _ _ | show goBD _ _ _ _ _ _ _ _ _ _ _); refine sx ?_)
    | refine VW.condT cx ?_
    | refine VW.condF cx ?_
    | refine VW.cond ex ?_ ?_
    | refine imp_nt ?_
    | refine imp_nf ?_
    | refine imp_dt (fun _ => ?_)
    | refine imp_df (fun _ => ?_)
    | (refine fun (_ : _ = true) => ?_)
    | (refine fun (_ : _ = false) => ?_)
    | refine vg_t ?_ ?_
    | refine vg_f ?_ ?_)
    refine ⟨none, cx, ?_⟩
    rw [hxb]
    unfold xbApp
    repeat' (first
    | exact True.intro
    | refine VW.seq ?_
    | refine VW.block ?_
    | ((first | refine VW.skip ?_ | refine VW.exit ?_ | refine VW.reg ?_ | refine VW.regD ?_ | refine VW.ret ?_ | show goA _ _ _ _ _ _ _ _ _ _ | show goB _ _ _ _ _ _ _ _ _ | show goAD _ _ _ _ _ _ _ _ _ _ _ _ _ _ | show goBD _ _ _ _ _ _ _ _ _ _ _); refine sx ?_)
    | refine VW.condT cx ?_
    | refine VW.condF cx ?_
    | refine VW.cond ex ?_ ?_
    | refine imp_nt ?_
    | refine imp_nf ?_
    | refine imp_dt (fun _ => ?_)
    | refine imp_df (fun _ => ?_)
    | (refine fun (_ : _ = true) => ?_)
    | (refine fun (_ : _ = false) => ?_)
    | refine vg_t ?_ ?_
    | refine vg_f ?_ ?_)
    refine ⟨none, cx, _, _, ⟨rfl, rfl⟩, ?_⟩
    have hsL : sg b [b + 32] L = L := sg_lt hL
    have hsC : sg b [b + 32] C = C := sg_lt hC
    refine .ol [b + 32] (by simp -implicitDefEqProofs only [renS, List.map_cons, List.map_nil, sg_0, sg_1, sg_2, eng, reduceIte, reduceCtorEq, Nat.reduceAdd, Nat.reduceMul, Nat.reduceSub, Nat.reduceEqDiff, Nat.reduceLeDiff, Nat.reduceLT, Nat.reduceDiv, Nat.reduceMod, Int.reduceLE, Int.reduceLT, Int.reduceEq, Int.reduceNeg, Int.reduceAdd, Int.reduceSub, Int.reduceToNat, Nat.reducePow, Int.ofNat_zero, Int.natCast_one, Int.cast_ofNat_Int]) (cxL) (by simp) (by simp) ?_
    simp only [List.mem_cons, List.not_mem_nil, or_false, forall_eq, forall_eq_or_imp]
    refine ⟨⟨by simp -implicitDefEqProofs only [renS, List.map_cons, List.map_nil, sg_0, sg_1, sg_2, eng, reduceIte, reduceCtorEq, Nat.reduceAdd, Nat.reduceMul, Nat.reduceSub, Nat.reduceEqDiff, Nat.reduceLeDiff, Nat.reduceLT, Nat.reduceDiv, Nat.reduceMod, Int.reduceLE, Int.reduceLT, Int.reduceEq, Int.reduceNeg, Int.reduceAdd, Int.reduceSub, Int.reduceToNat, Nat.reducePow, Int.ofNat_zero, Int.natCast_one, Int.cast_ofNat_Int, *], ?_, ?_, ?_, ?_⟩, ⟨by simp -implicitDefEqProofs only [renS, List.map_cons, List.map_nil, sg_0, sg_1, sg_2, eng, reduceIte, reduceCtorEq, Nat.reduceAdd, Nat.reduceMul, Nat.reduceSub, Nat.reduceEqDiff, Nat.reduceLeDiff, Nat.reduceLT, Nat.reduceDiv, Nat.reduceMod, Int.reduceLE, Int.reduceLT, Int.reduceEq, Int.reduceNeg, Int.reduceAdd, Int.reduceSub, Int.reduceToNat, Nat.reducePow, Int.ofNat_zero, Int.natCast_one, Int.cast_ofNat_Int, *], ?_, ?_, ?_, ?_⟩, by simp -implicitDefEqProofs only [renS, List.map_cons, List.map_nil, sg_0, sg_1, sg_2, eng, reduceIte, reduceCtorEq, Nat.reduceAdd, Nat.reduceMul, Nat.reduceSub, Nat.reduceEqDiff, Nat.reduceLeDiff, Nat.reduceLT, Nat.reduceDiv, Nat.reduceMod, Int.reduceLE, Int.reduceLT, Int.reduceEq, Int.reduceNeg, Int.reduceAdd, Int.reduceSub, Int.reduceToNat, Nat.reducePow, Int.ofNat_zero, Int.natCast_one, Int.cast_ofNat_Int, *], ?_, ?_, ?_, ?_⟩
    all_goals first | (simp only [List.length_cons, List.length_nil]; omega) | (simp -implicitDefEqProofs only [renS, List.map_cons, List.map_nil, sg_0, sg_1, sg_2, ltS, lt8, List.all_cons, List.all_nil, eng, reduceIte, reduceCtorEq, Nat.reduceAdd, Nat.reduceMul, Nat.reduceSub, Nat.reduceEqDiff, Nat.reduceLeDiff, Nat.reduceLT, Nat.reduceDiv, Nat.reduceMod, Int.reduceLE, Int.reduceLT, Int.reduceEq, Int.reduceNeg, Int.reduceAdd, Int.reduceSub, Int.reduceToNat, Nat.reducePow, Int.ofNat_zero, Int.natCast_one, Int.cast_ofNat_Int, *]; done) | skip
  · intro b x D acc hL hC hD hDC hDL hal
    obtain ⟨c1, c2, c3, c4, c5⟩ := below_ne hC
    obtain ⟨l1, l2, l3, l4, l5⟩ := below_ne hL
    obtain ⟨d1, d2, d3, d4, d5⟩ := below_ne hD
    have x1 : (C = L) = False := by simp [hCL]
    have x2 : (L = C) = False := by simp [Ne.symm hCL]
    have x3 : (D = C) = False := by simp [hDC]
    have x4 : (C = D) = False := by simp [Ne.symm hDC]
    have x5 : (D = L) = False := by simp [hDL]
    have x6 : (L = D) = False := by simp [Ne.symm hDL]
    have hlL : Obj.lt (b + 8) (.loop k .ready none) = true := by simp [Obj.lt]; omega
    have hfL : Obj.fix b (.loop k .ready none) = true := by simp [Obj.fix]; omega
    obtain ⟨o1, o2, o3⟩ := ofL_3 (o := .loop k .ready none) (p := .box [.osl D acc.length] 23) (q := .row 1 (strs acc) 9 false) (Ne.symm hCL) (Ne.symm hDL) (Ne.symm hDC)
    refine VL.of hmix hP o1 (by rw [hps]; rfl) (by rw [hxa]; rfl) (by rw [hxb]; rfl) ?_
    rw [hxa, hps]
    generalize ofL [(L, .loop k .ready none), (C, .box [.osl D acc.length] 23), (D, .row 1 (strs acc) 9 false)] = m at *
    unfold xaApp
    have he7 : putL k.e [7] [.str x] = upd k.e 7 (some (.str x)) := rfl
    have hs1 : strs (acc ++ [x]) = strs acc ++ [[.str x]] := by simp [strs]
    have hlen := strs_len' (l := acc)
    have b1 : (acc.length + 1) * 16 ≤ 140737488355328 := by omega
    rw [he7]
    repeat' (first
    | exact True.intro
    | refine VW.seq ?_
    | refine VW.block ?_
    | ((first | refine VW.skip ?_ | refine VW.exit ?_ | refine VW.reg ?_ | refine VW.regD ?_ | refine VW.ret ?_ | show goA _ _ _ _ _ _ _ _ _ _ | show goB _ _ _ _ _ _ _ _ _ | show goAD _ _ _ _ _ _ _ _ _ _ _ _ _ _ | show goBD _ _ _ _ _ _ _ _ _ _ _); refine sx ?_)
    | refine VW.condT cx ?_
    | refine VW.condF cx ?_
    | refine VW.cond ex ?_ ?_
    | refine imp_nt ?_
    | refine imp_nf ?_
    | refine imp_dt (fun _ => ?_)
    | refine imp_df (fun _ => ?_)
    | (refine fun (_ : _ = true) => ?_)
    | (refine fun (_ : _ = false) => ?_)
    | refine vg_t ?_ ?_
    | refine vg_f ?_ ?_)
    refine ⟨none, cx, ?_⟩
    rw [hxb]
    unfold xbApp
    repeat' (first
    | exact True.intro
    | refine VW.seq ?_
    | refine VW.block ?_
    | ((first | refine VW.skip ?_ | refine VW.exit ?_ | refine VW.reg ?_ | refine VW.regD ?_ | refine VW.ret ?_ | show goA _ _ _ _ _ _ _ _ _ _ | show goB _ _ _ _ _ _ _ _ _ | show goAD _ _ _ _ _ _ _ _ _ _ _ _ _ _ | show goBD _ _ _ _ _ _ _ _ _ _ _); refine sx ?_)
    | refine VW.condT cx ?_
    | refine VW.condF cx ?_
    | refine VW.cond ex ?_ ?_
    | refine imp_nt ?_
    | refine imp_nf ?_
    | refine imp_dt (fun _ => ?_)
    | refine imp_df (fun _ => ?_)
    | (refine fun (_ : _ = true) => ?_)
    | (refine fun (_ : _ = false) => ?_)
    | refine vg_t ?_ ?_
    | refine vg_f ?_ ?_)
    refine ⟨none, cx, _, _, ⟨rfl, rfl⟩, ?_⟩
    have hsL : sg b [b + 32] L = L := sg_lt hL
    have hsC : sg b [b + 32] C = C := sg_lt hC
    refine .ol [b + 32] (by simp -implicitDefEqProofs only [renS, List.map_cons, List.map_nil, sg_0, sg_1, sg_2, eng, reduceIte, reduceCtorEq, Nat.reduceAdd, Nat.reduceMul, Nat.reduceSub, Nat.reduceEqDiff, Nat.reduceLeDiff, Nat.reduceLT, Nat.reduceDiv, Nat.reduceMod, Int.reduceLE, Int.reduceLT, Int.reduceEq, Int.reduceNeg, Int.reduceAdd, Int.reduceSub, Int.reduceToNat, Nat.reducePow, Int.ofNat_zero, Int.natCast_one, Int.cast_ofNat_Int]) (cxL) (by simp) (by simp) ?_
    simp only [List.mem_cons, List.not_mem_nil, or_false, forall_eq, forall_eq_or_imp]
    refine ⟨⟨by simp -implicitDefEqProofs only [renS, List.map_cons, List.map_nil, sg_0, sg_1, sg_2, eng, reduceIte, reduceCtorEq, Nat.reduceAdd, Nat.reduceMul, Nat.reduceSub, Nat.reduceEqDiff, Nat.reduceLeDiff, Nat.reduceLT, Nat.reduceDiv, Nat.reduceMod, Int.reduceLE, Int.reduceLT, Int.reduceEq, Int.reduceNeg, Int.reduceAdd, Int.reduceSub, Int.reduceToNat, Nat.reducePow, Int.ofNat_zero, Int.natCast_one, Int.cast_ofNat_Int, *], ?_, ?_, ?_, ?_⟩, ⟨by simp -implicitDefEqProofs only [renS, List.map_cons, List.map_nil, sg_0, sg_1, sg_2, eng, reduceIte, reduceCtorEq, Nat.reduceAdd, Nat.reduceMul, Nat.reduceSub, Nat.reduceEqDiff, Nat.reduceLeDiff, Nat.reduceLT, Nat.reduceDiv, Nat.reduceMod, Int.reduceLE, Int.reduceLT, Int.reduceEq, Int.reduceNeg, Int.reduceAdd, Int.reduceSub, Int.reduceToNat, Nat.reducePow, Int.ofNat_zero, Int.natCast_one, Int.cast_ofNat_Int, *], ?_, ?_, ?_, ?_⟩, by simp -implicitDefEqProofs only [renS, List.map_cons, List.map_nil, sg_0, sg_1, sg_2, eng, reduceIte, reduceCtorEq, Nat.reduceAdd, Nat.reduceMul, Nat.reduceSub, Nat.reduceEqDiff, Nat.reduceLeDiff, Nat.reduceLT, Nat.reduceDiv, Nat.reduceMod, Int.reduceLE, Int.reduceLT, Int.reduceEq, Int.reduceNeg, Int.reduceAdd, Int.reduceSub, Int.reduceToNat, Nat.reducePow, Int.ofNat_zero, Int.natCast_one, Int.cast_ofNat_Int, *], ?_, ?_, ?_, ?_⟩
    all_goals first | (simp only [List.length_cons, List.length_nil]; omega) | (simp -implicitDefEqProofs only [renS, List.map_cons, List.map_nil, sg_0, sg_1, sg_2, ltS, lt8, List.all_cons, List.all_nil, eng, reduceIte, reduceCtorEq, Nat.reduceAdd, Nat.reduceMul, Nat.reduceSub, Nat.reduceEqDiff, Nat.reduceLeDiff, Nat.reduceLT, Nat.reduceDiv, Nat.reduceMod, Int.reduceLE, Int.reduceLT, Int.reduceEq, Int.reduceNeg, Int.reduceAdd, Int.reduceSub, Int.reduceToNat, Nat.reducePow, Int.ofNat_zero, Int.natCast_one, Int.cast_ofNat_Int, *]; done) | skip
end
end Go.Vx
/- Walks of the manager's keys in order: the range over maps.Keys. -/
set_option linter.unusedSimpArgs false
set_option linter.unusedVariables false
set_option maxRecDepth 4000
set_option maxHeartbeats 2000000
namespace Go.Vx
open Go Go.Proofs

theorem nodup_lt : ∀ (n : Nat) (l : List Nat), l.Nodup → (∀ j ∈ l, j < n) → l.length ≤ n
  | 0, l, _, h => by
    cases l with
    | nil => simp
    | cons x l => exact absurd (h x (by simp)) (by omega)
  | n + 1, l, hd, h => by
    by_cases hn : n ∈ l
    · have h1 := nodup_lt n (l.erase n) (hd.erase n) fun j hj => by
        have h2 := h j (List.mem_of_mem_erase hj)
        have h3 : j ≠ n := fun he => by subst he; exact (hd.not_mem_erase) hj
        omega
      have := List.length_erase_of_mem hn
      have := List.length_pos_of_mem hn
      omega
    · have := nodup_lt n l hd fun j hj => by
        have h2 := h j hj
        have h3 : j ≠ n := fun he => by subst he; exact hn hj
        omega
      omega
section
variable {P : Program}
theorem VC.yone {k : LoopKey} {L C : Nat} (hy : Yld P k L C) {b : Nat} (hL : L < b) (hC : C < b) (hCL : C ≠ L) (htop : k.top ≤ b) {x : Str} {m : Mem} (hmL : m L = some (.loop k .ready none)) (hmC : m C = some (.box [.nsl] 23)) {nd : Bool} {K : PV → Mem → Prop}
    (hk : K (.bool true) (upd (upd m C (some (.box [.osl b 1] 23))) b (some (.row 1 (strs [x]) 9 false)))) : VC P b (.y L) [.str x] true nd K m m := by
  refine .ol rfl [.str x] _ _ _ ⟨.inl ⟨rfl, rfl⟩, trivial⟩ ?_ ?_ (hy.one b x hL hC) ?_
  · simp only [List.mem_cons, List.not_mem_nil, or_false, forall_eq, forall_eq_or_imp]; exact ⟨⟨hmL, hL, by simp [Obj.lt]; omega⟩, hmC, hC, rfl⟩
  · simp only [List.mem_cons, List.not_mem_nil, or_false, forall_eq, forall_eq_or_imp]; exact ⟨.inl (by simp), .inl (by simp), .inr ⟨by omega, by omega⟩⟩
  · have : m.upds (swap [(L, .loop k .ready none), (C, .box [.nsl] 23)] [(L, .loop k .ready none), (C, .box [.osl b 1] 23), (b, .row 1 (strs [x]) 9 false)]) = upd (upd m C (some (.box [.osl b 1] 23))) b (some (.row 1 (strs [x]) 9 false)) := by
      funext id; simp only [swap, List.map_cons, List.map_nil, List.cons_append, List.nil_append, Mem.upds, List.foldl_cons, List.foldl_nil, upd]
      split <;> (try rfl)
      split <;> (try rfl)
      split
      · rename_i h; rw [h, hmL]
      · rfl
    rw [this]; exact hk
theorem VC.ymore {k : LoopKey} {L C : Nat} (hy : Yld P k L C) {b : Nat} (hL : L < b) (hC : C < b) (hCL : C ≠ L) (htop : k.top ≤ b) {x : Str} {D : Nat} {acc : List Str} (hD : D < b) (hDC : D ≠ C) (hDL : D ≠ L) (hal : acc.length < 1000) {m : Mem} (hmL : m L = some (.loop k .ready none)) (hmC : m C = some (.box [.osl D acc.length] 23)) (hmD : m D = some (.row 1 (strs acc) 9 false)) {nd : Bool} {K : PV → Mem → Prop}
    (hk : K (.bool true) (upd (upd (upd m D none) C (some (.box [.osl b (acc.length + 1)] 23))) b (some (.row 1 (strs (acc ++ [x])) 9 false)))) : VC P b (.y L) [.str x] true nd K m m := by
  refine .ol rfl [.str x] _ _ _ ⟨.inl ⟨rfl, rfl⟩, trivial⟩ ?_ ?_ (hy.more b x D acc hL hC hD hDC hDL hal) ?_
  · simp only [List.mem_cons, List.not_mem_nil, or_false, forall_eq, forall_eq_or_imp]; exact ⟨⟨hmL, hL, by simp [Obj.lt]; omega⟩, ⟨hmC, hC, by simp [Obj.lt, PV.lt, lt1]; exact hD⟩, hmD, hD, rfl⟩
  · simp only [List.mem_cons, List.not_mem_nil, or_false, forall_eq, forall_eq_or_imp]; exact ⟨.inl (by simp), .inl (by simp), .inr ⟨by omega, by omega⟩⟩
  · have : m.upds (swap [(L, .loop k .ready none), (C, .box [.osl D acc.length] 23), (D, .row 1 (strs acc) 9 false)] [(L, .loop k .ready none), (C, .box [.osl b (acc.length + 1)] 23), (b, .row 1 (strs (acc ++ [x])) 9 false)]) = upd (upd (upd m D none) C (some (.box [.osl b (acc.length + 1)] 23))) b (some (.row 1 (strs (acc ++ [x])) 9 false)) := by
      funext id; simp only [swap, List.map_cons, List.map_nil, List.cons_append, List.nil_append, Mem.upds, List.foldl_cons, List.foldl_nil, upd]
      by_cases h1 : id = b
      · simp [h1]
      · by_cases h2 : id = C
        · simp [h1, h2]
        · by_cases h3 : id = L
          · subst h3; simp [h1, h2, Ne.symm hDL, hmL]
          · simp [h1, h2, h3]
    rw [this]; exact hk

def JW (L C X K T b : Nat) (k : LoopKey) (ks : List Str) (n : Nat) (e : Env) (m : Mem) (nx : Nat) : Prop :=
  ∃ it seen last, e 5 = some (.ptr it 0 0 0) ∧ e 0 = some (.yld L) ∧ m it = some (.iter (some K) ks.length seen last) ∧ last ≤ ks.length ∧ n = unseen ks.length seen ∧ seen.Nodup ∧ (∀ j ∈ seen, j < ks.length) ∧ m L = some (.loop k .ready none) ∧ m X = some (.box [.map K] T) ∧ m K = some (.map (kmap ks)) ∧ b ≤ nx ∧
    ((seen = [] ∧ m C = some (.box [.nsl] 23)) ∨ ∃ D, b ≤ D ∧ seen ≠ [] ∧ m C = some (.box [.osl D (accF ks seen).length] 23) ∧ m D = some (.row 1 (strs (accF ks seen)) 9 false))
def resW (L C X K T b : Nat) (k : LoopKey) (ks l : List Str) : List (Nat × Obj) :=
  if l = [] then [(L, .loop k .ready none), (X, .box [.map K] T), (K, .map (kmap ks)), (C, .box [.nsl] 23)]
  else [(L, .loop k .ready none), (X, .box [.map K] T), (K, .map (kmap ks)), (C, .box [.osl b l.length] 23), (b, .row 1 (strs l) 9 false)]
def KW (L C X K T b : Nat) (k : LoopKey) (ks : List Str) (r : PV) (m1 : Mem) : Prop := r = .tup [] ∧ ∃ l, l.Perm ks ∧ m1 = ofL (resW L C X K T b k ks l)

theorem w_mkeysF {k : LoopKey} {L C : Nat} (hy : Yld P k L C) (X K T b : Nat) (hL : L < b) (hC : C < b) (hX : X < b) (hK : K < b) (htop : k.top ≤ b) (ks : List Str) (hkl : ks.length < 1000) (m : Mem) (hmL : m L = some (.loop k .ready none)) (hmX : m X = some (.box [.map K] T)) (hmK : m K = some (.map (kmap ks))) (hmC : m C = some (.box [.nsl] 23)) :
    VW P c56 (PRet (EndsK [] b (KW L C X K T b k ks))) (fun t => [PV.yld L, .ptr X 1 0 0][t]?) m b := by
  unfold c56
  obtain ⟨n1, n2, n3, n4, n5⟩ := below_ne hL
  obtain ⟨p1, p2, p3, p4, p5⟩ := below_ne hC
  obtain ⟨q1, q2, q3, q4, q5⟩ := below_ne hX
  obtain ⟨r1, r2, r3, r4, r5⟩ := below_ne hK
  have hlen : (kmap ks).length = ks.length := by simp [kmap]
  repeat' (first
    | exact True.intro
    | refine VW.seq ?_
    | refine VW.block ?_
    | ((first | refine VW.skip ?_ | refine VW.exit ?_ | refine VW.reg ?_ | refine VW.regD ?_ | refine VW.ret ?_ | show goA _ _ _ _ _ _ _ _ _ _ | show goB _ _ _ _ _ _ _ _ _ | show goAD _ _ _ _ _ _ _ _ _ _ _ _ _ _ | show goBD _ _ _ _ _ _ _ _ _ _ _); refine sx ?_)
    | refine VW.condT cx ?_
    | refine VW.condF cx ?_
    | refine VW.cond ex ?_ ?_
    | refine imp_nt ?_
    | refine imp_nf ?_
    | refine imp_dt (fun _ => ?_)
    | refine imp_df (fun _ => ?_)
    | (refine fun (_ : _ = true) => ?_)
    | (refine fun (_ : _ = false) => ?_)
    | refine vg_t ?_ ?_
    | refine vg_f ?_ ?_)
  refine VW.loop (JW L C X K T b k ks) _ ⟨_, [], _, ey, cy, cx, Nat.le_refl _, rfl, by simp, by simp, cx, cx, cx, by omega, .inl ⟨rfl, cx⟩⟩ ?_
  clear hmL hmX hmK hmC m
  rintro n e m nx ⟨it, seen, last, e5, e0, hit, hlast, rfl, hnd, hsl, hmL, hmX, hmK, hbn, hcell⟩
  have hacl := accF_len hsl
  have hLX := ne_of_obj hmL hmX (by simp)
  have hLK := ne_of_obj hmL hmK (by simp)
  have hXK := ne_of_obj hmX hmK (by simp)
  have hKL := ne_of_obj hmK hmL (by simp)
  have hXL := ne_of_obj hmX hmL (by simp)
  have hKX := ne_of_obj hmK hmX (by simp)
  have hLi := ne_of_obj hmL hit (by simp)
  have hXi := ne_of_obj hmX hit (by simp)
  have hKi := ne_of_obj hmK hit (by simp)
  have hiL := ne_of_obj hit hmL (by simp)
  have hiX := ne_of_obj hit hmX (by simp)
  have hiK := ne_of_obj hit hmK (by simp)
  refine VW.below hit fun hli => ?_
  obtain ⟨i1, i2, i3, i4, i5⟩ := below_ne hli
  obtain ⟨L1, L2, L3, L4, L5⟩ := below_ne (Nat.lt_of_lt_of_le hL hbn)
  obtain ⟨C1, C2, C3, C4, C5⟩ := below_ne (Nat.lt_of_lt_of_le hC hbn)
  obtain ⟨X1, X2, X3, X4, X5⟩ := below_ne (Nat.lt_of_lt_of_le hX hbn)
  obtain ⟨K1, K2, K3, K4, K5⟩ := below_ne (Nat.lt_of_lt_of_le hK hbn)
  have draw : ∀ (j : Nat) (r : PV × PV), j ∉ seen → (kmap ks)[j]? = some r → ∃ x, ks[j]? = some x ∧ r = (.str x, .bool true) ∧ j < ks.length ∧ (seen ++ [j]).Nodup ∧ (∀ i ∈ seen ++ [j], i < ks.length) ∧ seen.length < ks.length := fun j r hj hr => by
    simp only [kmap, List.getElem?_map, Option.map_eq_some_iff] at hr
    obtain ⟨x, h1, h2⟩ := hr
    have hjl : j < ks.length := (List.getElem?_eq_some_iff.1 h1).1
    have hnd' : (seen ++ [j]).Nodup := by
      rw [List.nodup_append]
      exact ⟨hnd, by simp, fun a ha c hc => by simp at hc; subst hc; rintro rfl; exact hj ha⟩
    have hsl' : ∀ i ∈ seen ++ [j], i < ks.length := fun i hi => by
      rcases List.mem_append.1 hi with h | h
      · exact hsl i h
      · simp at h; subst h; exact hjl
    refine ⟨x, h1, h2.symm, hjl, hnd', hsl', ?_⟩
    have := nodup_lt _ _ hnd' hsl'
    rw [List.length_append] at this
    exact this
  rcases hcell with ⟨hs0, hmC⟩ | ⟨D, hbD, hs0, hmC, hmD⟩
  · subst hs0
    have hCL := ne_of_obj hmC hmL (by simp)
    have hLC := ne_of_obj hmL hmC (by simp)
    have hCX := ne_of_obj hmC hmX (by simp)
    have hXC := ne_of_obj hmX hmC (by simp)
    have hCK := ne_of_obj hmC hmK (by simp)
    have hKC := ne_of_obj hmK hmC (by simp)
    have hCi := ne_of_obj hmC hit (by simp)
    have hiC := ne_of_obj hit hmC (by simp)
    repeat' (first
    | exact True.intro
    | refine VW.seq ?_
    | refine VW.block ?_
    | ((first | refine VW.skip ?_ | refine VW.exit ?_ | refine VW.reg ?_ | refine VW.regD ?_ | refine VW.ret ?_ | show goA _ _ _ _ _ _ _ _ _ _ | show goB _ _ _ _ _ _ _ _ _ | show goAD _ _ _ _ _ _ _ _ _ _ _ _ _ _ | show goBD _ _ _ _ _ _ _ _ _ _ _); refine sx ?_)
    | refine VW.condT cx ?_
    | refine VW.condF cx ?_
    | refine VW.cond ex ?_ ?_
    | refine imp_nt ?_
    | refine imp_nf ?_
    | refine imp_dt (fun _ => ?_)
    | refine imp_df (fun _ => ?_)
    | (refine fun (_ : _ = true) => ?_)
    | (refine fun (_ : _ = false) => ?_)
    | refine vg_t ?_ ?_
    | refine vg_f ?_ ?_)
    refine ⟨fun j r hj hr => ?_, fun hall => ?_⟩
    · obtain ⟨x, hx, rfl, hjl, hnd', hsl', _⟩ := draw j r hj hr
      have hgl : [j].getLast? = some j := rfl
      have hlt := unseen_lt hjl hj
      have hacc : accF ks [j] = [x] := by simp [accF, hx]
      have hne : [j] ≠ [] := by simp
      clear draw
      repeat' (first
    | exact True.intro
    | refine VW.seq ?_
    | refine VW.block ?_
    | ((first | refine VW.skip ?_ | refine VW.exit ?_ | refine VW.reg ?_ | refine VW.regD ?_ | refine VW.ret ?_ | show goA _ _ _ _ _ _ _ _ _ _ | show goB _ _ _ _ _ _ _ _ _ | show goAD _ _ _ _ _ _ _ _ _ _ _ _ _ _ | show goBD _ _ _ _ _ _ _ _ _ _ _); refine sx ?_)
    | refine VW.condT cx ?_
    | refine VW.condF cx ?_
    | refine VW.cond ex ?_ ?_
    | refine imp_nt ?_
    | refine imp_nf ?_
    | refine imp_dt (fun _ => ?_)
    | refine imp_df (fun _ => ?_)
    | (refine fun (_ : _ = true) => ?_)
    | (refine fun (_ : _ = false) => ?_)
    | refine vg_t ?_ ?_
    | refine vg_f ?_ ?_)
      refine VC.yone hy (by omega) (by omega) (by simpa using hCL) (by omega) (cx) (cx) ?_
      refine sx ?_
      repeat' (first
    | exact True.intro
    | refine VW.seq ?_
    | refine VW.block ?_
    | ((first | refine VW.skip ?_ | refine VW.exit ?_ | refine VW.reg ?_ | refine VW.regD ?_ | refine VW.ret ?_ | show goA _ _ _ _ _ _ _ _ _ _ | show goB _ _ _ _ _ _ _ _ _ | show goAD _ _ _ _ _ _ _ _ _ _ _ _ _ _ | show goBD _ _ _ _ _ _ _ _ _ _ _); refine sx ?_)
    | refine VW.condT cx ?_
    | refine VW.condF cx ?_
    | refine VW.cond ex ?_ ?_
    | refine imp_nt ?_
    | refine imp_nf ?_
    | refine imp_dt (fun _ => ?_)
    | refine imp_df (fun _ => ?_)
    | (refine fun (_ : _ = true) => ?_)
    | (refine fun (_ : _ = false) => ?_)
    | refine vg_t ?_ ?_
    | refine vg_f ?_ ?_)
      exact ⟨_, hlt, it, [j], ks.length, cx, cx, cx, Nat.le_refl _, rfl, hnd', hsl', cx, cx, cx, by omega, .inr ⟨nx + 56, by omega, hne, by rw [hacc]; simp -implicitDefEqProofs only [eng, reduceIte, reduceCtorEq, Nat.reduceAdd, Nat.reduceMul, Nat.reduceSub, Nat.reduceEqDiff, Nat.reduceLeDiff, Nat.reduceLT, Nat.reduceDiv, Nat.reduceMod, Int.reduceLE, Int.reduceLT, Int.reduceEq, Int.reduceNeg, Int.reduceAdd, Int.reduceSub, Int.reduceToNat, Nat.reducePow, Int.ofNat_zero, Int.natCast_one, Int.cast_ofNat_Int, *] <;> rfl, by rw [hacc]; simp -implicitDefEqProofs only [eng, reduceIte, reduceCtorEq, Nat.reduceAdd, Nat.reduceMul, Nat.reduceSub, Nat.reduceEqDiff, Nat.reduceLeDiff, Nat.reduceLT, Nat.reduceDiv, Nat.reduceMod, Int.reduceLE, Int.reduceLT, Int.reduceEq, Int.reduceNeg, Int.reduceAdd, Int.reduceSub, Int.reduceToNat, Nat.reducePow, Int.ofNat_zero, Int.natCast_one, Int.cast_ofNat_Int, *]⟩⟩
    · have hk0 : ks = [] := by
        cases ks with
        | nil => rfl
        | cons x ks => have := hall 0 (by simp) (by simp); simp at this
      subst hk0
      clear draw hall
      repeat' (first
    | exact True.intro
    | refine VW.seq ?_
    | refine VW.block ?_
    | ((first | refine VW.skip ?_ | refine VW.exit ?_ | refine VW.reg ?_ | refine VW.regD ?_ | refine VW.ret ?_ | show goA _ _ _ _ _ _ _ _ _ _ | show goB _ _ _ _ _ _ _ _ _ | show goAD _ _ _ _ _ _ _ _ _ _ _ _ _ _ | show goBD _ _ _ _ _ _ _ _ _ _ _); refine sx ?_)
    | refine VW.condT cx ?_
    | refine VW.condF cx ?_
    | refine VW.cond ex ?_ ?_
    | refine imp_nt ?_
    | refine imp_nf ?_
    | refine imp_dt (fun _ => ?_)
    | refine imp_df (fun _ => ?_)
    | (refine fun (_ : _ = true) => ?_)
    | (refine fun (_ : _ = false) => ?_)
    | refine vg_t ?_ ?_
    | refine vg_f ?_ ?_)
      have hres : resW L C X K T b k [] [] = [(L, .loop k .ready none), (X, .box [.map K] T), (K, .map (kmap [])), (C, .box [.nsl] 23)] := if_pos rfl
      refine ⟨_, _, ⟨rfl, [], .refl _, rfl⟩, ?_⟩
      rw [hres]
      refine .keep (exR) (cxL) ?_
      simp only [List.mem_cons, List.not_mem_nil, or_false, forall_eq, forall_eq_or_imp]
      exact ⟨⟨cx, hL, by simp [Obj.lt]; omega, by simp [Obj.fix]; omega⟩, ⟨cx, hX, by simp [Obj.lt, PV.lt, lt1]; omega, rfl⟩, ⟨cx, hK, kmap_lt.1, kmap_lt.2⟩, cx, hC, rfl, rfl⟩
  · have hCL := ne_of_obj hmC hmL (by simp)
    have hLC := ne_of_obj hmL hmC (by simp)
    have hCX := ne_of_obj hmC hmX (by simp)
    have hXC := ne_of_obj hmX hmC (by simp)
    have hCK := ne_of_obj hmC hmK (by simp)
    have hKC := ne_of_obj hmK hmC (by simp)
    have hCi := ne_of_obj hmC hit (by simp)
    have hiC := ne_of_obj hit hmC (by simp)
    have hDL := ne_of_obj hmD hmL (by simp)
    have hLD := ne_of_obj hmL hmD (by simp)
    have hDX := ne_of_obj hmD hmX (by simp)
    have hXD := ne_of_obj hmX hmD (by simp)
    have hDK := ne_of_obj hmD hmK (by simp)
    have hKD := ne_of_obj hmK hmD (by simp)
    have hDi := ne_of_obj hmD hit (by simp)
    have hiD := ne_of_obj hit hmD (by simp)
    have hDC := ne_of_obj hmD hmC (by simp)
    have hCD := ne_of_obj hmC hmD (by simp)
    refine VW.below hmD fun hlD => ?_
    obtain ⟨D1, D2, D3, D4, D5⟩ := below_ne hlD
    repeat' (first
    | exact True.intro
    | refine VW.seq ?_
    | refine VW.block ?_
    | ((first | refine VW.skip ?_ | refine VW.exit ?_ | refine VW.reg ?_ | refine VW.regD ?_ | refine VW.ret ?_ | show goA _ _ _ _ _ _ _ _ _ _ | show goB _ _ _ _ _ _ _ _ _ | show goAD _ _ _ _ _ _ _ _ _ _ _ _ _ _ | show goBD _ _ _ _ _ _ _ _ _ _ _); refine sx ?_)
    | refine VW.condT cx ?_
    | refine VW.condF cx ?_
    | refine VW.cond ex ?_ ?_
    | refine imp_nt ?_
    | refine imp_nf ?_
    | refine imp_dt (fun _ => ?_)
    | refine imp_df (fun _ => ?_)
    | (refine fun (_ : _ = true) => ?_)
    | (refine fun (_ : _ = false) => ?_)
    | refine vg_t ?_ ?_
    | refine vg_f ?_ ?_)
    refine ⟨fun j r hj hr => ?_, fun hall => ?_⟩
    · obtain ⟨x, hx, rfl, hjl, hnd', hsl', hsl1⟩ := draw j r hj hr
      have hgl : (seen ++ [j]).getLast? = some j := by simp
      have hlt := unseen_lt hjl hj
      have hacc : accF ks (seen ++ [j]) = accF ks seen ++ [x] := accF_app hx
      have hne : seen ++ [j] ≠ [] := by simp
      have hal : (accF ks seen).length < 1000 := by omega
      clear draw hacl hsl1
      generalize accF ks seen = acc at *
      repeat' (first
    | exact True.intro
    | refine VW.seq ?_
    | refine VW.block ?_
    | ((first | refine VW.skip ?_ | refine VW.exit ?_ | refine VW.reg ?_ | refine VW.regD ?_ | refine VW.ret ?_ | show goA _ _ _ _ _ _ _ _ _ _ | show goB _ _ _ _ _ _ _ _ _ | show goAD _ _ _ _ _ _ _ _ _ _ _ _ _ _ | show goBD _ _ _ _ _ _ _ _ _ _ _); refine sx ?_)
    | refine VW.condT cx ?_
    | refine VW.condF cx ?_
    | refine VW.cond ex ?_ ?_
    | refine imp_nt ?_
    | refine imp_nf ?_
    | refine imp_dt (fun _ => ?_)
    | refine imp_df (fun _ => ?_)
    | (refine fun (_ : _ = true) => ?_)
    | (refine fun (_ : _ = false) => ?_)
    | refine vg_t ?_ ?_
    | refine vg_f ?_ ?_)
      refine VC.ymore (D := D) (acc := acc) hy (by omega) (by omega) (by simpa using hCL) (by omega) (by omega) (by simpa using hDC) (by simpa using hDL) hal (cx) (cx) (cx) ?_
      refine sx ?_
      repeat' (first
    | exact True.intro
    | refine VW.seq ?_
    | refine VW.block ?_
    | ((first | refine VW.skip ?_ | refine VW.exit ?_ | refine VW.reg ?_ | refine VW.regD ?_ | refine VW.ret ?_ | show goA _ _ _ _ _ _ _ _ _ _ | show goB _ _ _ _ _ _ _ _ _ | show goAD _ _ _ _ _ _ _ _ _ _ _ _ _ _ | show goBD _ _ _ _ _ _ _ _ _ _ _); refine sx ?_)
    | refine VW.condT cx ?_
    | refine VW.condF cx ?_
    | refine VW.cond ex ?_ ?_
    | refine imp_nt ?_
    | refine imp_nf ?_
    | refine imp_dt (fun _ => ?_)
    | refine imp_df (fun _ => ?_)
    | (refine fun (_ : _ = true) => ?_)
    | (refine fun (_ : _ = false) => ?_)
    | refine vg_t ?_ ?_
    | refine vg_f ?_ ?_)
      exact ⟨_, hlt, it, seen ++ [j], ks.length, cx, cx, cx, Nat.le_refl _, rfl, hnd', hsl', cx, cx, cx, by omega, .inr ⟨nx + 56, by omega, hne, by rw [hacc, List.length_append]; simp -implicitDefEqProofs only [eng, reduceIte, reduceCtorEq, Nat.reduceAdd, Nat.reduceMul, Nat.reduceSub, Nat.reduceEqDiff, Nat.reduceLeDiff, Nat.reduceLT, Nat.reduceDiv, Nat.reduceMod, Int.reduceLE, Int.reduceLT, Int.reduceEq, Int.reduceNeg, Int.reduceAdd, Int.reduceSub, Int.reduceToNat, Nat.reducePow, Int.ofNat_zero, Int.natCast_one, Int.cast_ofNat_Int, *] <;> rfl, by rw [hacc]; simp -implicitDefEqProofs only [eng, reduceIte, reduceCtorEq, Nat.reduceAdd, Nat.reduceMul, Nat.reduceSub, Nat.reduceEqDiff, Nat.reduceLeDiff, Nat.reduceLT, Nat.reduceDiv, Nat.reduceMod, Int.reduceLE, Int.reduceLT, Int.reduceEq, Int.reduceNeg, Int.reduceAdd, Int.reduceSub, Int.reduceToNat, Nat.reducePow, Int.ofNat_zero, Int.natCast_one, Int.cast_ofNat_Int, *]⟩⟩
    · have hperm := accF_perm hnd hsl fun j hj => hall j hj (by simpa using hj)
      have hl0 : accF ks seen ≠ [] := fun h => by rw [h] at hacl; exact hs0 (List.eq_nil_of_length_eq_zero hacl.symm)
      clear draw hall hacl
      generalize accF ks seen = acc at *
      repeat' (first
    | exact True.intro
    | refine VW.seq ?_
    | refine VW.block ?_
    | ((first | refine VW.skip ?_ | refine VW.exit ?_ | refine VW.reg ?_ | refine VW.regD ?_ | refine VW.ret ?_ | show goA _ _ _ _ _ _ _ _ _ _ | show goB _ _ _ _ _ _ _ _ _ | show goAD _ _ _ _ _ _ _ _ _ _ _ _ _ _ | show goBD _ _ _ _ _ _ _ _ _ _ _); refine sx ?_)
    | refine VW.condT cx ?_
    | refine VW.condF cx ?_
    | refine VW.cond ex ?_ ?_
    | refine imp_nt ?_
    | refine imp_nf ?_
    | refine imp_dt (fun _ => ?_)
    | refine imp_df (fun _ => ?_)
    | (refine fun (_ : _ = true) => ?_)
    | (refine fun (_ : _ = false) => ?_)
    | refine vg_t ?_ ?_
    | refine vg_f ?_ ?_)
      have hres : resW L C X K T b k ks acc = [(L, .loop k .ready none), (X, .box [.map K] T), (K, .map (kmap ks)), (C, .box [.osl b acc.length] 23), (b, .row 1 (strs acc) 9 false)] := if_neg hl0
      refine ⟨_, _, ⟨rfl, acc, hperm, rfl⟩, ?_⟩
      rw [hres]
      have hsL : sg b [D] L = L := sg_lt hL
      have hsC : sg b [D] C = C := sg_lt hC
      have hsX : sg b [D] X = X := sg_lt hX
      have hsK : sg b [D] K = K := sg_lt hK
      have hek : (kmap ks).map (fun e => (e.1, renA (sg b [D]) e.2)) = kmap ks := by simp [kmap, renA, ren1]
      refine .ol [D] (exR) (by simp -implicitDefEqProofs only [renS, List.map_cons, List.map_nil, sg_0, sg_1, sg_2, eng, reduceIte, reduceCtorEq, Nat.reduceAdd, Nat.reduceMul, Nat.reduceSub, Nat.reduceEqDiff, Nat.reduceLeDiff, Nat.reduceLT, Nat.reduceDiv, Nat.reduceMod, Int.reduceLE, Int.reduceLT, Int.reduceEq, Int.reduceNeg, Int.reduceAdd, Int.reduceSub, Int.reduceToNat, Nat.reducePow, Int.ofNat_zero, Int.natCast_one, Int.cast_ofNat_Int]) (cxL) (by simp [hbD]) (by simp) ?_
      simp only [List.mem_cons, List.not_mem_nil, or_false, forall_eq, forall_eq_or_imp]
      refine ⟨⟨?_, by omega, by omega, by simp [Obj.lt]; omega, by simp [Obj.fix]; omega⟩, ⟨?_, by omega, by omega, by simp [Obj.lt, PV.lt, lt1]; omega, rfl⟩, ⟨?_, by omega, by omega, kmap_lt.1, kmap_lt.2⟩, ⟨?_, by omega, by omega, by simp [Obj.lt, PV.lt, lt1], rfl⟩, ?_, by simp, by omega, rfl, rfl⟩
      · simp -implicitDefEqProofs only [renS, List.map_cons, List.map_nil, sg_0, sg_1, sg_2, eng, reduceIte, reduceCtorEq, Nat.reduceAdd, Nat.reduceMul, Nat.reduceSub, Nat.reduceEqDiff, Nat.reduceLeDiff, Nat.reduceLT, Nat.reduceDiv, Nat.reduceMod, Int.reduceLE, Int.reduceLT, Int.reduceEq, Int.reduceNeg, Int.reduceAdd, Int.reduceSub, Int.reduceToNat, Nat.reducePow, Int.ofNat_zero, Int.natCast_one, Int.cast_ofNat_Int, *]
      · simp -implicitDefEqProofs only [renS, List.map_cons, List.map_nil, sg_0, sg_1, sg_2, eng, reduceIte, reduceCtorEq, Nat.reduceAdd, Nat.reduceMul, Nat.reduceSub, Nat.reduceEqDiff, Nat.reduceLeDiff, Nat.reduceLT, Nat.reduceDiv, Nat.reduceMod, Int.reduceLE, Int.reduceLT, Int.reduceEq, Int.reduceNeg, Int.reduceAdd, Int.reduceSub, Int.reduceToNat, Nat.reducePow, Int.ofNat_zero, Int.natCast_one, Int.cast_ofNat_Int, *]
      · rw [hsK]; simp only [Obj.ren, hek]; simp -implicitDefEqProofs only [eng, reduceIte, reduceCtorEq, Nat.reduceAdd, Nat.reduceMul, Nat.reduceSub, Nat.reduceEqDiff, Nat.reduceLeDiff, Nat.reduceLT, Nat.reduceDiv, Nat.reduceMod, Int.reduceLE, Int.reduceLT, Int.reduceEq, Int.reduceNeg, Int.reduceAdd, Int.reduceSub, Int.reduceToNat, Nat.reducePow, Int.ofNat_zero, Int.natCast_one, Int.cast_ofNat_Int, *]
      · simp -implicitDefEqProofs only [renS, List.map_cons, List.map_nil, sg_0, sg_1, sg_2, eng, reduceIte, reduceCtorEq, Nat.reduceAdd, Nat.reduceMul, Nat.reduceSub, Nat.reduceEqDiff, Nat.reduceLeDiff, Nat.reduceLT, Nat.reduceDiv, Nat.reduceMod, Int.reduceLE, Int.reduceLT, Int.reduceEq, Int.reduceNeg, Int.reduceAdd, Int.reduceSub, Int.reduceToNat, Nat.reducePow, Int.ofNat_zero, Int.natCast_one, Int.cast_ofNat_Int, *]
      · simp -implicitDefEqProofs only [renS, List.map_cons, List.map_nil, sg_0, sg_1, sg_2, eng, reduceIte, reduceCtorEq, Nat.reduceAdd, Nat.reduceMul, Nat.reduceSub, Nat.reduceEqDiff, Nat.reduceLeDiff, Nat.reduceLT, Nat.reduceDiv, Nat.reduceMod, Int.reduceLE, Int.reduceLT, Int.reduceEq, Int.reduceNeg, Int.reduceAdd, Int.reduceSub, Int.reduceToNat, Nat.reducePow, Int.ofNat_zero, Int.natCast_one, Int.cast_ofNat_Int, *]
end
end Go.Vx
/- Walks of the manager's keys in order: slices.AppendSeq, Collect, Sorted; Writes. -/
set_option linter.unusedSimpArgs false
set_option linter.unusedVariables false
set_option maxRecDepth 4000
set_option maxHeartbeats 2000000
namespace Go.Vx
open Go Go.Proofs

def HKeys (P : Program) : Prop := ∀ (k : LoopKey) (L C : Nat), Yld P k L C → ∀ X K T b, L < b → C < b → X < b → K < b → k.top ≤ b → ∀ ks : List Str, ks.length < 1000 → ∀ m : Mem, m L = some (.loop k .ready none) → m X = some (.box [.map K] T) → m K = some (.map (kmap ks)) → m C = some (.box [.nsl] 23) →
  VX P (.f 56) [.yld L, .ptr X 1 0 0] m b (KW L C X K T b k ks)
def cellR (b : Nat) (l : List Str) : PV := if l = [] then .nsl else .osl b l.length
def resA (X K T b : Nat) (ks l : List Str) : List (Nat × Obj) := if l = [] then [(X, .box [.map K] T), (K, .map (kmap ks))] else [(X, .box [.map K] T), (K, .map (kmap ks)), (b, .row 1 (strs l) 9 false)]
def KA (X K T b : Nat) (ks : List Str) (r : PV) (m1 : Mem) : Prop := ∃ l, l.Perm ks ∧ r = cellR b l ∧ m1 = ofL (resA X K T b ks l)
theorem rangeM_at {m0 m1 m : Mem} {L id : Nat} : rangeM m0 L m1 m id = if id = L then none else if (m0 id).isSome = true ∨ (L + 8 ≤ id ∧ id < L + 16) then m1 id else m id := by
  unfold rangeM
  by_cases h : id = L
  · subst h; rw [upd_same, if_pos rfl]
  · rw [upd_other _ _ h, if_neg h]; simp only [patch]

section
variable {P : Program}
theorem w_appseq (hmix : P.follows .mixedOrders = true) (h56 : HKeys P) (X K T b : Nat) (hX : X < b) (hK : K < b) (hXK : X ≠ K) (ks : List Str) (hkl : ks.length < 1000) (m : Mem) (hmX : m X = some (.box [.map K] T)) (hmK : m K = some (.map (kmap ks))) :
    VW P c57 (PRet (EndsK [.tmp 4] b (KA X K T b ks))) (fun t => [PV.nsl, .fn 56 [.ptr X 1 0 0]][t]?) m b := by
  unfold c57
  obtain ⟨q1, q2, q3, q4, q5⟩ := below_ne hX
  obtain ⟨r1, r2, r3, r4, r5⟩ := below_ne hK
  repeat' (first
    | exact True.intro
    | refine VW.seq ?_
    | refine VW.block ?_
    | ((first | refine VW.skip ?_ | refine VW.exit ?_ | refine VW.reg ?_ | refine VW.regD ?_ | refine VW.ret ?_ | show goA _ _ _ _ _ _ _ _ _ _ | show goB _ _ _ _ _ _ _ _ _ | show goAD _ _ _ _ _ _ _ _ _ _ _ _ _ _ | show goBD _ _ _ _ _ _ _ _ _ _ _); refine sx ?_)
    | refine VW.condT cx ?_
    | refine VW.condF cx ?_
    | refine VW.cond ex ?_ ?_
    | refine imp_nt ?_
    | refine imp_nf ?_
    | refine imp_dt (fun _ => ?_)
    | refine imp_df (fun _ => ?_)
    | (refine fun (_ : _ = true) => ?_)
    | (refine fun (_ : _ = false) => ?_)
    | refine vg_t ?_ ?_
    | refine vg_f ?_ ?_)
  refine VW.rangeF (f := 56) (caps := [.ptr X 1 0 0]) (cx) ?_
  intro k hP he hps hxa hxb htop
  have hy : Yld P k (b + 24) b := yld_app hmix (by omega) (by omega) hP (by rw [he]; rfl) hps hxa hxb
  have hXb : X ≠ b := by omega
  have hKb : K ≠ b := by omega
  obtain ⟨o1, o2, o3⟩ := ofL_3 (o := .box [.map K] T) (p := .map (kmap ks)) (q := .box [.nsl] 23) hXK hXb hKb
  clear he hP hps hxa hxb
  refine ⟨[.ptr X 1 0 0], ofL [(X, .box [.map K] T), (K, .map (kmap ks)), (b, .box [.nsl] 23)], KW (b + 24) b X K T (b + 24 + 8) k ks, ⟨.inl ⟨rfl, by simp [PV.lt, lt1]⟩, .inl ⟨rfl, by simp [PV.lt, lt1]; omega⟩, trivial⟩, ?_,
    h56 k _ _ hy X K T _ (by omega) (by omega) (by omega) (by omega) (by omega) ks hkl _ (by rw [upd_same]) (by rw [upd_other _ _ (by omega)]; exact o1) (by rw [upd_other _ _ (by omega)]; exact o2) (by rw [upd_other _ _ (by omega)]; exact o3), ?_⟩
  · intro id o hid
    have := ofL_some hid
    simp only [List.mem_cons, List.not_mem_nil, or_false, Prod.mk.injEq] at this
    rcases this with ⟨rfl, rfl⟩ | ⟨rfl, rfl⟩ | ⟨rfl, rfl⟩
    · exact ⟨cx, by simp [Obj.lt, PV.lt, lt1]; omega⟩
    · exact ⟨cx, kmap_lt.1⟩
    · exact ⟨cx, rfl⟩
  · rintro r m1 ⟨rfl, l, hperm, rfl⟩
    by_cases hl : l = []
    · subst hl
      have hres : resW (b + 24) b X K T (b + 24 + 8) k ks [] = [(b + 24, .loop k .ready none), (X, .box [.map K] T), (K, .map (kmap ks)), (b, .box [.nsl] 23)] := if_pos rfl
      rw [hres]
      have e1 : ofL [(b + 24, .loop k .ready none), (X, .box [.map K] T), (K, .map (kmap ks)), (b, .box [.nsl] 23)] = upd (upd (upd (upd mt (b + 24) (some (.loop k .ready none))) X (some (.box [.map K] T))) K (some (.map (kmap ks)))) b (some (.box [.nsl] 23)) := rfl
      refine ⟨k, .ready, none, ?_, by simp, ?_⟩
      · rw [e1, upd_other _ _ (by omega), upd_other _ _ (by omega), upd_other _ _ (by omega), upd_same]
      · generalize hm2 : rangeM (ofL [(X, .box [.map K] T), (K, .map (kmap ks)), (b, .box [.nsl] 23)]) (b + 24) (ofL [(b + 24, .loop k .ready none), (X, .box [.map K] T), (K, .map (kmap ks)), (b, .box [.nsl] 23)]) _ = m2
        have g1 : m2 X = some (.box [.map K] T) := by
          rw [← hm2, rangeM_at, if_neg (by omega), if_pos (.inl (by rw [o1]; rfl)), e1, upd_other _ _ hXb, upd_other _ _ hXK, upd_same]
        have g2 : m2 K = some (.map (kmap ks)) := by
          rw [← hm2, rangeM_at, if_neg (by omega), if_pos (.inl (by rw [o2]; rfl)), e1, upd_other _ _ hKb, upd_same]
        have g3 : m2 b = some (.box [.nsl] 23) := by
          rw [← hm2, rangeM_at, if_neg (by omega), if_pos (.inl (by rw [o3]; rfl)), e1, upd_same]
        clear hm2 e1 hres hmX hmK o1 o2 o3
        dsimp only
        refine sx ?_
        repeat' (first
    | exact True.intro
    | refine VW.seq ?_
    | refine VW.block ?_
    | ((first | refine VW.skip ?_ | refine VW.exit ?_ | refine VW.reg ?_ | refine VW.regD ?_ | refine VW.ret ?_ | show goA _ _ _ _ _ _ _ _ _ _ | show goB _ _ _ _ _ _ _ _ _ | show goAD _ _ _ _ _ _ _ _ _ _ _ _ _ _ | show goBD _ _ _ _ _ _ _ _ _ _ _); refine sx ?_)
    | refine VW.condT cx ?_
    | refine VW.condF cx ?_
    | refine VW.cond ex ?_ ?_
    | refine imp_nt ?_
    | refine imp_nf ?_
    | refine imp_dt (fun _ => ?_)
    | refine imp_df (fun _ => ?_)
    | (refine fun (_ : _ = true) => ?_)
    | (refine fun (_ : _ = false) => ?_)
    | refine vg_t ?_ ?_
    | refine vg_f ?_ ?_)
        have hrA : resA X K T b ks [] = [(X, .box [.map K] T), (K, .map (kmap ks))] := if_pos rfl
        refine ⟨_, _, ⟨[], hperm, rfl, rfl⟩, ?_⟩
        rw [hrA]
        refine .keep (by simp -implicitDefEqProofs only [eng, reduceIte, reduceCtorEq, Nat.reduceAdd, Nat.reduceMul, Nat.reduceSub, Nat.reduceEqDiff, Nat.reduceLeDiff, Nat.reduceLT, Nat.reduceDiv, Nat.reduceMod, Int.reduceLE, Int.reduceLT, Int.reduceEq, Int.reduceNeg, Int.reduceAdd, Int.reduceSub, Int.reduceToNat, Nat.reducePow, Int.ofNat_zero, Int.natCast_one, Int.cast_ofNat_Int, resF, resL, RX.ev, tup1, purT, cellR, *] <;> rfl) (by simp [cellR, ltT, PV.lt, lt1]) ?_
        simp only [List.mem_cons, List.not_mem_nil, or_false, forall_eq, forall_eq_or_imp]
        exact ⟨⟨g1, hX, by simp [Obj.lt, PV.lt, lt1]; omega, rfl⟩, g2, hK, kmap_lt.1, kmap_lt.2⟩
    · have hres : resW (b + 24) b X K T (b + 24 + 8) k ks l = [(b + 24, .loop k .ready none), (X, .box [.map K] T), (K, .map (kmap ks)), (b, .box [.osl (b + 24 + 8) l.length] 23), (b + 24 + 8, .row 1 (strs l) 9 false)] := if_neg hl
      rw [hres]
      have e1 : ofL [(b + 24, .loop k .ready none), (X, .box [.map K] T), (K, .map (kmap ks)), (b, .box [.osl (b + 24 + 8) l.length] 23), (b + 24 + 8, .row 1 (strs l) 9 false)] = upd (upd (upd (upd (upd mt (b + 24) (some (.loop k .ready none))) X (some (.box [.map K] T))) K (some (.map (kmap ks)))) b (some (.box [.osl (b + 24 + 8) l.length] 23))) (b + 24 + 8) (some (.row 1 (strs l) 9 false)) := rfl
      refine ⟨k, .ready, none, ?_, by simp, ?_⟩
      · rw [e1, upd_other _ _ (by omega), upd_other _ _ (by omega), upd_other _ _ (by omega), upd_other _ _ (by omega), upd_same]
      · generalize hm2 : rangeM (ofL [(X, .box [.map K] T), (K, .map (kmap ks)), (b, .box [.nsl] 23)]) (b + 24) (ofL [(b + 24, .loop k .ready none), (X, .box [.map K] T), (K, .map (kmap ks)), (b, .box [.osl (b + 24 + 8) l.length] 23), (b + 24 + 8, .row 1 (strs l) 9 false)]) _ = m2
        have g1 : m2 X = some (.box [.map K] T) := by
          rw [← hm2, rangeM_at, if_neg (by omega), if_pos (.inl (by rw [o1]; rfl)), e1, upd_other _ _ (by omega), upd_other _ _ hXb, upd_other _ _ hXK, upd_same]
        have g2 : m2 K = some (.map (kmap ks)) := by
          rw [← hm2, rangeM_at, if_neg (by omega), if_pos (.inl (by rw [o2]; rfl)), e1, upd_other _ _ (by omega), upd_other _ _ hKb, upd_same]
        have g3 : m2 b = some (.box [.osl (b + 32) l.length] 23) := by
          rw [← hm2, rangeM_at, if_neg (by omega), if_pos (.inl (by rw [o3]; rfl)), e1, upd_other _ _ (by omega), upd_same]
        have g4 : m2 (b + 32) = some (.row 1 (strs l) 9 false) := by
          rw [← hm2, rangeM_at, if_neg (by omega), if_pos (.inr ⟨by omega, by omega⟩), e1, upd_same]
        clear hm2 e1 hres hmX hmK o1 o2 o3
        dsimp only
        refine sx ?_
        repeat' (first
    | exact True.intro
    | refine VW.seq ?_
    | refine VW.block ?_
    | ((first | refine VW.skip ?_ | refine VW.exit ?_ | refine VW.reg ?_ | refine VW.regD ?_ | refine VW.ret ?_ | show goA _ _ _ _ _ _ _ _ _ _ | show goB _ _ _ _ _ _ _ _ _ | show goAD _ _ _ _ _ _ _ _ _ _ _ _ _ _ | show goBD _ _ _ _ _ _ _ _ _ _ _); refine sx ?_)
    | refine VW.condT cx ?_
    | refine VW.condF cx ?_
    | refine VW.cond ex ?_ ?_
    | refine imp_nt ?_
    | refine imp_nf ?_
    | refine imp_dt (fun _ => ?_)
    | refine imp_df (fun _ => ?_)
    | (refine fun (_ : _ = true) => ?_)
    | (refine fun (_ : _ = false) => ?_)
    | refine vg_t ?_ ?_
    | refine vg_f ?_ ?_)
        have hrA : resA X K T b ks l = [(X, .box [.map K] T), (K, .map (kmap ks)), (b, .row 1 (strs l) 9 false)] := if_neg hl
        have hcR : cellR b l = .osl b l.length := if_neg hl
        refine ⟨_, _, ⟨l, hperm, rfl, rfl⟩, ?_⟩
        rw [hrA, hcR]
        have hsX : sg b [b + 32] X = X := sg_lt hX
        have hsK : sg b [b + 32] K = K := sg_lt hK
        have hek : (kmap ks).map (fun e => (e.1, renA (sg b [b + 32]) e.2)) = kmap ks := by simp [kmap, renA, ren1]
        refine .ol [b + 32] (exR) (by simp -implicitDefEqProofs only [renS, List.map_cons, List.map_nil, sg_0, sg_1, sg_2, eng, reduceIte, reduceCtorEq, Nat.reduceAdd, Nat.reduceMul, Nat.reduceSub, Nat.reduceEqDiff, Nat.reduceLeDiff, Nat.reduceLT, Nat.reduceDiv, Nat.reduceMod, Int.reduceLE, Int.reduceLT, Int.reduceEq, Int.reduceNeg, Int.reduceAdd, Int.reduceSub, Int.reduceToNat, Nat.reducePow, Int.ofNat_zero, Int.natCast_one, Int.cast_ofNat_Int]) (cxL) (by simp) (by simp) ?_
        simp only [List.mem_cons, List.not_mem_nil, or_false, forall_eq, forall_eq_or_imp]
        refine ⟨⟨?_, by omega, by omega, by simp [Obj.lt, PV.lt, lt1]; omega, rfl⟩, ⟨?_, by omega, by omega, kmap_lt.1, kmap_lt.2⟩, ?_, by simp, by omega, rfl, rfl⟩
        · simp -implicitDefEqProofs only [renS, List.map_cons, List.map_nil, sg_0, sg_1, sg_2, eng, reduceIte, reduceCtorEq, Nat.reduceAdd, Nat.reduceMul, Nat.reduceSub, Nat.reduceEqDiff, Nat.reduceLeDiff, Nat.reduceLT, Nat.reduceDiv, Nat.reduceMod, Int.reduceLE, Int.reduceLT, Int.reduceEq, Int.reduceNeg, Int.reduceAdd, Int.reduceSub, Int.reduceToNat, Nat.reducePow, Int.ofNat_zero, Int.natCast_one, Int.cast_ofNat_Int, *]
        · rw [hsK]; simp only [Obj.ren, hek]; exact g2
        · simp -implicitDefEqProofs only [renS, List.map_cons, List.map_nil, sg_0, sg_1, sg_2, eng, reduceIte, reduceCtorEq, Nat.reduceAdd, Nat.reduceMul, Nat.reduceSub, Nat.reduceEqDiff, Nat.reduceLeDiff, Nat.reduceLT, Nat.reduceDiv, Nat.reduceMod, Int.reduceLE, Int.reduceLT, Int.reduceEq, Int.reduceNeg, Int.reduceAdd, Int.reduceSub, Int.reduceToNat, Nat.reducePow, Int.ofNat_zero, Int.natCast_one, Int.cast_ofNat_Int, *]
end
end Go.Vx
/- Walks of the manager's keys in order: Collect, Sorted; Writes. -/
set_option linter.unusedSimpArgs false
set_option linter.unusedVariables false
set_option maxRecDepth 4000
set_option maxHeartbeats 2000000
namespace Go.Vx
open Go Go.Proofs Go.Shelf

def sortK (l : List Str) : List Str := l.mergeSort fun x y => decide (x ≤ y)
theorem sortK_perm {l l' : List Str} (h : l.Perm l') : sortK l = sortK l' := by
  have tr : ∀ a b c : Str, decide (a ≤ b) = true → decide (b ≤ c) = true → decide (a ≤ c) = true := fun a b c h1 h2 => by simp only [decide_eq_true_eq] at *; exact List.le_trans h1 h2
  have to : ∀ a b : Str, (decide (a ≤ b) || decide (b ≤ a)) = true := fun a b => by simp only [Bool.or_eq_true, decide_eq_true_eq]; exact List.le_total a b
  refine List.Perm.eq_of_pairwise (le := fun a b => decide (a ≤ b) = true) (fun a b _ _ h1 h2 => ?_) (List.pairwise_mergeSort tr to l) (List.pairwise_mergeSort tr to l') (((List.mergeSort_perm l _).trans h).trans (List.mergeSort_perm l' _).symm)
  simp only [decide_eq_true_eq] at h1 h2
  exact List.le_antisymm h1 h2

section
variable {P : Program}
theorem V.sortNil {ρ : Ren} (L : Lays.n190 P ρ) (he : EntersX P (.f (ρ.f 190))) (b : Nat) : V P (ρ.f 190) [.nsl] mt b (.tup []) mt := by
  refine ⟨he, fun w β ok vs hm hf hok hr => ?_⟩
  have hlen := hr.1
  match vs, hlen with
  | [v1], _ =>
  have r1 := hr.2 0 _ v1 rfl rfl
  have h1 : v1 = .slice none 0 0 := by cases r1; rfl
  subst h1
  refine (show Calls P (ρ.f 190) #[.slice none 0 0] w _ from (Any.slices_Sort_string_none L none 0 w).mono ?_)
  rintro e w' ⟨rfl, rfl⟩
  exact ⟨_, _, _, β, ok, rfl, ⟨rfl, rfl⟩, .tup [] [] rfl (by simp), hm, Keeps.refl _ _, fun _ _ => rfl, fun i hi => hf i (by omega), fun _ h => h, hok, fun _ h => .inl h, fun k h => .inl h⟩

/-- What is known of the keys' parts. -/
structure KSort (P : Program) : Prop where
  app : ∀ X K T b, X < b → K < b → X ≠ K → ∀ ks : List Str, ks.length < 1000 → ∀ m : Mem, m X = some (.box [.map K] T) → m K = some (.map (kmap ks)) → VX P (.f 57) [.nsl, .fn 56 [.ptr X 1 0 0]] m b (KA X K T b ks)
def HCol (P : Program) : Prop := ∀ X K T b, X < b → K < b → X ≠ K → ∀ ks : List Str, ks.length < 1000 → ∀ m : Mem, m X = some (.box [.map K] T) → m K = some (.map (kmap ks)) → VX P (.f 54) [.fn 56 [.ptr X 1 0 0]] m b (KA X K T b ks)
def HSort (P : Program) : Prop := (∀ b, V P 55 [.nsl] mt b (.tup []) mt) ∧ ∀ (l : List Str) (D b : Nat), D < b → l.length < 1000 → V P 55 [.osl D l.length] (upd mt D (some (.row 1 (strs l) 9 false))) b (.tup []) (upd mt D (some (.row 1 (strs (sortK l)) 9 false)))

theorem KA.out {X K T b : Nat} {ks : List Str} {r : PV} {m1 m : Mem} (h : KA X K T b ks r m1) (hX : X < b) (hK : K < b) (hXK : X ≠ K) :
    ∃ l, l.Perm ks ∧ r = cellR b l ∧ (patch (ofL [(X, .box [.map K] T), (K, .map (kmap ks))]) b m1 m) X = some (.box [.map K] T) ∧ (patch (ofL [(X, .box [.map K] T), (K, .map (kmap ks))]) b m1 m) K = some (.map (kmap ks)) ∧ (l ≠ [] → (patch (ofL [(X, .box [.map K] T), (K, .map (kmap ks))]) b m1 m) b = some (.row 1 (strs l) 9 false)) ∧
      ∀ id, id ≠ X → id ≠ K → id < b → (patch (ofL [(X, .box [.map K] T), (K, .map (kmap ks))]) b m1 m) id = m id := by
  obtain ⟨l, hp, rfl, rfl⟩ := h
  obtain ⟨o1, o2⟩ := ofL_2 (o := .box [.map K] T) (p := .map (kmap ks)) hXK
  refine ⟨l, hp, rfl, ?_, ?_, fun hl => ?_, fun id h1 h2 h3 => ?_⟩
  · simp only [patch, o1, Option.isSome_some, true_or, if_true]
    unfold resA
    split
    · exact o1
    · simp [ofL, Mem.upds, upd, hXK, (show X ≠ b by omega)]
  · simp only [patch, o2, Option.isSome_some, true_or, if_true]
    unfold resA
    split
    · exact o2
    · simp [ofL, Mem.upds, upd, (show K ≠ b by omega)]
  · simp only [patch]
    rw [if_pos (.inr ⟨by omega, by omega⟩)]
    unfold resA
    rw [if_neg hl]
    simp [ofL, Mem.upds, upd]
  · have : ofL [(X, .box [.map K] T), (K, .map (kmap ks))] id = none := by simp [ofL, Mem.upds, upd, h1, h2, mt]
    simp only [patch, this, Option.isSome_none, Bool.false_eq_true, false_or]
    rw [if_neg (by omega)]

theorem KA.ends {X K T b t D : Nat} {ks l : List Str} {e : Env} {m : Mem} (h : e t = some (cellR D l)) (hp : l.Perm ks) (hX : X < b) (hK : K < b) (g1 : m X = some (.box [.map K] T)) (g2 : m K = some (.map (kmap ks))) (g3 : l ≠ [] → m D = some (.row 1 (strs l) 9 false)) (hD : b ≤ D) : EndsK [.tmp t] b (KA X K T b ks) e m := by
  refine ⟨_, _, ⟨l, hp, rfl, rfl⟩, ?_⟩
  by_cases hl : l = []
  · subst hl
    have hrA : resA X K T b ks [] = [(X, .box [.map K] T), (K, .map (kmap ks))] := if_pos rfl
    rw [hrA]
    refine .keep (by simp [resF, resL, RX.ev, h, tup1, cellR]) (by simp [cellR, ltT, PV.lt, lt1]) ?_
    simp only [List.mem_cons, List.not_mem_nil, or_false, forall_eq, forall_eq_or_imp]
    exact ⟨⟨g1, hX, by simp [Obj.lt, PV.lt, lt1]; omega, rfl⟩, g2, hK, kmap_lt.1, kmap_lt.2⟩
  · have hrA : resA X K T b ks l = [(X, .box [.map K] T), (K, .map (kmap ks)), (b, .row 1 (strs l) 9 false)] := if_neg hl
    have hcR : ∀ b, cellR b l = .osl b l.length := fun b => if_neg hl
    rw [hrA, hcR]
    rw [hcR] at h
    have hsX : sg b [D] X = X := sg_lt hX
    have hsK : sg b [D] K = K := sg_lt hK
    have hek : (kmap ks).map (fun e => (e.1, renA (sg b [D]) e.2)) = kmap ks := by simp [kmap, renA, ren1]
    refine .ol (q := .osl D l.length) [D] (by simp [resF, resL, RX.ev, h, tup1]) (by simp [PV.ren, renA, ren1, sg_0]) (by simp [ltT, PV.lt, lt1]) (by simp [hD]) (by simp) ?_
    simp only [List.mem_cons, List.not_mem_nil, or_false, forall_eq, forall_eq_or_imp]
    refine ⟨⟨?_, by omega, by omega, by simp [Obj.lt, PV.lt, lt1]; omega, rfl⟩, ⟨?_, by omega, by omega, kmap_lt.1, kmap_lt.2⟩, ?_, by simp, by omega, rfl, rfl⟩
    · rw [hsX, g1]; simp [Obj.ren, renA, ren1, hsK]
    · rw [hsK]; simp only [Obj.ren, hek]; exact g2
    · rw [sg_0, g3 hl]; rfl
theorem ofL2_sub {X K T b : Nat} {ks : List Str} {m : Mem} (hX : X < b) (hK : K < b) (g1 : m X = some (.box [.map K] T)) (g2 : m K = some (.map (kmap ks))) : ∀ id o, ofL [(X, .box [.map K] T), (K, .map (kmap ks))] id = some o → m id = some o ∧ id < b ∧ o.lt b = true := by
  intro id o hid
  have := ofL_some hid
  simp only [List.mem_cons, List.not_mem_nil, or_false, Prod.mk.injEq] at this
  rcases this with ⟨rfl, rfl⟩ | ⟨rfl, rfl⟩
  · exact ⟨g1, hX, by simp [Obj.lt, PV.lt, lt1]; exact hK⟩
  · exact ⟨g2, hK, kmap_lt.1⟩

theorem w_collect (h1 : KSort P) (X K T b : Nat) (hX : X < b) (hK : K < b) (hXK : X ≠ K) (ks : List Str) (hkl : ks.length < 1000) (m : Mem) (hmX : m X = some (.box [.map K] T)) (hmK : m K = some (.map (kmap ks))) :
    VW P c54 (PRet (EndsK [.tmp 2] b (KA X K T b ks))) (fun t => [PV.fn 56 [.ptr X 1 0 0]][t]?) m b := by
  unfold c54
  obtain ⟨q1, q2, q3, q4, q5⟩ := below_ne hX
  obtain ⟨r1, r2, r3, r4, r5⟩ := below_ne hK
  obtain ⟨o1, o2⟩ := ofL_2 (o := .box [.map K] T) (p := .map (kmap ks)) hXK
  repeat' (first
    | exact True.intro
    | refine VW.seq ?_
    | refine VW.block ?_
    | ((first | refine VW.skip ?_ | refine VW.exit ?_ | refine VW.reg ?_ | refine VW.regD ?_ | refine VW.ret ?_ | show goA _ _ _ _ _ _ _ _ _ _ | show goB _ _ _ _ _ _ _ _ _ | show goAD _ _ _ _ _ _ _ _ _ _ _ _ _ _ | show goBD _ _ _ _ _ _ _ _ _ _ _); refine sx ?_)
    | refine VW.condT cx ?_
    | refine VW.condF cx ?_
    | refine VW.cond ex ?_ ?_
    | refine imp_nt ?_
    | refine imp_nf ?_
    | refine imp_dt (fun _ => ?_)
    | refine imp_df (fun _ => ?_)
    | (refine fun (_ : _ = true) => ?_)
    | (refine fun (_ : _ = false) => ?_)
    | refine vg_t ?_ ?_
    | refine vg_f ?_ ?_)
  refine .any rfl rfl [.nsl, .fn 56 [.ptr X 1 0 0]] (ofL [(X, .box [.map K] T), (K, .map (kmap ks))]) _ ⟨.inl ⟨rfl, rfl⟩, .inl ⟨rfl, by simp [PV.lt, lt1]; omega⟩, trivial⟩ (ofL2_sub (by omega) (by omega) (cx) (cx)) (h1.app X K T _ (by omega) (by omega) hXK ks hkl _ o1 o2) ?_
  intro r m1 hKA
  obtain ⟨l, hp, rfl, g1, g2, g3, g4⟩ := hKA.out (m := upd m b (some (.row 1 [] 9 false))) (by omega) (by omega) hXK
  generalize patch _ _ m1 _ = m2 at *
  clear hKA
  refine sy ?_
  refine VW.ret ?_
  refine sy ?_
  exact KA.ends (cy) hp hX hK g1 g2 g3 (by omega)

theorem w_sorted (h1 : HCol P) (h2 : HSort P) (X K T b : Nat) (hX : X < b) (hK : K < b) (hXK : X ≠ K) (ks : List Str) (hkl : ks.length < 1000) (m : Mem) (hmX : m X = some (.box [.map K] T)) (hmK : m K = some (.map (kmap ks))) :
    VW P c47 (PRet (Ends [.tmp 2] b (.sl (strs (sortK ks))) (ofL [(X, .box [.map K] T), (K, .map (kmap ks))]))) (fun t => [PV.fn 56 [.ptr X 1 0 0]][t]?) m b := by
  unfold c47
  obtain ⟨q1, q2, q3, q4, q5⟩ := below_ne hX
  obtain ⟨r1, r2, r3, r4, r5⟩ := below_ne hK
  obtain ⟨o1, o2⟩ := ofL_2 (o := .box [.map K] T) (p := .map (kmap ks)) hXK
  repeat' (first
    | exact True.intro
    | refine VW.seq ?_
    | refine VW.block ?_
    | ((first | refine VW.skip ?_ | refine VW.exit ?_ | refine VW.reg ?_ | refine VW.regD ?_ | refine VW.ret ?_ | show goA _ _ _ _ _ _ _ _ _ _ | show goB _ _ _ _ _ _ _ _ _ | show goAD _ _ _ _ _ _ _ _ _ _ _ _ _ _ | show goBD _ _ _ _ _ _ _ _ _ _ _); refine sx ?_)
    | refine VW.condT cx ?_
    | refine VW.condF cx ?_
    | refine VW.cond ex ?_ ?_
    | refine imp_nt ?_
    | refine imp_nf ?_
    | refine imp_dt (fun _ => ?_)
    | refine imp_df (fun _ => ?_)
    | (refine fun (_ : _ = true) => ?_)
    | (refine fun (_ : _ = false) => ?_)
    | refine vg_t ?_ ?_
    | refine vg_f ?_ ?_)
  refine .any rfl rfl [.fn 56 [.ptr X 1 0 0]] (ofL [(X, .box [.map K] T), (K, .map (kmap ks))]) _ ⟨.inl ⟨rfl, by simp [PV.lt, lt1]; omega⟩, trivial⟩ (ofL2_sub (by omega) (by omega) (cx) (cx)) (h1 X K T _ (by omega) (by omega) hXK ks hkl _ o1 o2) ?_
  intro r m1 hKA
  obtain ⟨l, hp, rfl, g1, g2, g3, g4⟩ := hKA.out (m := upd m b (some (.row 1 [] 9 false))) (by omega) (by omega) hXK
  generalize patch _ _ m1 _ = m2 at *
  have hkeep : ∀ m' : Mem, m' X = some (.box [.map K] T) → m' K = some (.map (kmap ks)) → ∀ x ∈ [(X, .box [.map K] T), (K, .map (kmap ks))], m' x.1 = some x.2 ∧ x.1 < b ∧ x.2.lt (b + 8) = true ∧ x.2.fix b = true := fun m' f1 f2 => by
    simp only [List.mem_cons, List.not_mem_nil, or_false, forall_eq, forall_eq_or_imp]; exact ⟨⟨f1, hX, by simp [Obj.lt, PV.lt, lt1]; omega, rfl⟩, f2, hK, kmap_lt.1, kmap_lt.2⟩
  clear hKA g4 hmX hmK o1 o2
  by_cases hl : l = []
  · subst hl
    have hk0 : ks = [] := List.nil_perm.1 hp
    subst hk0
    have hcR : cellR (b + 16) [] = .nsl := rfl
    have hsk : strs (sortK []) = [] := by simp [sortK, strs]
    rw [hcR, hsk]
    clear g3 hp
    refine sx ?_
    repeat' (first
    | exact True.intro
    | refine VW.seq ?_
    | refine VW.block ?_
    | ((first | refine VW.skip ?_ | refine VW.exit ?_ | refine VW.reg ?_ | refine VW.regD ?_ | refine VW.ret ?_ | show goA _ _ _ _ _ _ _ _ _ _ | show goB _ _ _ _ _ _ _ _ _ | show goAD _ _ _ _ _ _ _ _ _ _ _ _ _ _ | show goBD _ _ _ _ _ _ _ _ _ _ _); refine sx ?_)
    | refine VW.condT cx ?_
    | refine VW.condF cx ?_
    | refine VW.cond ex ?_ ?_
    | refine imp_nt ?_
    | refine imp_nf ?_
    | refine imp_dt (fun _ => ?_)
    | refine imp_df (fun _ => ?_)
    | (refine fun (_ : _ = true) => ?_)
    | (refine fun (_ : _ = false) => ?_)
    | refine vg_t ?_ ?_
    | refine vg_f ?_ ?_)
    refine VC.pure [.nsl] _ ⟨.inl ⟨rfl, rfl⟩, trivial⟩ (h2.1 _) ?_
    refine sx ?_
    repeat' (first
    | exact True.intro
    | refine VW.seq ?_
    | refine VW.block ?_
    | ((first | refine VW.skip ?_ | refine VW.exit ?_ | refine VW.reg ?_ | refine VW.regD ?_ | refine VW.ret ?_ | show goA _ _ _ _ _ _ _ _ _ _ | show goB _ _ _ _ _ _ _ _ _ | show goAD _ _ _ _ _ _ _ _ _ _ _ _ _ _ | show goBD _ _ _ _ _ _ _ _ _ _ _); refine sx ?_)
    | refine VW.condT cx ?_
    | refine VW.condF cx ?_
    | refine VW.cond ex ?_ ?_
    | refine imp_nt ?_
    | refine imp_nf ?_
    | refine imp_dt (fun _ => ?_)
    | refine imp_df (fun _ => ?_)
    | (refine fun (_ : _ = true) => ?_)
    | (refine fun (_ : _ = false) => ?_)
    | refine vg_t ?_ ?_
    | refine vg_f ?_ ?_)
    exact .keepR [] (by simp -implicitDefEqProofs only [eng, reduceIte, reduceCtorEq, Nat.reduceAdd, Nat.reduceMul, Nat.reduceSub, Nat.reduceEqDiff, Nat.reduceLeDiff, Nat.reduceLT, Nat.reduceDiv, Nat.reduceMod, Int.reduceLE, Int.reduceLT, Int.reduceEq, Int.reduceNeg, Int.reduceAdd, Int.reduceSub, Int.reduceToNat, Nat.reducePow, Int.ofNat_zero, Int.natCast_one, Int.cast_ofNat_Int, resF, resL, RX.ev, tup1, purT] <;> rfl) (by simp -implicitDefEqProofs only [resF, resL, RX.ev, tup1, purT, eng, reduceIte, reduceCtorEq, Nat.reduceAdd, Nat.reduceMul, Nat.reduceSub, Nat.reduceEqDiff, Nat.reduceLeDiff, Nat.reduceLT, Nat.reduceDiv, Nat.reduceMod, Int.reduceLE, Int.reduceLT, Int.reduceEq, Int.reduceNeg, Int.reduceAdd, Int.reduceSub, Int.reduceToNat, Nat.reducePow, Int.ofNat_zero, Int.natCast_one, Int.cast_ofNat_Int] <;> rfl) (hkeep _ g1 g2) (by simp only [List.mem_cons, List.not_mem_nil, or_false, forall_eq, forall_eq_or_imp]; exact ⟨rfl, rfl⟩)
  · have hcR : cellR (b + 16) l = .osl (b + 16) l.length := if_neg hl
    have hll : l.length < 1000 := by rw [hp.length_eq]; exact hkl
    have hsl : (sortK l).length = l.length := by simp [sortK]
    have hsl' := strs_len' (l := sortK l)
    have hse : sortK ks = sortK l := (sortK_perm hp).symm
    replace g3 := g3 hl
    rw [hcR, hse]
    clear hl hp hcR hse
    refine sx ?_
    repeat' (first
    | exact True.intro
    | refine VW.seq ?_
    | refine VW.block ?_
    | ((first | refine VW.skip ?_ | refine VW.exit ?_ | refine VW.reg ?_ | refine VW.regD ?_ | refine VW.ret ?_ | show goA _ _ _ _ _ _ _ _ _ _ | show goB _ _ _ _ _ _ _ _ _ | show goAD _ _ _ _ _ _ _ _ _ _ _ _ _ _ | show goBD _ _ _ _ _ _ _ _ _ _ _); refine sx ?_)
    | refine VW.condT cx ?_
    | refine VW.condF cx ?_
    | refine VW.cond ex ?_ ?_
    | refine imp_nt ?_
    | refine imp_nf ?_
    | refine imp_dt (fun _ => ?_)
    | refine imp_df (fun _ => ?_)
    | (refine fun (_ : _ = true) => ?_)
    | (refine fun (_ : _ = false) => ?_)
    | refine vg_t ?_ ?_
    | refine vg_f ?_ ?_)
    refine .own rfl [.osl (b + 16) l.length] (b + 16) (.row 1 (strs l) 9 false) (.row 1 (strs (sortK l)) 9 false) _ ⟨.inl ⟨rfl, by simp [PV.lt, lt1]⟩, trivial⟩ (cx) (by omega) rfl (h2.2 l _ _ (by omega) hll) ?_
    refine sx ?_
    repeat' (first
    | exact True.intro
    | refine VW.seq ?_
    | refine VW.block ?_
    | ((first | refine VW.skip ?_ | refine VW.exit ?_ | refine VW.reg ?_ | refine VW.regD ?_ | refine VW.ret ?_ | show goA _ _ _ _ _ _ _ _ _ _ | show goB _ _ _ _ _ _ _ _ _ | show goAD _ _ _ _ _ _ _ _ _ _ _ _ _ _ | show goBD _ _ _ _ _ _ _ _ _ _ _); refine sx ?_)
    | refine VW.condT cx ?_
    | refine VW.condF cx ?_
    | refine VW.cond ex ?_ ?_
    | refine imp_nt ?_
    | refine imp_nf ?_
    | refine imp_dt (fun _ => ?_)
    | refine imp_df (fun _ => ?_)
    | (refine fun (_ : _ = true) => ?_)
    | (refine fun (_ : _ = false) => ?_)
    | refine vg_t ?_ ?_
    | refine vg_f ?_ ?_)
    exact .keepRow (ey) (ey) (by rw [hsl', hsl]) rfl (hkeep _ (cx) (cx)) (by simp only [List.mem_cons, List.not_mem_nil, or_false, forall_eq, forall_eq_or_imp]; exact ⟨rfl, rfl⟩)
end
end Go.Vx
/- Walks of the manager: Writes. -/
set_option linter.unusedSimpArgs false
set_option linter.unusedVariables false
set_option maxRecDepth 4000
set_option maxHeartbeats 2000000
namespace Go.Vx
open Go Go.Proofs Go.Shelf

structure TKeys (P : Program) : Prop where
  keys : ∀ K b, K < b → V P 48 [.map K] mt b (.fn 56 [.ptr b 1 0 0]) (upd mt b (some (.box [.map K] 56)))
  sorted : ∀ X K T b, X < b → K < b → X ≠ K → ∀ ks : List Str, ks.length < 1000 → V P 47 [.fn 56 [.ptr X 1 0 0]] (ofL [(X, .box [.map K] T), (K, .map (kmap ks))]) b (.sl (strs (sortK ks))) (ofL [(X, .box [.map K] T), (K, .map (kmap ks))])

section
variable {P : Program}
theorem w_writesR (h1 : Opened P) (M b : Nat) (hM : M < b) (z : Int) (hi : z < 0 ∨ 4 ≤ z) : VW P c27 (PRet (Ends [.tmp 4] b (.sl (strs [])) mt)) (fun t => [PV.ptr M 15 0 0, iv z][t]?) mt b := by
  unfold c27
  obtain ⟨n1, n2, n3, n4, n5⟩ := below_ne hM
  repeat' (first
    | exact True.intro
    | refine VW.seq ?_
    | refine VW.block ?_
    | ((first | refine VW.skip ?_ | refine VW.exit ?_ | refine VW.reg ?_ | refine VW.regD ?_ | refine VW.ret ?_ | show goA _ _ _ _ _ _ _ _ _ _ | show goB _ _ _ _ _ _ _ _ _ | show goAD _ _ _ _ _ _ _ _ _ _ _ _ _ _ | show goBD _ _ _ _ _ _ _ _ _ _ _); refine sx ?_)
    | refine VW.condT cx ?_
    | refine VW.condF cx ?_
    | refine VW.cond ex ?_ ?_
    | refine imp_nt ?_
    | refine imp_nf ?_
    | refine imp_dt (fun _ => ?_)
    | refine imp_df (fun _ => ?_)
    | (refine fun (_ : _ = true) => ?_)
    | (refine fun (_ : _ = false) => ?_)
    | refine vg_t ?_ ?_
    | refine vg_f ?_ ?_)
  refine VC.openedR h1 (by omega) hi ?_
  refine sx ?_
  repeat' (first
    | exact True.intro
    | refine VW.seq ?_
    | refine VW.block ?_
    | ((first | refine VW.skip ?_ | refine VW.exit ?_ | refine VW.reg ?_ | refine VW.regD ?_ | refine VW.ret ?_ | show goA _ _ _ _ _ _ _ _ _ _ | show goB _ _ _ _ _ _ _ _ _ | show goAD _ _ _ _ _ _ _ _ _ _ _ _ _ _ | show goBD _ _ _ _ _ _ _ _ _ _ _); refine sx ?_)
    | refine VW.condT cx ?_
    | refine VW.condF cx ?_
    | refine VW.cond ex ?_ ?_
    | refine imp_nt ?_
    | refine imp_nf ?_
    | refine imp_dt (fun _ => ?_)
    | refine imp_df (fun _ => ?_)
    | (refine fun (_ : _ = true) => ?_)
    | (refine fun (_ : _ = false) => ?_)
    | refine vg_t ?_ ?_
    | refine vg_f ?_ ?_)
  exact .tmprE (ex) (ex) (by simp) (by simp [strs])
theorem w_writes0 (h1 : Opened P) (M b : Nat) (hM : M < b) (g : Mg) (hg : g.ok b) (z : Int) (i : Nat) (hi : Ix z i) (ho : (g.get i).o = false) (m : Mem) (hm : m M = some g.box) : VW P c27 (PRet (Ends [.tmp 4] b (.sl (strs [])) (ofL [(M, g.box)]))) (fun t => [PV.ptr M 15 0 0, iv z][t]?) m b := by
  unfold c27
  obtain ⟨n1, n2, n3, n4, n5⟩ := below_ne hM
  repeat' (first
    | exact True.intro
    | refine VW.seq ?_
    | refine VW.block ?_
    | ((first | refine VW.skip ?_ | refine VW.exit ?_ | refine VW.reg ?_ | refine VW.regD ?_ | refine VW.ret ?_ | show goA _ _ _ _ _ _ _ _ _ _ | show goB _ _ _ _ _ _ _ _ _ | show goAD _ _ _ _ _ _ _ _ _ _ _ _ _ _ | show goBD _ _ _ _ _ _ _ _ _ _ _); refine sx ?_)
    | refine VW.condT cx ?_
    | refine VW.condF cx ?_
    | refine VW.cond ex ?_ ?_
    | refine imp_nt ?_
    | refine imp_nf ?_
    | refine imp_dt (fun _ => ?_)
    | refine imp_df (fun _ => ?_)
    | (refine fun (_ : _ = true) => ?_)
    | (refine fun (_ : _ = false) => ?_)
    | refine vg_t ?_ ?_
    | refine vg_f ?_ ?_)
  refine VC.opened h1 (by omega) hi (hg.mono (by omega)) (cx) ?_
  refine sx ?_
  repeat' (first
    | exact True.intro
    | refine VW.seq ?_
    | refine VW.block ?_
    | ((first | refine VW.skip ?_ | refine VW.exit ?_ | refine VW.reg ?_ | refine VW.regD ?_ | refine VW.ret ?_ | show goA _ _ _ _ _ _ _ _ _ _ | show goB _ _ _ _ _ _ _ _ _ | show goAD _ _ _ _ _ _ _ _ _ _ _ _ _ _ | show goBD _ _ _ _ _ _ _ _ _ _ _); refine sx ?_)
    | refine VW.condT cx ?_
    | refine VW.condF cx ?_
    | refine VW.cond ex ?_ ?_
    | refine imp_nt ?_
    | refine imp_nf ?_
    | refine imp_dt (fun _ => ?_)
    | refine imp_df (fun _ => ?_)
    | (refine fun (_ : _ = true) => ?_)
    | (refine fun (_ : _ = false) => ?_)
    | refine vg_t ?_ ?_
    | refine vg_f ?_ ?_)
  exact .keepRow (ex) (ex) (by simp) (by simp [strs]) (one_keep hM (cx) hg) (by simp only [List.mem_cons, List.not_mem_nil, or_false, forall_eq, forall_eq_or_imp]; rfl)
theorem w_writes1 (h1 : Opened P) (h2 : TKeys P) (M K b : Nat) (hM : M < b) (hK : K < b) (hMK : M ≠ K) (g : Mg) (hg : g.ok b) (z : Int) (i : Nat) (hi : Ix z i) (ho : (g.get i).o = true) (hgk : (g.get i).k = .map K) (ks : List Str) (hkl : ks.length < 1000) (m : Mem) (hm : m M = some g.box) (hmk : m K = some (.map (kmap ks))) :
    VW P c27 (PRet (Ends [.tmp 4] b (.sl (strs (sortK ks))) (ofL [(M, g.box), (K, .map (kmap ks))]))) (fun t => [PV.ptr M 15 0 0, iv z][t]?) m b := by
  unfold c27
  obtain ⟨n1, n2, n3, n4, n5⟩ := below_ne hM
  obtain ⟨k1, k2, k3, k4, k5⟩ := below_ne hK
  repeat' (first
    | exact True.intro
    | refine VW.seq ?_
    | refine VW.block ?_
    | ((first | refine VW.skip ?_ | refine VW.exit ?_ | refine VW.reg ?_ | refine VW.regD ?_ | refine VW.ret ?_ | show goA _ _ _ _ _ _ _ _ _ _ | show goB _ _ _ _ _ _ _ _ _ | show goAD _ _ _ _ _ _ _ _ _ _ _ _ _ _ | show goBD _ _ _ _ _ _ _ _ _ _ _); refine sx ?_)
    | refine VW.condT cx ?_
    | refine VW.condF cx ?_
    | refine VW.cond ex ?_ ?_
    | refine imp_nt ?_
    | refine imp_nf ?_
    | refine imp_dt (fun _ => ?_)
    | refine imp_df (fun _ => ?_)
    | (refine fun (_ : _ = true) => ?_)
    | (refine fun (_ : _ = false) => ?_)
    | refine vg_t ?_ ?_
    | refine vg_f ?_ ?_)
  refine VC.opened h1 (by omega) hi (hg.mono (by omega)) (cx) ?_
  refine sx ?_
  rcases hi.four with ⟨rfl, rfl⟩ | ⟨rfl, rfl⟩ | ⟨rfl, rfl⟩ | ⟨rfl, rfl⟩
  all_goals
    simp only [Mg.get] at ho hgk
    repeat' (first
    | exact True.intro
    | refine VW.seq ?_
    | refine VW.block ?_
    | ((first | refine VW.skip ?_ | refine VW.exit ?_ | refine VW.reg ?_ | refine VW.regD ?_ | refine VW.ret ?_ | show goA _ _ _ _ _ _ _ _ _ _ | show goB _ _ _ _ _ _ _ _ _ | show goAD _ _ _ _ _ _ _ _ _ _ _ _ _ _ | show goBD _ _ _ _ _ _ _ _ _ _ _); refine sx ?_)
    | refine VW.condT cx ?_
    | refine VW.condF cx ?_
    | refine VW.cond ex ?_ ?_
    | refine imp_nt ?_
    | refine imp_nf ?_
    | refine imp_dt (fun _ => ?_)
    | refine imp_df (fun _ => ?_)
    | (refine fun (_ : _ = true) => ?_)
    | (refine fun (_ : _ = false) => ?_)
    | refine vg_t ?_ ?_
    | refine vg_f ?_ ?_)
    refine .new [.map K] _ _ ⟨.inl ⟨rfl, by simp [PV.lt, lt1]; omega⟩, trivial⟩ (h2.keys K _ (by omega)) ?_
    refine sx ?_
    repeat' (first
    | exact True.intro
    | refine VW.seq ?_
    | refine VW.block ?_
    | ((first | refine VW.skip ?_ | refine VW.exit ?_ | refine VW.reg ?_ | refine VW.regD ?_ | refine VW.ret ?_ | show goA _ _ _ _ _ _ _ _ _ _ | show goB _ _ _ _ _ _ _ _ _ | show goAD _ _ _ _ _ _ _ _ _ _ _ _ _ _ | show goBD _ _ _ _ _ _ _ _ _ _ _); refine sx ?_)
    | refine VW.condT cx ?_
    | refine VW.condF cx ?_
    | refine VW.cond ex ?_ ?_
    | refine imp_nt ?_
    | refine imp_nf ?_
    | refine imp_dt (fun _ => ?_)
    | refine imp_df (fun _ => ?_)
    | (refine fun (_ : _ = true) => ?_)
    | (refine fun (_ : _ = false) => ?_)
    | refine vg_t ?_ ?_
    | refine vg_f ?_ ?_)

    refine VC.same (qs := [.fn 56 [.ptr (b + 120) 1 0 0]]) (l := [(b + 120, .box [.map K] 56), (K, .map (kmap ks))]) ⟨.inl ⟨rfl, by simp [PV.lt, lt1]⟩, trivial⟩ ?_ (h2.sorted _ K 56 _ (by omega) (by omega) (by omega) ks hkl) ?_
    · simp only [List.mem_cons, List.not_mem_nil, or_false, forall_eq, forall_eq_or_imp]; exact ⟨⟨cx, by omega, by simp [Obj.lt, PV.lt, lt1]; omega⟩, cx, by omega, kmap_lt.1⟩
    refine sx ?_
    repeat' (first
    | exact True.intro
    | refine VW.seq ?_
    | refine VW.block ?_
    | ((first | refine VW.skip ?_ | refine VW.exit ?_ | refine VW.reg ?_ | refine VW.regD ?_ | refine VW.ret ?_ | show goA _ _ _ _ _ _ _ _ _ _ | show goB _ _ _ _ _ _ _ _ _ | show goAD _ _ _ _ _ _ _ _ _ _ _ _ _ _ | show goBD _ _ _ _ _ _ _ _ _ _ _); refine sx ?_)
    | refine VW.condT cx ?_
    | refine VW.condF cx ?_
    | refine VW.cond ex ?_ ?_
    | refine imp_nt ?_
    | refine imp_nf ?_
    | refine imp_dt (fun _ => ?_)
    | refine imp_df (fun _ => ?_)
    | (refine fun (_ : _ = true) => ?_)
    | (refine fun (_ : _ = false) => ?_)
    | refine vg_t ?_ ?_
    | refine vg_f ?_ ?_)
    exact .keep (exR) (by simp -implicitDefEqProofs only [ltS, lt8, List.all_cons, List.all_nil, eng, reduceIte, reduceCtorEq, Nat.reduceAdd, Nat.reduceMul, Nat.reduceSub, Nat.reduceEqDiff, Nat.reduceLeDiff, Nat.reduceLT, Nat.reduceDiv, Nat.reduceMod, Int.reduceLE, Int.reduceLT, Int.reduceEq, Int.reduceNeg, Int.reduceAdd, Int.reduceSub, Int.reduceToNat, Nat.reducePow, Int.ofNat_zero, Int.natCast_one, Int.cast_ofNat_Int, *]  <;> rfl) (two_keep hM hK (cx) (cx) (Mg.blt hg) kmap_lt.1 rfl kmap_lt.2)
end

section
theorem cKeysF : HKeys Try.prog := fun k L C hy X K T b hL hC hX hK ht ks hkl m g1 g2 g3 g4 => VX.code mixed k56 (by simp) (w_mkeysF hy X K T b hL hC hX hK ht ks hkl m g1 g2 g3 g4)
theorem cKSort : KSort Try.prog := ⟨fun X K T b hX hK hXK ks hkl m g1 g2 => VX.code mixed k57 (by simp) (w_appseq mixed cKeysF X K T b hX hK hXK ks hkl m g1 g2)⟩
theorem cCol : HCol Try.prog := fun X K T b hX hK hXK ks hkl m g1 g2 => VX.code mixed k54 (by simp) (w_collect cKSort X K T b hX hK hXK ks hkl m g1 g2)
theorem cSort : HSort Try.prog := by
  have he : EntersX Try.prog (.f 55) := enters_of Try.sortStr.f190 (by kernel_rfl) rfl
  exact ⟨fun b => V.sortNil Try.sortStr he b, fun l D b hD hl => V.sortStr Try.sortStr he l (by omega) hD⟩
theorem cTKeys : TKeys Try.prog := ⟨fun K b hK => V.code mixed k48 (by simp) (w_mkeys K b hK), fun X K T b hX hK hXK ks hkl => by
  obtain ⟨o1, o2⟩ := ofL_2 (o := .box [.map K] T) (p := .map (kmap ks)) hXK
  exact V.code mixed k47 (by simp) (w_sorted cCol cSort X K T b hX hK hXK ks hkl _ o1 o2)⟩
end
end Go.Vx
