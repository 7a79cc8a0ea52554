/- SpanLists, walked. -/
import Derived.Test.YtfeobpjoifffiaaSN
set_option linter.unusedSimpArgs false
set_option linter.unusedVariables false
namespace Go.Vx
open Go Go.Proofs

theorem v39 (l : List Sp) (b : Nat) : V Try.prog 39 [.sl (sps l)] mt b (.osl b 2000) (upd mt b (some (.row 1 (rowOf (covRB l)) 4 false))) := V.code mixed k39 (by simp) (w39 v17 l b)
theorem v38 (f : Nat → Bool) (b : Nat) : V Try.prog 38 [.sl (rowOf f)] mt b (.sl (sps (ofF f))) mt := V.code mixed k38 (by simp) (w38 f b)
theorem v29 (l : List Sp) (b : Nat) : V Try.prog 29 [.sl (sps l)] mt b (.sl (sps (joinF l))) mt := V.code mixed k29 (by simp) (w29 v39 v38 l b)
theorem v30 (l : List Sp) (x y : Int) (b : Nat) : V Try.prog 30 [.sl (sps l), asp x y] mt b (.sl (sps (gapsF l x y))) mt := V.code mixed k30 (by simp) (w30 v39 v38 l x y b)
theorem v28 (x y u v : Int) (b : Nat) : V Try.prog 28 [asp x y, asp u v] mt b (.sl (sps (minusF x y u v))) mt := V.code mixed k28 (by simp) (w28 v30 x y u v b)
theorem v31 (l : List Sp) (x y : Int) (b : Nat) : V Try.prog 31 [.sl (sps l), asp x y] mt b (.bool (rightB x y && decide (gapsF l x y = []))) mt := V.code mixed k31 (by simp) (w31 v17 v30 l x y b)
theorem v32 (l : List Sp) (b : Nat) : V Try.prog 32 [.sl (sps l)] mt b (.int .i64 (sumF (joinF l))) mt := V.code mixed k32 (by simp) (w32 v39 l b)
theorem v33 (l : List Sp) (h : l.length < 4294967296) (b : Nat) : V Try.prog 33 [.sl (sps l)] mt b (.bool (decide (Ap l))) mt := V.code mixed k33 (by simp) (w33 v37 l h b)
theorem v34 (l : List Sp) (h : l.length < 4294967296) (b : Nat) : V Try.prog 34 [.sl (sps l)] mt b (.bool (decide (Ap l))) mt := V.code mixed k34 (by simp) (w34 v21 l h b)
theorem ap_canon {l : List Sp} (h : Canon l) : Ap l := h.2.imp fun {a b} hab => by
  rw [overR_eq]
  simp [overB]
  intros
  omega

section
variable {P : Program}
theorem w7 (x y u v : Int) (l0 l : List Sp) (h10 : ∀ b, V P 10 [.sl (sps l0)] mt b (.sl (sps l)) mt) (h11 : ∀ b, V P 11 [.sl (sps l)] mt b (.sl (sps (joinF l))) mt) (h12 : ∀ b, V P 12 [] mt b (.bool true) mt)
    (h13 : ∀ xs ys b, V P 13 [.sl (sps xs), .sl (sps ys)] mt b (.bool (decide (xs = ys))) mt)
    (h24 : ∀ b, V P 24 [asp x y, asp u v] mt b (.sl (sps (minusF x y u v))) mt) (h28 : ∀ b, V P 28 [asp x y, asp u v] mt b (.sl (sps (minusF x y u v))) mt)
    (h29 : ∀ b, V P 29 [.sl (sps l)] mt b (.sl (sps (joinF l))) mt)
    (h25 : ∀ b, V P 25 [.sl (sps l), asp x y] mt b (.sl (sps (gapsF l x y))) mt) (h30 : ∀ b, V P 30 [.sl (sps l), asp x y] mt b (.sl (sps (gapsF l x y))) mt)
    (h26 : ∀ b, V P 26 [.sl (sps l), asp x y] mt b (.bool (rightB x y && decide (gapsF l x y = []))) mt) (h31 : ∀ b, V P 31 [.sl (sps l), asp x y] mt b (.bool (rightB x y && decide (gapsF l x y = []))) mt)
    (h27 : ∀ b, V P 27 [.sl (sps l)] mt b (.int .i64 (sumF (joinF l))) mt) (h32 : ∀ b, V P 32 [.sl (sps l)] mt b (.int .i64 (sumF (joinF l))) mt)
    (h33 : ∀ b, V P 33 [.sl (sps l)] mt b (.bool (decide (Ap l))) mt) (h34 : ∀ b, V P 34 [.sl (sps l)] mt b (.bool (decide (Ap l))) mt) (h33j : ∀ b, V P 33 [.sl (sps (joinF l))] mt b (.bool true) mt) (b : Nat) :
    VW P c7 (PRet (Ends [.tmp 6] b (.bool true) mt)) (fun t => [asp x y, asp u v, PV.sl (sps l0)][t]?) mt b := by
  unfold c7
  have h13a := fun xs b => (by simpa using h13 xs xs b : V P 13 [.sl (sps xs), .sl (sps xs)] mt b (.bool true) mt)
  generalize decide (Ap l) = ap at *
  generalize (rightB x y && decide (gapsF l x y = [])) = cv at *
  generalize sumF (joinF l) = sm at *
  clear h13
  repeat' (first
    | refine VW.seq ?_
    | refine VW.block ?_
    | (refine VW.skip ?_; simp -implicitDefEqProofs only [eng, reduceIte, reduceCtorEq, Nat.reduceAdd, Nat.reduceMul, Nat.reduceSub, Nat.reduceEqDiff, Nat.reduceLeDiff, Nat.reduceLT, Nat.reduceDiv, Nat.reduceMod, Int.reduceLE, Int.reduceLT, Int.reduceEq, Int.reduceNeg, Int.reduceAdd, Int.reduceSub, Int.reduceToNat, Nat.reducePow])
    | (refine VW.exit ?_; simp -implicitDefEqProofs only [eng, reduceIte, reduceCtorEq, Nat.reduceAdd, Nat.reduceMul, Nat.reduceSub, Nat.reduceEqDiff, Nat.reduceLeDiff, Nat.reduceLT, Nat.reduceDiv, Nat.reduceMod, Int.reduceLE, Int.reduceLT, Int.reduceEq, Int.reduceNeg, Int.reduceAdd, Int.reduceSub, Int.reduceToNat, Nat.reducePow])
    | (refine VW.reg ?_; simp -implicitDefEqProofs only [eng, reduceIte, reduceCtorEq, Nat.reduceAdd, Nat.reduceMul, Nat.reduceSub, Nat.reduceEqDiff, Nat.reduceLeDiff, Nat.reduceLT, Nat.reduceDiv, Nat.reduceMod, Int.reduceLE, Int.reduceLT, Int.reduceEq, Int.reduceNeg, Int.reduceAdd, Int.reduceSub, Int.reduceToNat, Nat.reducePow, *])
    | (refine VW.regD ?_; simp -implicitDefEqProofs only [eng, reduceIte, reduceCtorEq, Nat.reduceAdd, Nat.reduceMul, Nat.reduceSub, Nat.reduceEqDiff, Nat.reduceLeDiff, Nat.reduceLT, Nat.reduceDiv, Nat.reduceMod, Int.reduceLE, Int.reduceLT, Int.reduceEq, Int.reduceNeg, Int.reduceAdd, Int.reduceSub, Int.reduceToNat, Nat.reducePow, *])
    | (refine VW.condT ?_ ?_; focus (simp -implicitDefEqProofs only [eng, reduceIte, reduceCtorEq, Nat.reduceAdd, Nat.reduceMul, Nat.reduceSub, Nat.reduceEqDiff, Nat.reduceLeDiff, Nat.reduceLT, Nat.reduceDiv, Nat.reduceMod, Int.reduceLE, Int.reduceLT, Int.reduceEq, Int.reduceNeg, Int.reduceAdd, Int.reduceSub, Int.reduceToNat, Nat.reducePow, *]; done))
    | (refine VW.condF ?_ ?_; focus (simp -implicitDefEqProofs only [eng, reduceIte, reduceCtorEq, Nat.reduceAdd, Nat.reduceMul, Nat.reduceSub, Nat.reduceEqDiff, Nat.reduceLeDiff, Nat.reduceLT, Nat.reduceDiv, Nat.reduceMod, Int.reduceLE, Int.reduceLT, Int.reduceEq, Int.reduceNeg, Int.reduceAdd, Int.reduceSub, Int.reduceToNat, Nat.reducePow, *]; done))
    | (apply VW.cond; focus (simp -implicitDefEqProofs only [eng, reduceIte, reduceCtorEq, Nat.reduceAdd, Nat.reduceMul, Nat.reduceSub, Nat.reduceEqDiff, Nat.reduceLeDiff, Nat.reduceLT, Nat.reduceDiv, Nat.reduceMod, Int.reduceLE, Int.reduceLT, Int.reduceEq, Int.reduceNeg, Int.reduceAdd, Int.reduceSub, Int.reduceToNat, Nat.reducePow, *]; rfl))
    | refine imp_nt ?_
    | refine imp_nf ?_
    | refine imp_dt (fun _ => ?_)
    | refine imp_df (fun _ => ?_)
    | (refine fun (_ : _ = true) => ?_)
    | (refine fun (_ : _ = false) => ?_)
    | (refine VW.ret ?_; simp -implicitDefEqProofs only [eng, reduceIte, reduceCtorEq, Nat.reduceAdd, Nat.reduceMul, Nat.reduceSub, Nat.reduceEqDiff, Nat.reduceLeDiff, Nat.reduceLT, Nat.reduceDiv, Nat.reduceMod, Int.reduceLE, Int.reduceLT, Int.reduceEq, Int.reduceNeg, Int.reduceAdd, Int.reduceSub, Int.reduceToNat, Nat.reducePow])
    | refine vg_t ?_ ?_
    | refine vg_f ?_ ?_
    | (show goA _ _ _ _ _ _ _ _ _ _; simp -implicitDefEqProofs only [eng, reduceIte, reduceCtorEq, Nat.reduceAdd, Nat.reduceMul, Nat.reduceSub, Nat.reduceEqDiff, Nat.reduceLeDiff, Nat.reduceLT, Nat.reduceDiv, Nat.reduceMod, Int.reduceLE, Int.reduceLT, Int.reduceEq, Int.reduceNeg, Int.reduceAdd, Int.reduceSub, Int.reduceToNat, Nat.reducePow, *])
    | (show goB _ _ _ _ _ _ _ _ _; simp -implicitDefEqProofs only [eng, reduceIte, reduceCtorEq, Nat.reduceAdd, Nat.reduceMul, Nat.reduceSub, Nat.reduceEqDiff, Nat.reduceLeDiff, Nat.reduceLT, Nat.reduceDiv, Nat.reduceMod, Int.reduceLE, Int.reduceLT, Int.reduceEq, Int.reduceNeg, Int.reduceAdd, Int.reduceSub, Int.reduceToNat, Nat.reducePow, *])
    | (show goAD _ _ _ _ _ _ _ _ _ _ _ _; simp -implicitDefEqProofs only [eng, reduceIte, reduceCtorEq, Nat.reduceAdd, Nat.reduceMul, Nat.reduceSub, Nat.reduceEqDiff, Nat.reduceLeDiff, Nat.reduceLT, Nat.reduceDiv, Nat.reduceMod, Int.reduceLE, Int.reduceLT, Int.reduceEq, Int.reduceNeg, Int.reduceAdd, Int.reduceSub, Int.reduceToNat, Nat.reducePow, *])
    | (show goBD _ _ _ _ _ _ _ _ _; simp -implicitDefEqProofs only [eng, reduceIte, reduceCtorEq, Nat.reduceAdd, Nat.reduceMul, Nat.reduceSub, Nat.reduceEqDiff, Nat.reduceLeDiff, Nat.reduceLT, Nat.reduceDiv, Nat.reduceMod, Int.reduceLE, Int.reduceLT, Int.reduceEq, Int.reduceNeg, Int.reduceAdd, Int.reduceSub, Int.reduceToNat, Nat.reducePow, *])
    | (refine VC.p0 (h12 _) ?_; simp -implicitDefEqProofs only [eng, reduceIte, reduceCtorEq, Nat.reduceAdd, Nat.reduceMul, Nat.reduceSub, Nat.reduceEqDiff, Nat.reduceLeDiff, Nat.reduceLT, Nat.reduceDiv, Nat.reduceMod, Int.reduceLE, Int.reduceLT, Int.reduceEq, Int.reduceNeg, Int.reduceAdd, Int.reduceSub, Int.reduceToNat, Nat.reducePow, *])
    | (refine VC.p1 (h10 _) rfl rfl ?_; simp -implicitDefEqProofs only [eng, reduceIte, reduceCtorEq, Nat.reduceAdd, Nat.reduceMul, Nat.reduceSub, Nat.reduceEqDiff, Nat.reduceLeDiff, Nat.reduceLT, Nat.reduceDiv, Nat.reduceMod, Int.reduceLE, Int.reduceLT, Int.reduceEq, Int.reduceNeg, Int.reduceAdd, Int.reduceSub, Int.reduceToNat, Nat.reducePow, *])
    | (refine VC.p1 (h11 _) rfl rfl ?_; simp -implicitDefEqProofs only [eng, reduceIte, reduceCtorEq, Nat.reduceAdd, Nat.reduceMul, Nat.reduceSub, Nat.reduceEqDiff, Nat.reduceLeDiff, Nat.reduceLT, Nat.reduceDiv, Nat.reduceMod, Int.reduceLE, Int.reduceLT, Int.reduceEq, Int.reduceNeg, Int.reduceAdd, Int.reduceSub, Int.reduceToNat, Nat.reducePow, *])
    | (refine VC.p2 (h13a _ _) rfl rfl rfl rfl ?_; simp -implicitDefEqProofs only [eng, reduceIte, reduceCtorEq, Nat.reduceAdd, Nat.reduceMul, Nat.reduceSub, Nat.reduceEqDiff, Nat.reduceLeDiff, Nat.reduceLT, Nat.reduceDiv, Nat.reduceMod, Int.reduceLE, Int.reduceLT, Int.reduceEq, Int.reduceNeg, Int.reduceAdd, Int.reduceSub, Int.reduceToNat, Nat.reducePow, *])
    | (refine VC.p2 (h24 _) rfl rfl rfl rfl ?_; simp -implicitDefEqProofs only [eng, reduceIte, reduceCtorEq, Nat.reduceAdd, Nat.reduceMul, Nat.reduceSub, Nat.reduceEqDiff, Nat.reduceLeDiff, Nat.reduceLT, Nat.reduceDiv, Nat.reduceMod, Int.reduceLE, Int.reduceLT, Int.reduceEq, Int.reduceNeg, Int.reduceAdd, Int.reduceSub, Int.reduceToNat, Nat.reducePow, *])
    | (refine VC.p2 (h28 _) rfl rfl rfl rfl ?_; simp -implicitDefEqProofs only [eng, reduceIte, reduceCtorEq, Nat.reduceAdd, Nat.reduceMul, Nat.reduceSub, Nat.reduceEqDiff, Nat.reduceLeDiff, Nat.reduceLT, Nat.reduceDiv, Nat.reduceMod, Int.reduceLE, Int.reduceLT, Int.reduceEq, Int.reduceNeg, Int.reduceAdd, Int.reduceSub, Int.reduceToNat, Nat.reducePow, *])
    | (refine VC.p1 (h29 _) rfl rfl ?_; simp -implicitDefEqProofs only [eng, reduceIte, reduceCtorEq, Nat.reduceAdd, Nat.reduceMul, Nat.reduceSub, Nat.reduceEqDiff, Nat.reduceLeDiff, Nat.reduceLT, Nat.reduceDiv, Nat.reduceMod, Int.reduceLE, Int.reduceLT, Int.reduceEq, Int.reduceNeg, Int.reduceAdd, Int.reduceSub, Int.reduceToNat, Nat.reducePow, *])
    | (refine VC.p2 (h25 _) rfl rfl rfl rfl ?_; simp -implicitDefEqProofs only [eng, reduceIte, reduceCtorEq, Nat.reduceAdd, Nat.reduceMul, Nat.reduceSub, Nat.reduceEqDiff, Nat.reduceLeDiff, Nat.reduceLT, Nat.reduceDiv, Nat.reduceMod, Int.reduceLE, Int.reduceLT, Int.reduceEq, Int.reduceNeg, Int.reduceAdd, Int.reduceSub, Int.reduceToNat, Nat.reducePow, *])
    | (refine VC.p2 (h30 _) rfl rfl rfl rfl ?_; simp -implicitDefEqProofs only [eng, reduceIte, reduceCtorEq, Nat.reduceAdd, Nat.reduceMul, Nat.reduceSub, Nat.reduceEqDiff, Nat.reduceLeDiff, Nat.reduceLT, Nat.reduceDiv, Nat.reduceMod, Int.reduceLE, Int.reduceLT, Int.reduceEq, Int.reduceNeg, Int.reduceAdd, Int.reduceSub, Int.reduceToNat, Nat.reducePow, *])
    | (refine VC.p2 (h26 _) rfl rfl rfl rfl ?_; simp -implicitDefEqProofs only [eng, reduceIte, reduceCtorEq, Nat.reduceAdd, Nat.reduceMul, Nat.reduceSub, Nat.reduceEqDiff, Nat.reduceLeDiff, Nat.reduceLT, Nat.reduceDiv, Nat.reduceMod, Int.reduceLE, Int.reduceLT, Int.reduceEq, Int.reduceNeg, Int.reduceAdd, Int.reduceSub, Int.reduceToNat, Nat.reducePow, *])
    | (refine VC.p2 (h31 _) rfl rfl rfl rfl ?_; simp -implicitDefEqProofs only [eng, reduceIte, reduceCtorEq, Nat.reduceAdd, Nat.reduceMul, Nat.reduceSub, Nat.reduceEqDiff, Nat.reduceLeDiff, Nat.reduceLT, Nat.reduceDiv, Nat.reduceMod, Int.reduceLE, Int.reduceLT, Int.reduceEq, Int.reduceNeg, Int.reduceAdd, Int.reduceSub, Int.reduceToNat, Nat.reducePow, *])
    | (refine VC.p1 (h27 _) rfl rfl ?_; simp -implicitDefEqProofs only [eng, reduceIte, reduceCtorEq, Nat.reduceAdd, Nat.reduceMul, Nat.reduceSub, Nat.reduceEqDiff, Nat.reduceLeDiff, Nat.reduceLT, Nat.reduceDiv, Nat.reduceMod, Int.reduceLE, Int.reduceLT, Int.reduceEq, Int.reduceNeg, Int.reduceAdd, Int.reduceSub, Int.reduceToNat, Nat.reducePow, *])
    | (refine VC.p1 (h32 _) rfl rfl ?_; simp -implicitDefEqProofs only [eng, reduceIte, reduceCtorEq, Nat.reduceAdd, Nat.reduceMul, Nat.reduceSub, Nat.reduceEqDiff, Nat.reduceLeDiff, Nat.reduceLT, Nat.reduceDiv, Nat.reduceMod, Int.reduceLE, Int.reduceLT, Int.reduceEq, Int.reduceNeg, Int.reduceAdd, Int.reduceSub, Int.reduceToNat, Nat.reducePow, *])
    | (refine VC.p1 (h33 _) rfl rfl ?_; simp -implicitDefEqProofs only [eng, reduceIte, reduceCtorEq, Nat.reduceAdd, Nat.reduceMul, Nat.reduceSub, Nat.reduceEqDiff, Nat.reduceLeDiff, Nat.reduceLT, Nat.reduceDiv, Nat.reduceMod, Int.reduceLE, Int.reduceLT, Int.reduceEq, Int.reduceNeg, Int.reduceAdd, Int.reduceSub, Int.reduceToNat, Nat.reducePow, *])
    | (refine VC.p1 (h34 _) rfl rfl ?_; simp -implicitDefEqProofs only [eng, reduceIte, reduceCtorEq, Nat.reduceAdd, Nat.reduceMul, Nat.reduceSub, Nat.reduceEqDiff, Nat.reduceLeDiff, Nat.reduceLT, Nat.reduceDiv, Nat.reduceMod, Int.reduceLE, Int.reduceLT, Int.reduceEq, Int.reduceNeg, Int.reduceAdd, Int.reduceSub, Int.reduceToNat, Nat.reducePow, *])
    | (refine VC.p1 (h33j _) rfl rfl ?_; simp -implicitDefEqProofs only [eng, reduceIte, reduceCtorEq, Nat.reduceAdd, Nat.reduceMul, Nat.reduceSub, Nat.reduceEqDiff, Nat.reduceLeDiff, Nat.reduceLT, Nat.reduceDiv, Nat.reduceMod, Int.reduceLE, Int.reduceLT, Int.reduceEq, Int.reduceNeg, Int.reduceAdd, Int.reduceSub, Int.reduceToNat, Nat.reducePow, *]))
  exact .tmp1 (by simp -implicitDefEqProofs only [eng, reduceIte, reduceCtorEq, Nat.reduceAdd, Nat.reduceMul, Nat.reduceSub, Nat.reduceEqDiff, Nat.reduceLeDiff, Nat.reduceLT, Nat.reduceDiv, Nat.reduceMod, Int.reduceLE, Int.reduceLT, Int.reduceEq, Int.reduceNeg, Int.reduceAdd, Int.reduceSub, Int.reduceToNat, Nat.reducePow, *]) rfl
end
theorem v7 (x y u v : Int) (l : List Sp) (b : Nat) : V Try.prog 7 [asp x y, asp u v, .sl (sps l)] mt b (.bool true) mt := by
  have hl : (l.take 30).length ≤ 30 := by simp; omega
  have hj := joinF_len (l.take 30)
  have h33j := v33 (joinF (l.take 30)) (by omega)
  rw [decide_eq_true (ap_canon (joinF_canon _))] at h33j
  exact V.code mixed k7 (by simp) (w7 x y u v l (l.take 30) (v10 l) (v11 _ (by omega)) v12 v13 (v24 x y u v) (v28 x y u v) (v29 _) (v25 _ (by omega) x y) (v30 _ x y) (v26 _ (by omega) x y) (v31 _ x y) (v27 _ (by omega)) (v32 _) (v33 _ (by omega)) (v34 _ (by omega)) h33j b)
end Go.Vx
