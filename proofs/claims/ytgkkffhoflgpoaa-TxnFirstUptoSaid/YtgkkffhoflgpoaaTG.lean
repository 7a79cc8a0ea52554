/- Calls of the manager's functions, with no memory in sight. -/
import Derived.Test.YtgkkffhoflgpoaaTF
set_option linter.unusedSimpArgs false
set_option linter.unusedVariables false
set_option maxRecDepth 4000
set_option maxHeartbeats 2000000
namespace Go.Vx
open Go Go.Proofs

theorem sw1 {m : Mem} {M : Nat} {o o' : Obj} : m.upds (swap [(M, o)] [(M, o')]) = upd m M (some o') := by
  funext id; simp only [swap, List.map_cons, List.map_nil, List.cons_append, List.nil_append, Mem.upds, List.foldl_cons, List.foldl_nil, upd]; split <;> rfl
theorem sw1n {m : Mem} {M b : Nat} {o o' p : Obj} : m.upds (swap [(M, o)] [(M, o'), (b, p)]) = upd (upd m M (some o')) b (some p) := by
  funext id; simp only [swap, List.map_cons, List.map_nil, List.cons_append, List.nil_append, Mem.upds, List.foldl_cons, List.foldl_nil, upd]; split <;> (try rfl); split <;> rfl
theorem sw2 {m : Mem} {M W : Nat} {o o' p p' : Obj} : m.upds (swap [(M, o), (W, p)] [(M, o'), (W, p')]) = upd (upd m M (some o')) W (some p') := by
  funext id; simp only [swap, List.map_cons, List.map_nil, List.cons_append, List.nil_append, Mem.upds, List.foldl_cons, List.foldl_nil, upd]; split <;> (try rfl); split <;> rfl
theorem sw3 {m : Mem} {M W K : Nat} {o o' p p' q q' : Obj} : m.upds (swap [(M, o), (W, p), (K, q)] [(M, o'), (W, p'), (K, q')]) = upd (upd (upd m M (some o')) W (some p')) K (some q') := by
  funext id; simp only [swap, List.map_cons, List.map_nil, List.cons_append, List.nil_append, Mem.upds, List.foldl_cons, List.foldl_nil, upd]; split <;> (try rfl); split <;> (try rfl); split <;> rfl
theorem sw0n {m : Mem} {b b' : Nat} {o p : Obj} : m.upds (swap [] [(b, o), (b', p)]) = upd (upd m b (some o)) b' (some p) := rfl

section
variable {P : Program}
theorem VC.sameR {X : Cal} {b : Nat} {ps qs : List PV} {l : List (Nat × Obj)} {r : PV} {nd : Bool} {K : PV → Mem → Prop} {mR m : Mem} (ha : Args b mR ps qs) (h0 : ∀ x ∈ l, mR x.1 = some x.2 ∧ m x.1 = some x.2 ∧ x.1 < b ∧ x.2.lt b = true) (hv : VX P X qs (ofL l) b (Just r (ofL l))) (hk : K r m) : VC P b X ps true nd K mR m :=
  .ol rfl qs l l r ha (fun x hx => ⟨(h0 x hx).1, (h0 x hx).2.2⟩) (fun x hx => .inl (List.mem_map_of_mem hx)) hv (by rw [upds_same fun x hx => (h0 x hx).2.1]; exact hk)

theorem w_beginR (h1 : One P) (M b : Nat) (hM : M < b) (z : Int) (hi : z < 0 ∨ 4 ≤ z) : VW P c11 (PRet (Ends [.tmp 4, .tmp 5] b (.tup [iv 0, iv 2]) mt))
      (fun t => [PV.ptr M 15 0 0, iv z][t]?) mt b := by
  unfold c11
  obtain ⟨n1, n2, n3, n4, n5⟩ := below_ne hM
  repeat' (first
    | refine VW.seq ?_
    | refine VW.block ?_
    | ((first | refine VW.skip ?_ | refine VW.exit ?_ | refine VW.reg ?_ | refine VW.regD ?_ | refine VW.ret ?_ | show goA _ _ _ _ _ _ _ _ _ _ | show goB _ _ _ _ _ _ _ _ _ | show goAD _ _ _ _ _ _ _ _ _ _ _ _ | show goBD _ _ _ _ _ _ _ _ _); simp -implicitDefEqProofs only [eng, reduceIte, reduceCtorEq, Nat.reduceAdd, Nat.reduceMul, Nat.reduceSub, Nat.reduceEqDiff, Nat.reduceLeDiff, Nat.reduceLT, Nat.reduceDiv, Nat.reduceMod, Int.reduceLE, Int.reduceLT, Int.reduceEq, Int.reduceNeg, Int.reduceAdd, Int.reduceSub, Int.reduceToNat, Nat.reducePow, Int.ofNat_zero, Int.natCast_one, Int.cast_ofNat_Int, *])
    | (refine VW.condT ?_ ?_; focus (simp -implicitDefEqProofs only [eng, reduceIte, reduceCtorEq, Nat.reduceAdd, Nat.reduceMul, Nat.reduceSub, Nat.reduceEqDiff, Nat.reduceLeDiff, Nat.reduceLT, Nat.reduceDiv, Nat.reduceMod, Int.reduceLE, Int.reduceLT, Int.reduceEq, Int.reduceNeg, Int.reduceAdd, Int.reduceSub, Int.reduceToNat, Nat.reducePow, Int.ofNat_zero, Int.natCast_one, Int.cast_ofNat_Int, *]; done))
    | (refine VW.condF ?_ ?_; focus (simp -implicitDefEqProofs only [eng, reduceIte, reduceCtorEq, Nat.reduceAdd, Nat.reduceMul, Nat.reduceSub, Nat.reduceEqDiff, Nat.reduceLeDiff, Nat.reduceLT, Nat.reduceDiv, Nat.reduceMod, Int.reduceLE, Int.reduceLT, Int.reduceEq, Int.reduceNeg, Int.reduceAdd, Int.reduceSub, Int.reduceToNat, Nat.reducePow, Int.ofNat_zero, Int.natCast_one, Int.cast_ofNat_Int, *]; done))
    | (apply VW.cond; focus (simp -implicitDefEqProofs only [eng, reduceIte, reduceCtorEq, Nat.reduceAdd, Nat.reduceMul, Nat.reduceSub, Nat.reduceEqDiff, Nat.reduceLeDiff, Nat.reduceLT, Nat.reduceDiv, Nat.reduceMod, Int.reduceLE, Int.reduceLT, Int.reduceEq, Int.reduceNeg, Int.reduceAdd, Int.reduceSub, Int.reduceToNat, Nat.reducePow, Int.ofNat_zero, Int.natCast_one, Int.cast_ofNat_Int, *]; rfl))
    | refine imp_nt ?_
    | refine imp_nf ?_
    | refine imp_dt (fun _ => ?_)
    | refine imp_df (fun _ => ?_)
    | (refine fun (_ : _ = true) => ?_)
    | (refine fun (_ : _ = false) => ?_)
    | refine vg_t ?_ ?_
    | refine vg_f ?_ ?_)
  refine VC.oneR h1 (by omega) hi ?_
  simp -implicitDefEqProofs only [eng, reduceIte, reduceCtorEq, Nat.reduceAdd, Nat.reduceMul, Nat.reduceSub, Nat.reduceEqDiff, Nat.reduceLeDiff, Nat.reduceLT, Nat.reduceDiv, Nat.reduceMod, Int.reduceLE, Int.reduceLT, Int.reduceEq, Int.reduceNeg, Int.reduceAdd, Int.reduceSub, Int.reduceToNat, Nat.reducePow, Int.ofNat_zero, Int.natCast_one, Int.cast_ofNat_Int, *]
  repeat' (first
    | refine VW.seq ?_
    | refine VW.block ?_
    | ((first | refine VW.skip ?_ | refine VW.exit ?_ | refine VW.reg ?_ | refine VW.regD ?_ | refine VW.ret ?_ | show goA _ _ _ _ _ _ _ _ _ _ | show goB _ _ _ _ _ _ _ _ _ | show goAD _ _ _ _ _ _ _ _ _ _ _ _ | show goBD _ _ _ _ _ _ _ _ _); simp -implicitDefEqProofs only [eng, reduceIte, reduceCtorEq, Nat.reduceAdd, Nat.reduceMul, Nat.reduceSub, Nat.reduceEqDiff, Nat.reduceLeDiff, Nat.reduceLT, Nat.reduceDiv, Nat.reduceMod, Int.reduceLE, Int.reduceLT, Int.reduceEq, Int.reduceNeg, Int.reduceAdd, Int.reduceSub, Int.reduceToNat, Nat.reducePow, Int.ofNat_zero, Int.natCast_one, Int.cast_ofNat_Int, *])
    | (refine VW.condT ?_ ?_; focus (simp -implicitDefEqProofs only [eng, reduceIte, reduceCtorEq, Nat.reduceAdd, Nat.reduceMul, Nat.reduceSub, Nat.reduceEqDiff, Nat.reduceLeDiff, Nat.reduceLT, Nat.reduceDiv, Nat.reduceMod, Int.reduceLE, Int.reduceLT, Int.reduceEq, Int.reduceNeg, Int.reduceAdd, Int.reduceSub, Int.reduceToNat, Nat.reducePow, Int.ofNat_zero, Int.natCast_one, Int.cast_ofNat_Int, *]; done))
    | (refine VW.condF ?_ ?_; focus (simp -implicitDefEqProofs only [eng, reduceIte, reduceCtorEq, Nat.reduceAdd, Nat.reduceMul, Nat.reduceSub, Nat.reduceEqDiff, Nat.reduceLeDiff, Nat.reduceLT, Nat.reduceDiv, Nat.reduceMod, Int.reduceLE, Int.reduceLT, Int.reduceEq, Int.reduceNeg, Int.reduceAdd, Int.reduceSub, Int.reduceToNat, Nat.reducePow, Int.ofNat_zero, Int.natCast_one, Int.cast_ofNat_Int, *]; done))
    | (apply VW.cond; focus (simp -implicitDefEqProofs only [eng, reduceIte, reduceCtorEq, Nat.reduceAdd, Nat.reduceMul, Nat.reduceSub, Nat.reduceEqDiff, Nat.reduceLeDiff, Nat.reduceLT, Nat.reduceDiv, Nat.reduceMod, Int.reduceLE, Int.reduceLT, Int.reduceEq, Int.reduceNeg, Int.reduceAdd, Int.reduceSub, Int.reduceToNat, Nat.reducePow, Int.ofNat_zero, Int.natCast_one, Int.cast_ofNat_Int, *]; rfl))
    | refine imp_nt ?_
    | refine imp_nf ?_
    | refine imp_dt (fun _ => ?_)
    | refine imp_df (fun _ => ?_)
    | (refine fun (_ : _ = true) => ?_)
    | (refine fun (_ : _ = false) => ?_)
    | refine vg_t ?_ ?_
    | refine vg_f ?_ ?_)
  exact .v (by simp -implicitDefEqProofs only [eng, reduceIte, reduceCtorEq, Nat.reduceAdd, Nat.reduceMul, Nat.reduceSub, Nat.reduceEqDiff, Nat.reduceLeDiff, Nat.reduceLT, Nat.reduceDiv, Nat.reduceMod, Int.reduceLE, Int.reduceLT, Int.reduceEq, Int.reduceNeg, Int.reduceAdd, Int.reduceSub, Int.reduceToNat, Nat.reducePow, Int.ofNat_zero, Int.natCast_one, Int.cast_ofNat_Int, resF, resL, RX.ev, tup1, purT, *] <;> rfl) (by simp -implicitDefEqProofs only [eng, reduceIte, reduceCtorEq, Nat.reduceAdd, Nat.reduceMul, Nat.reduceSub, Nat.reduceEqDiff, Nat.reduceLeDiff, Nat.reduceLT, Nat.reduceDiv, Nat.reduceMod, Int.reduceLE, Int.reduceLT, Int.reduceEq, Int.reduceNeg, Int.reduceAdd, Int.reduceSub, Int.reduceToNat, Nat.reducePow, Int.ofNat_zero, Int.natCast_one, Int.cast_ofNat_Int, resF, resL, RX.ev, tup1, purT, *] <;> rfl)
end

theorem args2 {M b : Nat} {mR : Mem} {z : Int} (hM : M < b) : Args b mR [.ptr M 15 0 0, iv z] [.ptr M 15 0 0, iv z] := ⟨.inl ⟨rfl, by simpa [PV.lt, lt1] using hM⟩, .inl ⟨rfl, rfl⟩, trivial⟩
theorem args3 {M b : Nat} {mR : Mem} {z : Int} {k : Str} (hM : M < b) : Args b mR [.ptr M 15 0 0, iv z, .str k] [.ptr M 15 0 0, iv z, .str k] := ⟨.inl ⟨rfl, by simpa [PV.lt, lt1] using hM⟩, .inl ⟨rfl, rfl⟩, .inl ⟨rfl, rfl⟩, trivial⟩
theorem args1 {M b : Nat} {mR : Mem} (hM : M < b) : Args b mR [.ptr M 15 0 0] [.ptr M 15 0 0] := ⟨.inl ⟨rfl, by simpa [PV.lt, lt1] using hM⟩, trivial⟩

theorem VC.mnew {m mR : Mem} {b : Nat} {z : Int} {nd : Bool} {K : PV → Mem → Prop} (hk : ∀ m', MR ⟨min (max z 0) 1073741824, min (max z 0) 1073741824, fun _ => none, fun _ => none⟩ b m' (b + 8) → K (.ptr b 15 0 0) m') : VC Try.prog b (.f 9) [iv z] true nd K mR m := by
  refine .ol rfl [iv z] [] _ _ ⟨.inl ⟨rfl, rfl⟩, trivial⟩ (by simp) ?_ (V.code mixed k9 (by simp) (w_new z b)) (hk _ ⟨b + 1, fun _ => 0, [], ?_⟩)
  · simp only [List.mem_cons, List.not_mem_nil, or_false, forall_eq, forall_eq_or_imp]; exact ⟨.inr ⟨by omega, by omega⟩, .inr ⟨by omega, by omega⟩⟩
  · rw [sw0n]
    exact ⟨by omega, by omega, by omega, by rw [upd_other _ _ (by omega), upd_same]; rfl, by rw [upd_same]; rfl, rfl, fun i hi x hx => by simp at hx, fun i j hi hj hij h1 h2 => by simp at h1⟩

variable {a : Ab} {M b0 b : Nat} {m mR : Mem} {z : Int} {nd : Bool} {K : PV → Mem → Prop}

theorem VC.beg (h : MR a M m b0) (hb : b0 ≤ b) (hR : ∀ id, id < b0 → mR id = m id) (hk : ∀ v e a' m', Beg a z v e a' → MR a' M m' (b + 8) → K (.tup [iv v, iv e]) m') : VC Try.prog b (.f 11) [.ptr M 15 0 0, iv z] true nd K mR m := by
  obtain ⟨W, Kf, wl, h⟩ := h
  have hM : M < b := Nat.lt_of_lt_of_le h.hM hb
  have hg : (gOf a Kf W).ok b := h.ok.mono hb
  have e0 := hR _ h.hM
  by_cases hi : In z
  · have hI := hi.ix
    cases ho : a.se z.toNat with
    | some x =>
      have hgo : ((gOf a Kf W).get z.toNat).o = true := by rw [gOf_get hI.2, seF_some ho]
      refine VC.sameR (l := [(M, (gOf a Kf W).box)]) (args2 hM) ?_ (V.code mixed k11 (by simp) (w_begin0 cOne M b hM _ z _ hI hg hgo _ ofL_at)) (hk 0 7 a m (.inr (.inl ⟨x, hi, ho, rfl, rfl, rfl⟩)) ⟨W, Kf, wl, h.of (fun _ _ => rfl) (by omega)⟩)
      simp only [List.mem_cons, List.not_mem_nil, or_false, forall_eq, forall_eq_or_imp]; exact ⟨by rw [e0]; exact h.m0, h.m0, hM, by simpa using Mg.blt (k := 0) hg⟩
    | none =>
      have hgo : ((gOf a Kf W).get z.toNat).o = false := by rw [gOf_get hI.2, seF_none ho]
      refine .ol rfl _ [(M, (gOf a Kf W).box)] _ _ (args2 hM) ?_ ?_ (V.code mixed k11 (by simp) (w_begin1 cOne M b hM (gOf a Kf W) z _ hI hg hgo _ ofL_at)) (hk _ 0 (a.beg z.toNat) _ (.inr (.inr ⟨hi, ho, rfl, rfl, rfl⟩)) ⟨W, fun j => if j = z.toNat then b else Kf j, wl, ?_⟩)
      · simp only [List.mem_cons, List.not_mem_nil, or_false, forall_eq, forall_eq_or_imp]; exact ⟨by rw [e0]; exact h.m0, hM, by simpa using Mg.blt (k := 0) hg⟩
      · simp only [List.mem_cons, List.not_mem_nil, or_false, forall_eq, forall_eq_or_imp]; exact ⟨.inl (by simp), .inr ⟨by omega, by omega⟩⟩
      · rw [sw1n]
        have hput := gOf_put (a := a) (a' := a.beg z.toNat) (K := Kf) (K' := fun j => if j = z.toNat then b else Kf j) (W := W) (x := ⟨true, max a.h a.c, .map b⟩) hI.2 (by simp [seF, Ab.beg, Ab.set]) (fun j hj => by simp [seF, Ab.beg, Ab.set, hj])
        have hWb := h.hW
        refine ⟨by omega, by omega, h.hMW, ?_, ?_, h.mw, ?_, ?_⟩
        · rw [upd_other _ _ (by omega), upd_same]; exact congrArg (fun g : Mg => some g.box) hput
        · rw [upd_other _ _ (by omega), upd_other _ _ h.hMW.symm]; exact h.m1
        · intro j hj x hx
          by_cases hjz : j = z.toNat
          · simp only [Ab.beg, Ab.set, hjz, if_true, Option.some.injEq] at hx
            subst hx
            simp only [hjz, if_true]
            exact ⟨by omega, by omega, by omega, by rw [upd_same]; rfl⟩
          · simp only [Ab.beg, Ab.set, hjz, if_false] at hx
            simp only [hjz, if_false]
            obtain ⟨h1, h2, h3, h4⟩ := h.k j hj x hx
            exact ⟨by omega, h2, h3, by rw [upd_other _ _ (by omega), upd_other _ _ h2.symm]; exact h4⟩
        · intro i j hi' hj hij h1 h2
          by_cases hiz : i = z.toNat
          · have hjz : j ≠ z.toNat := by omega
            simp only [Ab.beg, Ab.set, hjz, if_false] at h2
            simp only [hiz, if_true, hjz, if_false]
            obtain ⟨x, hx⟩ := Option.ne_none_iff_exists'.1 h2
            have := (h.k j hj x hx).1
            omega
          · simp only [Ab.beg, Ab.set, hiz, if_false] at h1
            obtain ⟨x, hx⟩ := Option.ne_none_iff_exists'.1 h1
            have h3 := (h.k i hi' x hx).1
            by_cases hjz : j = z.toNat
            · simp only [hiz, if_false, hjz, if_true]; omega
            · simp only [Ab.beg, Ab.set, hjz, if_false] at h2
              simp only [hiz, hjz, if_false]
              exact h.kk i j hi' hj hij h1 h2
  · exact VC.pure _ _ (args2 hM) (V.code mixed k11 (by simp) (w_beginR cOne M b hM z (In.out hi))) (hk 0 2 a m (.inl ⟨hi, rfl, rfl, rfl⟩) ⟨W, Kf, wl, h.of (fun _ _ => rfl) (by omega)⟩)

/-- Nothing of the manager's changes but what its numbers and one session say. -/
theorem MRw.one {W : Nat} {Kf : Nat → Nat} {wl : List (Str × Int)} {g' : Mg} {a' : Ab} (h : MRw a M W Kf wl m b0) (hg : g' = gOf a' Kf W) (hwr : a'.wr = a.wr) (hse : ∀ j, a'.se j ≠ none → a'.se j = a.se j) (hb : b0 ≤ b) : MRw a' M W Kf wl (upd m M (some g'.box)) b := by
  have h1 := h.hM
  have h2 := h.hW
  refine ⟨by omega, by omega, h.hMW, by rw [upd_same, hg], by rw [upd_other _ _ h.hMW.symm]; exact h.m1, by rw [hwr]; exact h.mw, fun i hi x hx => ?_, fun i j hi hj hij g1 g2 => ?_⟩
  · obtain ⟨g1, g2, g3, g4⟩ := h.k i hi x (by rw [← hse i (by rw [hx]; simp)]; exact hx)
    exact ⟨by omega, g2, g3, by rw [upd_other _ _ g2.symm]; exact g4⟩
  · exact h.kk i j hi hj hij (by rw [← hse i g1]; exact g1) (by rw [← hse j g2]; exact g2)

theorem VC.wri {k : Str} (h : MR a M m b0) (hb : b0 ≤ b) (hR : ∀ id, id < b0 → mR id = m id) (hk : ∀ e a' m', Wri a z k e a' → MR a' M m' (b + 8) → K (iv e) m') : VC Try.prog b (.f 12) [.ptr M 15 0 0, iv z, .str k] true nd K mR m := by
  obtain ⟨W, Kf, wl, h⟩ := h
  have hM : M < b := Nat.lt_of_lt_of_le h.hM hb
  have hg : (gOf a Kf W).ok b := h.ok.mono hb
  have e0 := hR _ h.hM
  by_cases hi : In z
  · have hI := hi.ix
    cases ho : a.se z.toNat with
    | none =>
      have hgo : ((gOf a Kf W).get z.toNat).o = false := by rw [gOf_get hI.2, seF_none ho]
      refine VC.sameR (l := [(M, (gOf a Kf W).box)]) (args3 hM) ?_ (V.code mixed k12 (by simp) (w_write0 cOpened M b hM _ hg z _ hI hgo k _ ofL_at)) (hk 7 a m (.inr (.inl ⟨hi, ho, rfl, rfl⟩)) ⟨W, Kf, wl, h.of (fun _ _ => rfl) (by omega)⟩)
      simp only [List.mem_cons, List.not_mem_nil, or_false, forall_eq, forall_eq_or_imp]; exact ⟨by rw [e0]; exact h.m0, h.m0, hM, by simpa using Mg.blt (k := 0) hg⟩
    | some x =>
      obtain ⟨s, ks⟩ := x
      have hgg : (gOf a Kf W).get z.toNat = ⟨true, s, .map (Kf z.toNat)⟩ := by rw [gOf_get hI.2, seF_some ho]
      obtain ⟨q1, q2, q3, q4⟩ := h.k _ hI.2 _ ho
      obtain ⟨r, hr, hput⟩ := kmap_look ks k
      obtain ⟨o1, o2⟩ := ofL_2 (o := (gOf a Kf W).box) (p := .map (kmap ks)) q2
      refine .ol rfl _ [(M, (gOf a Kf W).box), (Kf z.toNat, .map (kmap ks))] _ _ (args3 hM) ?_ ?_ (V.code mixed k12 (by simp) (w_write1 cOpened M b hM (gOf a Kf W) hg z _ hI (by rw [hgg]) k (Kf z.toNat) (by omega) (by rw [hgg]) q2 (kmap ks) kmap_flat r hr _ o1 o2)) (hk 0 (a.wri z.toNat s (addK ks k)) _ (.inr (.inr ⟨s, ks, hi, ho, rfl, rfl⟩)) ⟨W, Kf, wl, ?_⟩)
      · simp only [List.mem_cons, List.not_mem_nil, or_false, forall_eq, forall_eq_or_imp]; exact ⟨⟨by rw [e0]; exact h.m0, hM, by simpa using Mg.blt (k := 0) hg⟩, by rw [hR _ q1]; exact q4, by omega, kmap_lt.1⟩
      · simp only [List.mem_cons, List.not_mem_nil, or_false, forall_eq, forall_eq_or_imp]; exact ⟨.inl (by simp), .inl (by simp)⟩
      · rw [sw2, hput]
        have hW := h.hW
        have hse : ∀ j, seF (a.wri z.toNat s (addK ks k)) Kf j = seF a Kf j := fun j => by
          by_cases hj : j = z.toNat
          · subst hj; simp [seF, Ab.wri, Ab.set, ho]
          · simp [seF, Ab.wri, Ab.set, hj]
        have hgo : gOf (a.wri z.toNat s (addK ks k)) Kf W = gOf a Kf W := by simp only [gOf, hse]; rfl
        refine ⟨by omega, by omega, h.hMW, ?_, ?_, h.mw, ?_, ?_⟩
        · rw [upd_other _ _ q2, upd_same, hgo]
        · rw [upd_other _ _ q3, upd_other _ _ h.hMW.symm]; exact h.m1
        · intro j hj x hx
          by_cases hjz : j = z.toNat
          · subst hjz
            simp only [Ab.wri, Ab.set, if_true, Option.some.injEq] at hx
            subst hx
            exact ⟨by omega, q2, q3, by rw [upd_same]⟩
          · simp only [Ab.wri, Ab.set, hjz, if_false] at hx
            obtain ⟨h1, h2, h3, h4⟩ := h.k j hj x hx
            have := h.kk j z.toNat hj hI.2 hjz (by rw [hx]; simp) (by rw [ho]; simp)
            exact ⟨by omega, h2, h3, by rw [upd_other _ _ this, upd_other _ _ h2.symm]; exact h4⟩
        · intro i j hi' hj hij h1 h2
          have hs : ∀ i, (a.wri z.toNat s (addK ks k)).se i ≠ none → a.se i ≠ none := fun i h => by
            by_cases hiz : i = z.toNat
            · subst hiz; rw [ho]; simp
            · simpa [Ab.wri, Ab.set, hiz] using h
          exact h.kk i j hi' hj hij (hs i h1) (hs j h2)
  · exact VC.pure _ _ (args3 hM) (V.code mixed k12 (by simp) (w_writeR cOpened M b hM z (In.out hi) k)) (hk 2 a m (.inl ⟨hi, rfl, rfl⟩) ⟨W, Kf, wl, h.of (fun _ _ => rfl) (by omega)⟩)

theorem VC.fin (h : MR a M m b0) (hb : b0 ≤ b) (hR : ∀ id, id < b0 → mR id = m id) (hk : ∀ e a' m', Fin' a z e a' → MR a' M m' (b + 8) → K (iv e) m') : VC Try.prog b (.f 14) [.ptr M 15 0 0, iv z] true nd K mR m := by
  obtain ⟨W, Kf, wl, h⟩ := h
  have hM : M < b := Nat.lt_of_lt_of_le h.hM hb
  have hg : (gOf a Kf W).ok b := h.ok.mono hb
  have e0 := hR _ h.hM
  by_cases hi : In z
  · have hI := hi.ix
    cases ho : a.se z.toNat with
    | none =>
      have hgo : ((gOf a Kf W).get z.toNat).o = false := by rw [gOf_get hI.2, seF_none ho]
      refine VC.sameR (l := [(M, (gOf a Kf W).box)]) (args2 hM) ?_ (V.code mixed k14 (by simp) (w_end0 cOpened M b hM _ hg z _ hI hgo _ ofL_at)) (hk 7 a m (.inr (.inl ⟨hi, ho, rfl, rfl⟩)) ⟨W, Kf, wl, h.of (fun _ _ => rfl) (by omega)⟩)
      simp only [List.mem_cons, List.not_mem_nil, or_false, forall_eq, forall_eq_or_imp]; exact ⟨by rw [e0]; exact h.m0, h.m0, hM, by simpa using Mg.blt (k := 0) hg⟩
    | some x =>
      have hgo : ((gOf a Kf W).get z.toNat).o = true := by rw [gOf_get hI.2, seF_some ho]
      refine .ol rfl _ [(M, (gOf a Kf W).box)] _ _ (args2 hM) ?_ ?_ (V.code mixed k14 (by simp) (w_end1 cOpened M b hM (gOf a Kf W) hg z _ hI hgo _ ofL_at)) (hk 0 (a.fin z.toNat) _ (.inr (.inr ⟨x, hi, ho, rfl, rfl⟩)) ⟨W, Kf, wl, ?_⟩)
      · simp only [List.mem_cons, List.not_mem_nil, or_false, forall_eq, forall_eq_or_imp]; exact ⟨by rw [e0]; exact h.m0, hM, by simpa using Mg.blt (k := 0) hg⟩
      · simp only [List.mem_cons, List.not_mem_nil, or_false, forall_eq, forall_eq_or_imp]; exact .inl (by simp)
      · rw [sw1]
        refine h.one (gOf_put (a := a) (a' := a.fin z.toNat) hI.2 (by simp [seF, Ab.fin, Ab.set]) fun j hj => by simp [seF, Ab.fin, Ab.set, hj]) rfl (fun j hj => ?_) (by omega)
        by_cases hjz : j = z.toNat
        · simp [Ab.fin, Ab.set, hjz] at hj
        · simp [Ab.fin, Ab.set, hjz]
  · exact VC.pure _ _ (args2 hM) (V.code mixed k14 (by simp) (w_endR cOpened M b hM z (In.out hi))) (hk 2 a m (.inl ⟨hi, rfl, rfl⟩) ⟨W, Kf, wl, h.of (fun _ _ => rfl) (by omega)⟩)

theorem VC.com (h : MR a M m b0) (hb : b0 ≤ b) (hk : ∀ v e a' m', Com a z v e a' → MR a' M m' (b + 8) → K (.tup [iv v, iv e]) m') : VC Try.prog b (.f 13) [.ptr M 15 0 0, iv z] true true K m m := by
  obtain ⟨W, Kf, wl, h⟩ := h
  have hM : M < b := Nat.lt_of_lt_of_le h.hM hb
  have hW : W < b := Nat.lt_of_lt_of_le h.hW hb
  have hg : (gOf a Kf W).ok b := h.ok.mono hb
  by_cases hi : In z
  · have hI := hi.ix
    cases ho : a.se z.toNat with
    | none =>
      have hgo : ((gOf a Kf W).get z.toNat).o = false := by rw [gOf_get hI.2, seF_none ho]
      refine VC.sameR (l := [(M, (gOf a Kf W).box)]) (args2 hM) ?_ (V.code mixed k13 (by simp) (w_commit0 cTested M b hM _ hg z _ hI hgo _ ofL_at)) (hk 0 7 a m (.inr (.inl ⟨hi, ho, rfl, rfl, rfl⟩)) ⟨W, Kf, wl, h.of (fun _ _ => rfl) (by omega)⟩)
      simp only [List.mem_cons, List.not_mem_nil, or_false, forall_eq, forall_eq_or_imp]; exact ⟨h.m0, h.m0, hM, by simpa using Mg.blt (k := 0) hg⟩
    | some x =>
      obtain ⟨s, ks⟩ := x
      have hgg : (gOf a Kf W).get z.toNat = ⟨true, s, .map (Kf z.toNat)⟩ := by rw [gOf_get hI.2, seF_some ho]
      obtain ⟨q1, q2, q3, q4⟩ := h.k _ hI.2 _ ho
      obtain ⟨o1, o2, o3⟩ := ofL_3 (o := (gOf a Kf W).box) (p := .map (wmap wl)) (q := .map (kmap ks)) h.hMW q2 q3
      have hs0 : ((gOf a Kf W).get z.toNat).s = s := by rw [hgg]
      have hin : ∀ x ∈ [(M, (gOf a Kf W).box), (W, .map (wmap wl)), (Kf z.toNat, .map (kmap ks))], m x.1 = some x.2 ∧ x.1 < b ∧ x.2.lt b = true := by
        simp only [List.mem_cons, List.not_mem_nil, or_false, forall_eq, forall_eq_or_imp]; exact ⟨⟨h.m0, hM, by simpa using Mg.blt (k := 0) hg⟩, ⟨h.m1, hW, (flatM_lt wmap_flat).1⟩, q4, by omega, kmap_lt.1⟩
      by_cases ht : testF ks a.wr s a.h = 0
      · have ht' : testF ks (sval wl) ((gOf a Kf W).get z.toNat).s (gOf a Kf W).h = 0 := by rw [hs0, h.mw]; exact ht
        refine .any rfl rfl _ (ofL [(M, (gOf a Kf W).box), (W, .map (wmap wl)), (Kf z.toNat, .map (kmap ks))]) _ (args2 hM) ?_ (VX.code mixed k13 (by simp) (w_commit1 cTested M W (Kf z.toNat) b hM hW (by omega) (gOf a Kf W) hg z _ hI (by rw [hgg]) (by rw [hgg]) rfl h.hMW q2 q3 ks wl _ o1 o3 o2 ht' _ rfl)) ?_
        · intro id o hid
          exact hin _ (ofL_some hid)
        · rintro r m1 ⟨rfl, wl', hwl', rfl⟩
          refine hk _ 0 (a.com z.toNat ks (max (IntKind.i64.wrap (a.h + 1)) a.c)) _ (.inr (.inr (.inr ⟨s, ks, hi, ho, ht, rfl, rfl, rfl⟩))) ⟨W, Kf, wl', ?_⟩
          obtain ⟨p1, p2, p3⟩ := ofL_3 (o := (({ gOf a Kf W with h := max (IntKind.i64.wrap ((gOf a Kf W).h + 1)) (gOf a Kf W).c } : Mg).put z.toNat ⟨false, 0, .nilm⟩).box) (p := .map (wmap wl')) (q := .map (kmap ks)) h.hMW q2 q3
          have hput := gOf_put (a := a) (a' := a.com z.toNat ks (max (IntKind.i64.wrap (a.h + 1)) a.c)) (K := Kf) (K' := Kf) (W := W) (x := ⟨false, 0, .nilm⟩) hI.2 (by simp [seF, Ab.com, Ab.set]) (fun j hj => by simp [seF, Ab.com, Ab.set, hj])
          have hse : ∀ j x, (a.com z.toNat ks (max (IntKind.i64.wrap (a.h + 1)) a.c)).se j = some x → j ≠ z.toNat ∧ a.se j = some x := fun j x hx => by
            by_cases hjz : j = z.toNat
            · simp [Ab.com, Ab.set, hjz] at hx
            · exact ⟨hjz, by simpa [Ab.com, Ab.set, hjz] using hx⟩
          refine ⟨by omega, by omega, h.hMW, ?_, ?_, ?_, ?_, ?_⟩
          · simp only [patch, o1, Option.isSome_some, true_or, if_true, p1]
            exact congrArg (fun g : Mg => some g.box) hput
          · simp only [patch, o2, Option.isSome_some, true_or, if_true, p2]
          · funext x
            rw [hwl' x, h.mw]
            rfl
          · intro j hj x hx
            obtain ⟨hjz, hx⟩ := hse j x hx
            obtain ⟨h1, h2, h3, h4⟩ := h.k j hj x hx
            have hne := h.kk j z.toNat hj hI.2 hjz (by rw [hx]; simp) (by rw [ho]; simp)
            refine ⟨by omega, h2, h3, ?_⟩
            have hnone : ofL [(M, (gOf a Kf W).box), (W, .map (wmap wl)), (Kf z.toNat, .map (kmap ks))] (Kf j) = none := by
              simp [ofL, Mem.upds, upd, h2.symm, h3.symm, hne]; rfl
            simp only [patch, hnone, Option.isSome_none, Bool.false_eq_true, false_or]
            rw [if_neg (by omega)]
            exact h4
          · intro i j hi' hj hij h1 h2
            obtain ⟨x, hx⟩ := Option.ne_none_iff_exists'.1 h1
            obtain ⟨y, hy⟩ := Option.ne_none_iff_exists'.1 h2
            exact h.kk i j hi' hj hij (by rw [(hse i x hx).2]; simp) (by rw [(hse j y hy).2]; simp)
      · have ht' : testF ks (sval wl) ((gOf a Kf W).get z.toNat).s (gOf a Kf W).h ≠ 0 := by rw [hs0, h.mw]; exact ht
        have hv := V.code mixed k13 (by simp) (w_commitE cTested M W (Kf z.toNat) b hM hW (by omega) (gOf a Kf W) hg z _ hI (by rw [hgg]) (by rw [hgg]) rfl h.hMW q2 q3 ks wl _ o1 o3 o2 ht')
        refine VC.same (args2 hM) hin hv ?_
        rw [hs0, h.mw]
        exact hk 0 _ a m (.inr (.inr (.inl ⟨s, ks, hi, ho, ht, rfl, rfl, rfl⟩))) ⟨W, Kf, wl, h.of (fun _ _ => rfl) (by omega)⟩
  · exact VC.pure _ _ (args2 hM) (V.code mixed k13 (by simp) (w_commitR cTested M b hM z (In.out hi))) (hk 0 2 a m (.inl ⟨hi, rfl, rfl, rfl⟩) ⟨W, Kf, wl, h.of (fun _ _ => rfl) (by omega)⟩)

theorem VC.tic (h : MR a M m b0) (hb : b0 ≤ b) (hR : ∀ id, id < b0 → mR id = m id) (hk : ∀ m', MR { a with c := tickF a.c z } M m' (b + 8) → K (.tup []) m') : VC Try.prog b (.f 15) [.ptr M 15 0 0, iv z] true nd K mR m := by
  obtain ⟨W, Kf, wl, h⟩ := h
  have hM : M < b := Nat.lt_of_lt_of_le h.hM hb
  have hg : (gOf a Kf W).ok b := h.ok.mono hb
  refine .ol rfl _ [(M, (gOf a Kf W).box)] _ _ (args2 hM) ?_ ?_ (V.code mixed k15 (by simp) (w_tick M b hM (gOf a Kf W) hg z _ ofL_at)) (hk _ ⟨W, Kf, wl, ?_⟩)
  · simp only [List.mem_cons, List.not_mem_nil, or_false, forall_eq, forall_eq_or_imp]; exact ⟨by rw [hR _ h.hM]; exact h.m0, hM, by simpa using Mg.blt (k := 0) hg⟩
  · simp only [List.mem_cons, List.not_mem_nil, or_false, forall_eq, forall_eq_or_imp]; exact .inl (by simp)
  · rw [sw1]
    exact h.one rfl rfl (fun j hj => rfl) (by omega)

theorem VC.red {f : Nat} {ps : List PV} {r : PV} (h : MR a M m b0) (hb : b0 ≤ b) (hR : ∀ id, id < b0 → mR id = m id) (ha : M < b → Args b mR ps ps) (hv : ∀ Kf W, M < b → (gOf a Kf W).ok b → V Try.prog f ps (ofL [(M, (gOf a Kf W).box)]) b r (ofL [(M, (gOf a Kf W).box)])) (hk : K r m) : VC Try.prog b (.f f) ps true nd K mR m := by
  obtain ⟨W, Kf, wl, h⟩ := h
  have hM : M < b := Nat.lt_of_lt_of_le h.hM hb
  have hg : (gOf a Kf W).ok b := h.ok.mono hb
  refine VC.sameR (l := [(M, (gOf a Kf W).box)]) (ha hM) ?_ (hv Kf W hM hg) hk
  simp only [List.mem_cons, List.not_mem_nil, or_false, forall_eq, forall_eq_or_imp]; exact ⟨by rw [hR _ h.hM]; exact h.m0, h.m0, hM, by simpa using Mg.blt (k := 0) hg⟩

theorem VC.opn (h : MR a M m b0) (hb : b0 ≤ b) (hR : ∀ id, id < b0 → mR id = m id) (hk : K (.bool (opB a z)) m) : VC Try.prog b (.f 16) [.ptr M 15 0 0, iv z] true nd K mR m := by
  by_cases hi : In z
  · refine VC.red h hb hR args2 (fun Kf W hM hg => ?_) hk
    have hI := hi.ix
    have e : opB a z = ((gOf a Kf W).get z.toNat).o := by
      rw [gOf_get hI.2]
      unfold opB seF
      rw [if_pos (show 0 ≤ z ∧ z < 4 from hi)]
      cases a.se z.toNat <;> rfl
    rw [e]
    exact V.code mixed k16 (by simp) (w_open cOpened M b hM _ hg z _ hI _ ofL_at)
  · obtain ⟨W, Kf, wl, h⟩ := h
    have e : opB a z = false := if_neg hi
    rw [e] at hk
    exact VC.pure _ _ (args2 (Nat.lt_of_lt_of_le h.hM hb)) (V.code mixed k16 (by simp) (w_openR cOpened M b (Nat.lt_of_lt_of_le h.hM hb) z (In.out hi))) hk
theorem VC.sin (h : MR a M m b0) (hb : b0 ≤ b) (hR : ∀ id, id < b0 → mR id = m id) (hk : K (sinF a z) m) : VC Try.prog b (.f 23) [.ptr M 15 0 0, iv z] true nd K mR m := by
  by_cases hi : In z
  · refine VC.red h hb hR args2 (fun Kf W hM hg => ?_) hk
    have hI := hi.ix
    have e : sinF a z = if ((gOf a Kf W).get z.toNat).o then .tup [iv ((gOf a Kf W).get z.toNat).s, .bool true] else .tup [iv 0, .bool false] := by
      rw [gOf_get hI.2]
      unfold sinF seF
      rw [if_pos (show 0 ≤ z ∧ z < 4 from hi)]
      cases a.se z.toNat <;> rfl
    rw [e]
    exact V.code mixed k23 (by simp) (w_since cOpened M b hM _ hg z _ hI _ ofL_at)
  · obtain ⟨W, Kf, wl, h⟩ := h
    have e : sinF a z = .tup [iv 0, .bool false] := if_neg hi
    rw [e] at hk
    exact VC.pure _ _ (args2 (Nat.lt_of_lt_of_le h.hM hb)) (V.code mixed k23 (by simp) (w_sinceR cOpened M b (Nat.lt_of_lt_of_le h.hM hb) z (In.out hi))) hk
theorem VC.clk (h : MR a M m b0) (hb : b0 ≤ b) (hR : ∀ id, id < b0 → mR id = m id) (hk : K (iv a.c) m) : VC Try.prog b (.f 17) [.ptr M 15 0 0] true nd K mR m :=
  VC.red h hb hR args1 (fun Kf W hM hg => V.code mixed k17 (by simp) (w_clock M b hM (gOf a Kf W) hg _ ofL_at)) hk
theorem VC.hig (h : MR a M m b0) (hb : b0 ≤ b) (hR : ∀ id, id < b0 → mR id = m id) (hk : K (iv a.h) m) : VC Try.prog b (.f 26) [.ptr M 15 0 0] true nd K mR m :=
  VC.red h hb hR args1 (fun Kf W hM hg => V.code mixed k26 (by simp) (w_high M b hM (gOf a Kf W) hg _ ofL_at)) hk
theorem cMin (l : List Int) (b : Nat) (h0 : 0 < l.length) (hl : l.length < 1000) : V Try.prog 46 [.sl (ints l)] mt b (iv (minL l)) mt := V.code mixed k46 (by simp) (w_min l h0 hl b)
theorem gOf_opens {Kf : Nat → Nat} {W : Nat} : (gOf a Kf W).opens 4 = a.opens := by
  have h : ∀ i, (∃ x, a.se i = some x ∧ seF a Kf i = ⟨true, x.1, .map (Kf i)⟩) ∨ (a.se i = none ∧ seF a Kf i = ⟨false, 0, .nilm⟩) := fun i => by
    unfold seF; cases a.se i with
    | none => exact .inr ⟨rfl, rfl⟩
    | some x => exact .inl ⟨x, rfl, rfl⟩
  unfold Mg.opens Mg.ses Ab.opens
  show (([seF a Kf 0, seF a Kf 1, seF a Kf 2, seF a Kf 3].filter (·.o)).map (·.s)) = _
  rcases h 0 with ⟨x0, h0, g0⟩ | ⟨h0, g0⟩ <;> rcases h 1 with ⟨x1, h1, g1⟩ | ⟨h1, g1⟩ <;> rcases h 2 with ⟨x2, h2, g2⟩ | ⟨h2, g2⟩ <;> rcases h 3 with ⟨x3, h3, g3⟩ | ⟨h3, g3⟩ <;> simp [h0, h1, h2, h3, g0, g1, g2, g3]
theorem VC.old (h : MR a M m b0) (hb : b0 ≤ b) (hR : ∀ id, id < b0 → mR id = m id) (hk : K (oldF a.opens) m) : VC Try.prog b (.f 24) [.ptr M 15 0 0] true nd K mR m :=
  VC.red h hb hR args1 (fun Kf W hM hg => by rw [← gOf_opens (a := a) (Kf := Kf) (W := W)]; exact V.code mixed k24 (by simp) (w_oldest (fun l b h0 hl => cMin l b h0 hl) M b hM (gOf a Kf W) hg _ ofL_at)) hk

end Go.Vx
