/- Cut, walked. -/
import Derived.Test.YtfeobpjoifffiaaGG
import Derived.Test.YtfeobpjoifffiaaGD
import Derived.Test.YtfeobpjoifffiaaL2
import Derived.Test.YtfeobpjoifffiaaRows
set_option linter.unusedSimpArgs false
set_option linter.unusedVariables false
set_option maxRecDepth 4000
set_option maxHeartbeats 2000000
namespace Go.Vx
open Go Go.Proofs

/-- The points within. -/
def inF (x y : Int) (ps : List Int) : List Int := ps.filter fun p => decide (x < p) && decide (p < y)
def sortI (l : List Int) : List Int := l.mergeSort fun a b => decide (a ≤ b)
/-- Where pieces end. -/
def cutE (x y : Int) (ps : List Int) : List Int := Lib.compact (sortI (y :: inF x y ps))
def pcs : Int → List Int → List Sp
  | _, [] => []
  | f, e :: es => (f, e) :: pcs e es
def cutF (x y : Int) (ps : List Int) : List Sp := if rightB x y then pcs x (cutE x y ps) else []
def fromAt (f : Int) (es : List Int) : Nat → Int
  | 0 => f
  | i + 1 => es.getD i 0
theorem pcs_len : ∀ (f : Int) (es : List Int), (pcs f es).length = es.length
  | _, [] => rfl
  | f, e :: es => by simp [pcs, pcs_len e es]
theorem pcs_get : ∀ (f : Int) (es : List Int) (i : Nat) (e : Int), es[i]? = some e → (pcs f es)[i]? = some (fromAt f es i, e)
  | _, [], i, e, h => by simp at h
  | f, e0 :: es, 0, e, h => by simp at h; subst h; rfl
  | f, e0 :: es, i + 1, e, h => by
    have := pcs_get e0 es i e (by simpa using h)
    rw [pcs, List.getElem?_cons_succ, this]
    cases i <;> simp [fromAt]
theorem inF_step {x y : Int} {ps : List Int} {i : Nat} {p : Int} (h : ps[i]? = some p) : inF x y (ps.take (i + 1)) = inF x y (ps.take i) ++ if x < p ∧ p < y then [p] else [] := by
  rw [List.take_add_one, h]
  by_cases h1 : x < p <;> by_cases h2 : p < y <;> simp [inF, h1, h2]
theorem inF_len {x y : Int} {ps : List Int} {i : Nat} : (inF x y (ps.take i)).length ≤ ps.length := Nat.le_trans (List.length_filter_le _ _) (by simp; omega)

def rowF (x : Int) (C : List Int) (i : Nat) : List (List PV) := sps ((pcs x C).take i) ++ List.replicate (C.length - i) [.int .i64 0, .int .i64 0]
theorem rowF_len {x : Int} {C : List Int} {i : Nat} (hi : i ≤ C.length) : (rowF x C i).length = C.length := by
  unfold rowF
  rw [List.length_append, sps_len, List.length_take, pcs_len, List.length_replicate]; omega
theorem rowF_0 {x : Int} {C : List Int} : rowF x C 0 = repl C.length [.int .i64 0, .int .i64 0] := by simp [rowF, repl, sps]
theorem rowF_all {x : Int} {C : List Int} : rowF x C C.length = sps (pcs x C) := by
  unfold rowF
  rw [List.take_of_length_le (by rw [pcs_len]; exact Nat.le_refl _)]; simp
theorem rowF_get {x : Int} {C : List Int} {i : Nat} (hi : i < C.length) : (rowF x C i)[i]? = some [.int .i64 0, .int .i64 0] := by
  unfold rowF
  have h : (sps ((pcs x C).take i)).length = i := by rw [sps_len, List.length_take, pcs_len]; omega
  rw [List.getElem?_append_right (by omega), h, Nat.sub_self, List.getElem?_replicate, if_pos (by omega)]
theorem rowF_set {x : Int} {C : List Int} {i : Nat} {c : Int} (hc : C[i]? = some c) : (rowF x C i).set i [.int .i64 (fromAt x C i), .int .i64 c] = rowF x C (i + 1) := by
  have hi := (List.getElem?_eq_some_iff.1 hc).1
  unfold rowF
  have h : (sps ((pcs x C).take i)).length = i := by rw [sps_len, List.length_take, pcs_len]; omega
  rw [List.set_append_right _ _ (by omega), h, List.take_add_one, pcs_get x C i c hc]
  have : C.length - i = (C.length - (i + 1)) + 1 := by omega
  rw [this, Nat.sub_self, List.replicate_succ, List.set_cons_zero]
  simp [sps, isp]
theorem fromAt_step {x : Int} {C : List Int} {i : Nat} {c : Int} (hc : C[i]? = some c) : fromAt x C (i + 1) = c := by simp [fromAt, hc]
section
variable {P : Program}
def J35 (x y : Int) (ps : List Int) (i : Nat) (e : Env) (m : Mem) (nx : Nat) : Prop :=
  ∃ X id, e 2 = some (.ptr X 2 0 0) ∧ m X = some (.box [.int .i64 x, .int .i64 y] 26) ∧ e 17 = some (.sl (ints ps)) ∧ e 18 = some (.int .i64 ps.length) ∧ e 19 = some (.int .i64 i) ∧
    e 5 = some (.osl id ((inF x y (ps.take i)).length + 1)) ∧ m id = some (.row 1 (ints (y :: inF x y (ps.take i))) 3 false)
def J35b (x y : Int) (C Z : List Int) (i : Nat) (e : Env) (m : Mem) (nx : Nat) : Prop :=
  ∃ id id2, e 5 = some (.osl id C.length) ∧ m id = some (.row 1 (ints (C ++ Z)) 3 false) ∧ e 8 = some (.osl id2 C.length) ∧ m id2 = some (.row 2 (rowF x C i) 26 false) ∧
    e 9 = some (.int .i64 (fromAt x C i)) ∧ e 48 = some (.int .i64 C.length) ∧ e 49 = some (.int .i64 i)
theorem w35 (h16 : ∀ x y b, V P 16 [asp x y] mt b (.bool (rightB x y)) mt)
    (h40 : ∀ xs : List Int, xs.length < 2000 → ∀ id b, id < b → V P 40 [.osl id xs.length] (upd mt id (some (.row 1 (ints xs) 3 false))) b (.tup []) (upd mt id (some (.row 1 (ints (sortI xs)) 3 false))))
    (h41 : ∀ xs : List Int, xs.length < 2000 → ∀ id b, id < b → V P 41 [.osl id xs.length] (upd mt id (some (.row 1 (ints xs) 3 false))) b (.osl id (Lib.compact xs).length) (upd mt id (some (.row 1 (ints (Lib.compact xs ++ List.replicate (xs.length - (Lib.compact xs).length) 0)) 3 false))))
    (x y : Int) (ps : List Int) (hN : ps.length < 1000) (b : Nat) : VW P c35 (PRet (Ends [.tmp 4] b (.sl (sps (cutF x y ps))) mt)) (fun t => [asp x y, PV.sl (ints ps)][t]?) mt b := by
  unfold c35
  have hl := ints_len (l := ps)
  cases hr : rightB x y
  · have hcf : cutF x y ps = [] := by simp [cutF, hr]
    repeat' (first
    | exact True.intro
    | refine VW.seq ?_
    | refine VW.block ?_
    | ((first | refine VW.skip ?_ | refine VW.exit ?_ | refine VW.reg ?_ | refine VW.regD ?_ | refine VW.ret ?_ | show goA _ _ _ _ _ _ _ _ _ _ | show goB _ _ _ _ _ _ _ _ _ | show goAD _ _ _ _ _ _ _ _ _ _ _ _ _ _ | show goBD _ _ _ _ _ _ _ _ _ _ _ | refine VC.p1 (h16 _ _ _) rfl rfl ?_); refine sx ?_)
    | refine VW.condT cx ?_
    | refine VW.condF cx ?_
    | refine VW.cond ex ?_ ?_
    | refine imp_nt ?_
    | refine imp_nf ?_
    | refine imp_dt (fun _ => ?_)
    | refine imp_df (fun _ => ?_)
    | (refine fun (_ : _ = true) => ?_)
    | (refine fun (_ : _ = false) => ?_)
    | refine vg_t ?_ ?_
    | refine vg_f ?_ ?_)
    exact .tmprE ex ex (by simp) (by simp [hcf, sps])
  have hcf : cutF x y ps = pcs x (cutE x y ps) := by simp [cutF, hr]
  rw [hcf]
  clear hcf
  repeat' (first
    | exact True.intro
    | refine VW.seq ?_
    | refine VW.block ?_
    | ((first | refine VW.skip ?_ | refine VW.exit ?_ | refine VW.reg ?_ | refine VW.regD ?_ | refine VW.ret ?_ | show goA _ _ _ _ _ _ _ _ _ _ | show goB _ _ _ _ _ _ _ _ _ | show goAD _ _ _ _ _ _ _ _ _ _ _ _ _ _ | show goBD _ _ _ _ _ _ _ _ _ _ _ | refine VC.p1 (h16 _ _ _) rfl rfl ?_); refine sx ?_)
    | refine VW.condT cx ?_
    | refine VW.condF cx ?_
    | refine VW.cond ex ?_ ?_
    | refine imp_nt ?_
    | refine imp_nf ?_
    | refine imp_dt (fun _ => ?_)
    | refine imp_df (fun _ => ?_)
    | (refine fun (_ : _ = true) => ?_)
    | (refine fun (_ : _ = false) => ?_)
    | refine vg_t ?_ ?_
    | refine vg_f ?_ ?_)
  refine VW.forN ps.length (J35 x y ps) 0 (Nat.zero_le _) ⟨_, _, ex, ex, ex, ex, ex, ex, ex⟩ ?_
  rintro i e m nx hi ⟨X, id, e2, hX, e17, e18, e19, e5, hm⟩
  refine VW.below hm fun hlt => VW.below hX fun hlX => ?_
  obtain ⟨n1, n2, n3, n4, n5⟩ := below_ne hlt
  obtain ⟨x1, x2, x3, x4, x5⟩ := below_ne hlX
  have hne : (id = X) = False := by simp; rintro rfl; rw [hm] at hX; cases hX
  have hne' : (X = id) = False := by simp; rintro rfl; rw [hm] at hX; cases hX
  by_cases hin : i < ps.length
  · have hin' : (i : Int) < ps.length := by omega
    obtain ⟨p, hp⟩ := get_of hin
    have hp' : (ints ps)[i]? = some [.int .i64 p] := by rw [ints_get, hp]; rfl
    have h00 : (0 : Int) ≤ i := by omega
    have htn : (i : Int).toNat = i := Int.toNat_natCast i
    have hw := i64_nat (n := i) (by omega)
    have hst := inF_step (x := x) (y := y) hp
    have hle := inF_len (x := x) (y := y) (ps := ps) (i := i)
    by_cases hc : x < p ∧ p < y
    · obtain ⟨hc1, hc2⟩ := hc
      rw [if_pos ⟨hc1, hc2⟩] at hst
      have hsl := ints_len (l := y :: inF x y (ps.take i))
      have hfl : ((inF x y (ps.take i)).length + 1 + 1) * 8 ≤ 140737488355328 := by omega
      rw [List.length_cons] at hsl
      have hnl : (inF x y (ps.take (i + 1))).length = (inF x y (ps.take i)).length + 1 := by rw [hst]; simp
      have hnr : ints (y :: inF x y (ps.take (i + 1))) = ints (y :: inF x y (ps.take i)) ++ [[.int .i64 p]] := by rw [hst]; simp [ints]
      clear hst hp
      repeat' (first
    | exact True.intro
    | refine VW.seq ?_
    | refine VW.block ?_
    | ((first | refine VW.skip ?_ | refine VW.exit ?_ | refine VW.reg ?_ | refine VW.regD ?_ | refine VW.ret ?_ | show goA _ _ _ _ _ _ _ _ _ _ | show goB _ _ _ _ _ _ _ _ _ | show goAD _ _ _ _ _ _ _ _ _ _ _ _ _ _ | show goBD _ _ _ _ _ _ _ _ _ _ _); refine sx ?_)
    | refine VW.condT cx ?_
    | refine VW.condF cx ?_
    | refine VW.cond ex ?_ ?_
    | refine imp_nt ?_
    | refine imp_nf ?_
    | refine imp_dt (fun _ => ?_)
    | refine imp_df (fun _ => ?_)
    | (refine fun (_ : _ = true) => ?_)
    | (refine fun (_ : _ = false) => ?_)
    | refine vg_t ?_ ?_
    | refine vg_f ?_ ?_)
      exact ⟨X, _, cx, cx, cx, cx, cx, by rw [hnl]; exact ex, by rw [hnr]; exact cx⟩
    · rw [if_neg hc, List.append_nil] at hst
      have hcc : x < p → ¬ p < y := fun h1 h2 => hc ⟨h1, h2⟩
      clear hc
      by_cases hc1 : x < p
      · have hc2 := hcc hc1
        clear hcc
        repeat' (first
    | exact True.intro
    | refine VW.seq ?_
    | refine VW.block ?_
    | ((first | refine VW.skip ?_ | refine VW.exit ?_ | refine VW.reg ?_ | refine VW.regD ?_ | refine VW.ret ?_ | show goA _ _ _ _ _ _ _ _ _ _ | show goB _ _ _ _ _ _ _ _ _ | show goAD _ _ _ _ _ _ _ _ _ _ _ _ _ _ | show goBD _ _ _ _ _ _ _ _ _ _ _); refine sx ?_)
    | refine VW.condT cx ?_
    | refine VW.condF cx ?_
    | refine VW.cond ex ?_ ?_
    | refine imp_nt ?_
    | refine imp_nf ?_
    | refine imp_dt (fun _ => ?_)
    | refine imp_df (fun _ => ?_)
    | (refine fun (_ : _ = true) => ?_)
    | (refine fun (_ : _ = false) => ?_)
    | refine vg_t ?_ ?_
    | refine vg_f ?_ ?_)
        exact ⟨X, id, cx, cx, cx, cx, cx, cx, cx⟩
      · clear hcc
        repeat' (first
    | exact True.intro
    | refine VW.seq ?_
    | refine VW.block ?_
    | ((first | refine VW.skip ?_ | refine VW.exit ?_ | refine VW.reg ?_ | refine VW.regD ?_ | refine VW.ret ?_ | show goA _ _ _ _ _ _ _ _ _ _ | show goB _ _ _ _ _ _ _ _ _ | show goAD _ _ _ _ _ _ _ _ _ _ _ _ _ _ | show goBD _ _ _ _ _ _ _ _ _ _ _); refine sx ?_)
    | refine VW.condT cx ?_
    | refine VW.condF cx ?_
    | refine VW.cond ex ?_ ?_
    | refine imp_nt ?_
    | refine imp_nf ?_
    | refine imp_dt (fun _ => ?_)
    | refine imp_df (fun _ => ?_)
    | (refine fun (_ : _ = true) => ?_)
    | (refine fun (_ : _ = false) => ?_)
    | refine vg_t ?_ ?_
    | refine vg_f ?_ ?_)
        exact ⟨X, id, cx, cx, cx, cx, cx, cx, cx⟩
  · have hin' : ¬ (i : Int) < ps.length := by omega
    have hdr : ps.take i = ps := List.take_of_length_le (by omega)
    have hle := inF_len (x := x) (y := y) (ps := ps) (i := i)
    rw [hdr] at e5 hm hle
    have hEl : (y :: inF x y ps).length = (inF x y ps).length + 1 := rfl
    have h40' := h40 (y :: inF x y ps) (by rw [hEl]; omega)
    have hsl : (sortI (y :: inF x y ps)).length = (inF x y ps).length + 1 := by rw [← hEl]; exact List.length_mergeSort _
    have h41' := h41 (sortI (y :: inF x y ps)) (by omega)
    rw [hsl] at h41'
    rw [hEl] at h40'
    have hcl := compact_len (sortI (y :: inF x y ps))
    rw [hsl] at hcl
    show VW P _ _ e m nx
    unfold cutE
    generalize hS : sortI (y :: inF x y ps) = S at *
    clear hS hsl hEl hdr
    generalize hC : Lib.compact S = C at *
    generalize hZ : List.replicate ((inF x y ps).length + 1 - C.length) (0 : Int) = Z at *
    clear hC hZ h40 h41
    have c0 : (0 : Int) ≤ C.length := by omega
    have ctn : (C.length : Int).toNat = C.length := Int.toNat_natCast _
    have c16 : C.length * 16 ≤ 281474976710656 := by omega
    have cml : C.length ≤ maxLen := by unfold maxLen; omega
    repeat' (first
    | exact True.intro
    | refine VW.seq ?_
    | refine VW.block ?_
    | ((first | refine VW.skip ?_ | refine VW.exit ?_ | refine VW.reg ?_ | refine VW.regD ?_ | refine VW.ret ?_ | show goA _ _ _ _ _ _ _ _ _ _ | show goB _ _ _ _ _ _ _ _ _ | show goAD _ _ _ _ _ _ _ _ _ _ _ _ _ _ | show goBD _ _ _ _ _ _ _ _ _ _ _); refine sx ?_)
    | refine VW.condT cx ?_
    | refine VW.condF cx ?_
    | refine VW.cond ex ?_ ?_
    | refine imp_nt ?_
    | refine imp_nf ?_
    | refine imp_dt (fun _ => ?_)
    | refine imp_df (fun _ => ?_)
    | (refine fun (_ : _ = true) => ?_)
    | (refine fun (_ : _ = false) => ?_)
    | refine vg_t ?_ ?_
    | refine vg_f ?_ ?_)
    refine VC.own rfl [.osl id ((inF x y ps).length + 1)] id _ _ _ ⟨.inl ⟨rfl, by simp -implicitDefEqProofs only [PV.lt, lt1, eng, reduceIte, reduceCtorEq, Nat.reduceAdd, Nat.reduceMul, Nat.reduceSub, Nat.reduceEqDiff, Nat.reduceLeDiff, Nat.reduceLT, Nat.reduceDiv, Nat.reduceMod, Int.reduceLE, Int.reduceLT, Int.reduceEq, Int.reduceNeg, Int.reduceAdd, Int.reduceSub, Int.reduceToNat, Nat.reducePow, Int.ofNat_zero, Int.natCast_one, Int.cast_ofNat_Int, *]⟩, trivial⟩ cx (by omega) rfl (h40' id _ (by omega)) ?_
    refine sx ?_
    repeat' (first
    | exact True.intro
    | refine VW.seq ?_
    | refine VW.block ?_
    | ((first | refine VW.skip ?_ | refine VW.exit ?_ | refine VW.reg ?_ | refine VW.regD ?_ | refine VW.ret ?_ | show goA _ _ _ _ _ _ _ _ _ _ | show goB _ _ _ _ _ _ _ _ _ | show goAD _ _ _ _ _ _ _ _ _ _ _ _ _ _ | show goBD _ _ _ _ _ _ _ _ _ _ _); refine sx ?_)
    | refine VW.condT cx ?_
    | refine VW.condF cx ?_
    | refine VW.cond ex ?_ ?_
    | refine imp_nt ?_
    | refine imp_nf ?_
    | refine imp_dt (fun _ => ?_)
    | refine imp_df (fun _ => ?_)
    | (refine fun (_ : _ = true) => ?_)
    | (refine fun (_ : _ = false) => ?_)
    | refine vg_t ?_ ?_
    | refine vg_f ?_ ?_)
    refine VC.own rfl [.osl id ((inF x y ps).length + 1)] id _ _ _ ⟨.inl ⟨rfl, by simp -implicitDefEqProofs only [PV.lt, lt1, eng, reduceIte, reduceCtorEq, Nat.reduceAdd, Nat.reduceMul, Nat.reduceSub, Nat.reduceEqDiff, Nat.reduceLeDiff, Nat.reduceLT, Nat.reduceDiv, Nat.reduceMod, Int.reduceLE, Int.reduceLT, Int.reduceEq, Int.reduceNeg, Int.reduceAdd, Int.reduceSub, Int.reduceToNat, Nat.reducePow, Int.ofNat_zero, Int.natCast_one, Int.cast_ofNat_Int, *]⟩, trivial⟩ cx (by omega) rfl (h41' id _ (by omega)) ?_
    refine sx ?_
    repeat' (first
    | exact True.intro
    | refine VW.seq ?_
    | refine VW.block ?_
    | ((first | refine VW.skip ?_ | refine VW.exit ?_ | refine VW.reg ?_ | refine VW.regD ?_ | refine VW.ret ?_ | show goA _ _ _ _ _ _ _ _ _ _ | show goB _ _ _ _ _ _ _ _ _ | show goAD _ _ _ _ _ _ _ _ _ _ _ _ _ _ | show goBD _ _ _ _ _ _ _ _ _ _ _); refine sx ?_)
    | refine VW.condT cx ?_
    | refine VW.condF cx ?_
    | refine VW.cond ex ?_ ?_
    | refine imp_nt ?_
    | refine imp_nf ?_
    | refine imp_dt (fun _ => ?_)
    | refine imp_df (fun _ => ?_)
    | (refine fun (_ : _ = true) => ?_)
    | (refine fun (_ : _ = false) => ?_)
    | refine vg_t ?_ ?_
    | refine vg_f ?_ ?_)
    refine VW.forN C.length (J35b x y C Z) 0 (Nat.zero_le _) ⟨id, _, cx, cx, ex, by rw [rowF_0]; exact ex, ex, cx, ex⟩ ?_
    clear hm hX
    rintro i e m nx hi ⟨id, id2, e5, hm, e8, hm2, e9, e48, e49⟩
    refine VW.below hm fun hlt => VW.below hm2 fun hlt2 => ?_
    obtain ⟨n1, n2, n3, n4, n5⟩ := below_ne hlt
    obtain ⟨x1, x2, x3, x4, x5⟩ := below_ne hlt2
    have hne : (id = id2) = False := by
      simp; rintro rfl; rw [hm] at hm2; injection hm2 with hm2; injection hm2 with h1; cases h1
    have hne' : (id2 = id) = False := by
      simp; rintro rfl; rw [hm] at hm2; injection hm2 with hm2; injection hm2 with h1; cases h1
    by_cases hin : i < C.length
    · have hin' : (i : Int) < C.length := by omega
      obtain ⟨c, hc⟩ := get_of hin
      have hcz : (ints (C ++ Z))[i]? = some [.int .i64 c] := by rw [ints_get, List.getElem?_append_left hin, hc]; rfl
      have hle2 : C.length ≤ (ints (C ++ Z)).length := by rw [ints_len]; simp
      have h00 : (0 : Int) ≤ i := by omega
      have htn : (i : Int).toNat = i := Int.toNat_natCast i
      have hw := i64_nat (n := i) (by omega)
      have hrl := rowF_len (x := x) (C := C) (i := i) (by omega)
      have hrg := rowF_get (x := x) hin
      have hrs := rowF_set (x := x) hc
      have hfs := fromAt_step (x := x) hc
      clear hc hi
      repeat' (first
    | exact True.intro
    | refine VW.seq ?_
    | refine VW.block ?_
    | ((first | refine VW.skip ?_ | refine VW.exit ?_ | refine VW.reg ?_ | refine VW.regD ?_ | refine VW.ret ?_ | show goA _ _ _ _ _ _ _ _ _ _ | show goB _ _ _ _ _ _ _ _ _ | show goAD _ _ _ _ _ _ _ _ _ _ _ _ _ _ | show goBD _ _ _ _ _ _ _ _ _ _ _); refine sx ?_)
    | refine VW.condT cx ?_
    | refine VW.condF cx ?_
    | refine VW.cond ex ?_ ?_
    | refine imp_nt ?_
    | refine imp_nf ?_
    | refine imp_dt (fun _ => ?_)
    | refine imp_df (fun _ => ?_)
    | (refine fun (_ : _ = true) => ?_)
    | (refine fun (_ : _ = false) => ?_)
    | refine vg_t ?_ ?_
    | refine vg_f ?_ ?_)
      exact ⟨id, id2, cx, cx, cx, cx, by rw [hfs]; exact cx, cx, cx⟩
    · have hin' : ¬ (i : Int) < C.length := by omega
      obtain rfl : i = C.length := by omega
      rw [rowF_all] at hm2
      have hpl : (sps (pcs x C)).length = C.length := by rw [sps_len, pcs_len]
      repeat' (first
    | exact True.intro
    | refine VW.seq ?_
    | refine VW.block ?_
    | ((first | refine VW.skip ?_ | refine VW.exit ?_ | refine VW.reg ?_ | refine VW.regD ?_ | refine VW.ret ?_ | show goA _ _ _ _ _ _ _ _ _ _ | show goB _ _ _ _ _ _ _ _ _ | show goAD _ _ _ _ _ _ _ _ _ _ _ _ _ _ | show goBD _ _ _ _ _ _ _ _ _ _ _); refine sx ?_)
    | refine VW.condT cx ?_
    | refine VW.condF cx ?_
    | refine VW.cond ex ?_ ?_
    | refine imp_nt ?_
    | refine imp_nf ?_
    | refine imp_dt (fun _ => ?_)
    | refine imp_df (fun _ => ?_)
    | (refine fun (_ : _ = true) => ?_)
    | (refine fun (_ : _ = false) => ?_)
    | refine vg_t ?_ ?_
    | refine vg_f ?_ ?_)
      exact .tmprE ex ex hpl.symm rfl
end
end Go.Vx
/- The reference's Cut, walked. -/
set_option linter.unusedSimpArgs false
set_option linter.unusedVariables false
set_option maxRecDepth 4000
set_option maxHeartbeats 2000000
namespace Go.Vx
open Go Go.Proofs

def cutB (y : Int) (ps : List Int) (p : Int) : Bool := decide (p = y) || ps.any fun q => decide (q = p)
/-- The first k points behind x at which a piece ends. -/
def mkF (x y : Int) (ps : List Int) (k : Nat) : List Int := ((List.range k).map fun (i : Nat) => x + 1 + (i : Int)).filter (cutB y ps)
def lastI (f : Int) (es : List Int) : Int := es.getLast?.getD f
theorem pcs_app : ∀ (f : Int) (es : List Int) (e : Int), pcs f (es ++ [e]) = pcs f es ++ [(lastI f es, e)]
  | _, [], _ => rfl
  | f, a :: es, e => by
    simp only [List.cons_append, pcs]
    rw [pcs_app a es e]
    congr 2
    cases es with
    | nil => rfl
    | cons b es =>
      obtain ⟨z, hz⟩ : ∃ z, (b :: es).getLast? = some z := by
        cases h : (b :: es).getLast? with
        | none => simp at h
        | some z => exact ⟨z, rfl⟩
      simp only [lastI, List.getLast?_cons_cons, hz, Option.getD_some]
theorem lastI_app {f : Int} {es : List Int} {e : Int} : lastI f (es ++ [e]) = e := by simp [lastI]
theorem mkF_step (x y : Int) (ps : List Int) (k : Nat) : mkF x y ps (k + 1) = mkF x y ps k ++ if cutB y ps (x + 1 + k) then [x + 1 + (k : Int)] else [] := by
  unfold mkF
  rw [List.range_succ, List.map_append, List.filter_append]
  congr 1
  simp only [List.map_cons, List.map_nil, List.filter_cons, List.filter_nil]
theorem mkF_len {x y : Int} {ps : List Int} {k : Nat} : (mkF x y ps k).length ≤ k := Nat.le_trans (List.length_filter_le _ _) (by simp)
def rcutF (x y : Int) (ps : List Int) : List Sp := if rightB x y then pcs x (mkF x y ps (y - x).toNat) else []
theorem any_step {p : Int} {ps : List Int} {j : Nat} {q : Int} (h : ps[j]? = some q) : (ps.take (j + 1)).any (fun q => decide (q = p)) = ((ps.take j).any (fun q => decide (q = p)) || decide (q = p)) := by
  rw [List.take_add_one, h]; simp

section
variable {P : Program}
def J36 (x y : Int) (ps : List Int) (k : Nat) (e : Env) (m : Mem) (nx : Nat) : Prop :=
  ∃ X id, e 1 = some (.sl (ints ps)) ∧ e 2 = some (.ptr X 2 0 0) ∧ m X = some (.box [.int .i64 x, .int .i64 y] 26) ∧ e 7 = some (.int .i64 (x + 1 + (k : Int))) ∧ e 6 = some (.int .i64 (lastI x (mkF x y ps k))) ∧ e 5 = some (.osl id (mkF x y ps k).length) ∧ m id = some (.row 2 (sps (pcs x (mkF x y ps k))) 26 false)
def J36i (x y p f : Int) (L : List Int) (ps : List Int) (X id : Nat) (j : Nat) (e : Env) (m : Mem) (nx : Nat) : Prop :=
  e 1 = some (.sl (ints ps)) ∧ e 2 = some (.ptr X 2 0 0) ∧ m X = some (.box [.int .i64 x, .int .i64 y] 26) ∧ e 7 = some (.int .i64 p) ∧ e 6 = some (.int .i64 f) ∧ e 5 = some (.osl id L.length) ∧ m id = some (.row 2 (sps (pcs x L)) 26 false) ∧
    e 9 = some (.int .i64 j) ∧ e 8 = some (.bool (decide (p = y) || (ps.take j).any fun q => decide (q = p)))
theorem w36 (h17 : ∀ x y b, V P 17 [asp x y] mt b (.bool (rightB x y)) mt)
    (x y : Int) (ps : List Int) (hN : ps.length < 1000) (b : Nat) : VW P c36 (PRet (Ends [.tmp 4] b (.sl (sps (rcutF x y ps))) mt)) (fun t => [asp x y, PV.sl (ints ps)][t]?) mt b := by
  unfold c36
  have hl := ints_len (l := ps)
  cases hr : rightB x y
  · have hcf : rcutF x y ps = [] := by simp [rcutF, hr]
    repeat' (first
    | exact True.intro
    | refine VW.seq ?_
    | refine VW.block ?_
    | ((first | refine VW.skip ?_ | refine VW.exit ?_ | refine VW.reg ?_ | refine VW.regD ?_ | refine VW.ret ?_ | show goA _ _ _ _ _ _ _ _ _ _ | show goB _ _ _ _ _ _ _ _ _ | show goAD _ _ _ _ _ _ _ _ _ _ _ _ _ _ | show goBD _ _ _ _ _ _ _ _ _ _ _ | refine VC.p1 (h17 _ _ _) rfl rfl ?_); refine sx ?_)
    | refine VW.condT cx ?_
    | refine VW.condF cx ?_
    | refine VW.cond ex ?_ ?_
    | refine imp_nt ?_
    | refine imp_nf ?_
    | refine imp_dt (fun _ => ?_)
    | refine imp_df (fun _ => ?_)
    | (refine fun (_ : _ = true) => ?_)
    | (refine fun (_ : _ = false) => ?_)
    | refine vg_t ?_ ?_
    | refine vg_f ?_ ?_)
    exact .tmprE ex ex (by simp) (by simp [hcf, sps])
  have hcf : rcutF x y ps = pcs x (mkF x y ps (y - x).toNat) := by simp [rcutF, hr]
  rw [hcf]
  have hr' := hr
  simp [rightB] at hr'
  obtain ⟨⟨r1, r2⟩, r3⟩ := hr'
  have hx1 : IntKind.i64.wrap (x + 1) = x + 1 + ((0 : Nat) : Int) := by rw [IntWalk.i64_in _ (by omega)]; omega
  clear hcf
  repeat' (first
    | exact True.intro
    | refine VW.seq ?_
    | refine VW.block ?_
    | ((first | refine VW.skip ?_ | refine VW.exit ?_ | refine VW.reg ?_ | refine VW.regD ?_ | refine VW.ret ?_ | show goA _ _ _ _ _ _ _ _ _ _ | show goB _ _ _ _ _ _ _ _ _ | show goAD _ _ _ _ _ _ _ _ _ _ _ _ _ _ | show goBD _ _ _ _ _ _ _ _ _ _ _ | refine VC.p1 (h17 _ _ _) rfl rfl ?_); refine sx ?_)
    | refine VW.condT cx ?_
    | refine VW.condF cx ?_
    | refine VW.cond ex ?_ ?_
    | refine imp_nt ?_
    | refine imp_nf ?_
    | refine imp_dt (fun _ => ?_)
    | refine imp_df (fun _ => ?_)
    | (refine fun (_ : _ = true) => ?_)
    | (refine fun (_ : _ = false) => ?_)
    | refine vg_t ?_ ?_
    | refine vg_f ?_ ?_)
  refine VW.forN (y - x).toNat (J36 x y ps) 0 (Nat.zero_le _) ⟨_, _, cx, ex, ex, cx, ex, ex, ex⟩ ?_
  clear hx1
  rintro k e m nx hk ⟨X, id, e1, e2, hX, e7, e6, e5, hm⟩
  have hkn : ((y - x).toNat : Int) = y - x := Int.toNat_of_nonneg (by omega)
  by_cases hkl : k < (y - x).toNat
  · have hst := mkF_step x y ps k
    have hml := mkF_len (x := x) (y := y) (ps := ps) (k := k)
    have hpy : x + 1 + (k : Int) ≤ y := by omega
    have hpw : IntKind.i64.wrap (x + 1 + (k : Int) + 1) = x + 1 + ((k + 1 : Nat) : Int) := by rw [IntWalk.i64_in _ (by omega)]; omega
    have hap := pcs_app x (mkF x y ps k) (x + 1 + (k : Int))
    have hla := lastI_app (f := x) (es := mkF x y ps k) (e := x + 1 + (k : Int))
    have hfl : ((mkF x y ps k).length + 1) * 16 ≤ 140737488355328 := by omega
    have hsl : (sps (pcs x (mkF x y ps k))).length = (mkF x y ps k).length := by rw [sps_len, pcs_len]
    clear hml
    generalize hL : mkF x y ps k = L at *
    generalize hp : x + 1 + (k : Int) = p at *
    clear hp hkn
    generalize hf : lastI x L = f at *
    have hap2 : sps (pcs x (L ++ [p])) = sps (pcs x L) ++ [[.int .i64 f, .int .i64 p]] := by rw [hap]; simp [sps, isp]
    clear hap
    repeat' (first
    | exact True.intro
    | refine VW.seq ?_
    | refine VW.block ?_
    | ((first | refine VW.skip ?_ | refine VW.exit ?_ | refine VW.reg ?_ | refine VW.regD ?_ | refine VW.ret ?_ | show goA _ _ _ _ _ _ _ _ _ _ | show goB _ _ _ _ _ _ _ _ _ | show goAD _ _ _ _ _ _ _ _ _ _ _ _ _ _ | show goBD _ _ _ _ _ _ _ _ _ _ _); refine sx ?_)
    | refine VW.condT cx ?_
    | refine VW.condF cx ?_
    | refine VW.cond ex ?_ ?_
    | refine imp_nt ?_
    | refine imp_nf ?_
    | refine imp_dt (fun _ => ?_)
    | refine imp_df (fun _ => ?_)
    | (refine fun (_ : _ = true) => ?_)
    | (refine fun (_ : _ = false) => ?_)
    | refine vg_t ?_ ?_
    | refine vg_f ?_ ?_)
    refine VW.forN ps.length (J36i x y p f L ps X id) 0 (Nat.zero_le _) ⟨cx, cx, cx, cx, cx, cx, cx, ex, by simp -implicitDefEqProofs only [eng, reduceIte, reduceCtorEq, Nat.reduceAdd, Nat.reduceMul, Nat.reduceSub, Nat.reduceEqDiff, Nat.reduceLeDiff, Nat.reduceLT, Nat.reduceDiv, Nat.reduceMod, Int.reduceLE, Int.reduceLT, Int.reduceEq, Int.reduceNeg, Int.reduceAdd, Int.reduceSub, Int.reduceToNat, Nat.reducePow, Int.ofNat_zero, Int.natCast_one, Int.cast_ofNat_Int, *] <;> simp⟩ ?_
    clear e1 e2 hX e7 e6 e5 hm e m nx
    rintro j e m nx hj ⟨e1, e2, hX, e7, e6, e5, hm, e9, e8⟩
    refine VW.below hm fun hlt => VW.below hX fun hlX => ?_
    obtain ⟨n1, n2, n3, n4, n5⟩ := below_ne hlt
    obtain ⟨x1, x2, x3, x4, x5⟩ := below_ne hlX
    have hne : (id = X) = False := by simp; rintro rfl; rw [hm] at hX; cases hX
    have hne' : (X = id) = False := by simp; rintro rfl; rw [hm] at hX; cases hX
    by_cases hjn : j < ps.length
    · have hin' : (j : Int) < ps.length := by omega
      obtain ⟨q, hq⟩ := get_of hjn
      have hq' : (ints ps)[j]? = some [.int .i64 q] := by rw [ints_get, hq]; rfl
      have h00 : (0 : Int) ≤ j := by omega
      have htn : (j : Int).toNat = j := Int.toNat_natCast j
      have hw := i64_nat (n := j) (by omega)
      have has := any_step (p := p) hq
      clear hst hla hap2 hL hfl hq
      generalize hg : (decide (p = y) || (ps.take j).any fun q => decide (q = p)) = g at *
      have hg2 : (decide (p = y) || (ps.take (j + 1)).any fun q => decide (q = p)) = (g || decide (q = p)) := by rw [has, ← Bool.or_assoc, hg]
      clear has hg
      cases g
      · repeat' (first
    | exact True.intro
    | refine VW.seq ?_
    | refine VW.block ?_
    | ((first | refine VW.skip ?_ | refine VW.exit ?_ | refine VW.reg ?_ | refine VW.regD ?_ | refine VW.ret ?_ | show goA _ _ _ _ _ _ _ _ _ _ | show goB _ _ _ _ _ _ _ _ _ | show goAD _ _ _ _ _ _ _ _ _ _ _ _ _ _ | show goBD _ _ _ _ _ _ _ _ _ _ _); refine sx ?_)
    | refine VW.condT cx ?_
    | refine VW.condF cx ?_
    | refine VW.cond ex ?_ ?_
    | refine imp_nt ?_
    | refine imp_nf ?_
    | refine imp_dt (fun _ => ?_)
    | refine imp_df (fun _ => ?_)
    | (refine fun (_ : _ = true) => ?_)
    | (refine fun (_ : _ = false) => ?_)
    | refine vg_t ?_ ?_
    | refine vg_f ?_ ?_)
        exact ⟨cx, cx, cx, cx, cx, cx, cx, cx, by rw [hg2]; exact cx⟩
      · repeat' (first
    | exact True.intro
    | refine VW.seq ?_
    | refine VW.block ?_
    | ((first | refine VW.skip ?_ | refine VW.exit ?_ | refine VW.reg ?_ | refine VW.regD ?_ | refine VW.ret ?_ | show goA _ _ _ _ _ _ _ _ _ _ | show goB _ _ _ _ _ _ _ _ _ | show goAD _ _ _ _ _ _ _ _ _ _ _ _ _ _ | show goBD _ _ _ _ _ _ _ _ _ _ _); refine sx ?_)
    | refine VW.condT cx ?_
    | refine VW.condF cx ?_
    | refine VW.cond ex ?_ ?_
    | refine imp_nt ?_
    | refine imp_nf ?_
    | refine imp_dt (fun _ => ?_)
    | refine imp_df (fun _ => ?_)
    | (refine fun (_ : _ = true) => ?_)
    | (refine fun (_ : _ = false) => ?_)
    | refine vg_t ?_ ?_
    | refine vg_f ?_ ?_)
        exact ⟨cx, cx, cx, cx, cx, cx, cx, cx, by rw [hg2]; exact cx⟩
    · have hin' : ¬ (j : Int) < ps.length := by omega
      have hdr : ps.take j = ps := List.take_of_length_le (by omega)
      rw [hdr] at e8
      replace e8 : e 8 = some (.bool (cutB y ps p)) := e8
      clear hdr hjn hj
      cases hcb : cutB y ps p
      · rw [hcb] at e8 hst
        simp only [Bool.false_eq_true, if_false, List.append_nil] at hst
        repeat' (first
    | exact True.intro
    | refine VW.seq ?_
    | refine VW.block ?_
    | ((first | refine VW.skip ?_ | refine VW.exit ?_ | refine VW.reg ?_ | refine VW.regD ?_ | refine VW.ret ?_ | show goA _ _ _ _ _ _ _ _ _ _ | show goB _ _ _ _ _ _ _ _ _ | show goAD _ _ _ _ _ _ _ _ _ _ _ _ _ _ | show goBD _ _ _ _ _ _ _ _ _ _ _); refine sx ?_)
    | refine VW.condT cx ?_
    | refine VW.condF cx ?_
    | refine VW.cond ex ?_ ?_
    | refine imp_nt ?_
    | refine imp_nf ?_
    | refine imp_dt (fun _ => ?_)
    | refine imp_df (fun _ => ?_)
    | (refine fun (_ : _ = true) => ?_)
    | (refine fun (_ : _ = false) => ?_)
    | refine vg_t ?_ ?_
    | refine vg_f ?_ ?_)
        exact ⟨X, id, cx, cx, cx, cx, by rw [hst, hf]; exact cx, by rw [hst]; exact cx, by rw [hst]; exact cx⟩
      · rw [hcb] at e8 hst
        simp only [if_true] at hst
        repeat' (first
    | exact True.intro
    | refine VW.seq ?_
    | refine VW.block ?_
    | ((first | refine VW.skip ?_ | refine VW.exit ?_ | refine VW.reg ?_ | refine VW.regD ?_ | refine VW.ret ?_ | show goA _ _ _ _ _ _ _ _ _ _ | show goB _ _ _ _ _ _ _ _ _ | show goAD _ _ _ _ _ _ _ _ _ _ _ _ _ _ | show goBD _ _ _ _ _ _ _ _ _ _ _); refine sx ?_)
    | refine VW.condT cx ?_
    | refine VW.condF cx ?_
    | refine VW.cond ex ?_ ?_
    | refine imp_nt ?_
    | refine imp_nf ?_
    | refine imp_dt (fun _ => ?_)
    | refine imp_df (fun _ => ?_)
    | (refine fun (_ : _ = true) => ?_)
    | (refine fun (_ : _ = false) => ?_)
    | refine vg_t ?_ ?_
    | refine vg_f ?_ ?_)
        exact ⟨X, _, cx, cx, cx, cx, by rw [hst, hla]; exact cx, by rw [hst, List.length_append]; exact ex, by rw [hst, hap2]; exact cx⟩
  · obtain rfl : k = (y - x).toNat := by omega
    have hpy : ¬ x + 1 + ((y - x).toNat : Int) ≤ y := by omega
    have hpl : (sps (pcs x (mkF x y ps (y - x).toNat))).length = (mkF x y ps (y - x).toNat).length := by rw [sps_len, pcs_len]
    clear hkl hk hkn
    repeat' (first
    | exact True.intro
    | refine VW.seq ?_
    | refine VW.block ?_
    | ((first | refine VW.skip ?_ | refine VW.exit ?_ | refine VW.reg ?_ | refine VW.regD ?_ | refine VW.ret ?_ | show goA _ _ _ _ _ _ _ _ _ _ | show goB _ _ _ _ _ _ _ _ _ | show goAD _ _ _ _ _ _ _ _ _ _ _ _ _ _ | show goBD _ _ _ _ _ _ _ _ _ _ _); refine sx ?_)
    | refine VW.condT cx ?_
    | refine VW.condF cx ?_
    | refine VW.cond ex ?_ ?_
    | refine imp_nt ?_
    | refine imp_nf ?_
    | refine imp_dt (fun _ => ?_)
    | refine imp_df (fun _ => ?_)
    | (refine fun (_ : _ = true) => ?_)
    | (refine fun (_ : _ = false) => ?_)
    | refine vg_t ?_ ?_
    | refine vg_f ?_ ?_)
    exact .tmprE ex ex hpl.symm rfl
end
end Go.Vx
/- SpanCuts, walked; the plain law of Cut. -/
set_option linter.unusedSimpArgs false
set_option linter.unusedVariables false
set_option maxRecDepth 4000
set_option maxHeartbeats 2000000
namespace Go.Vx
open Go Go.Proofs

theorem asc_eq : ∀ {l m : List Int}, l.Pairwise (· < ·) → m.Pairwise (· < ·) → (∀ p, p ∈ l ↔ p ∈ m) → l = m := fun {l m} hl hm h => by
  have nd : ∀ {l : List Int}, l.Pairwise (· < ·) → l.Nodup := fun hl => hl.imp fun h => by omega
  have hp : l.Perm m := (List.perm_ext_iff_of_nodup (nd hl) (nd hm)).2 h
  exact List.Perm.eq_of_pairwise (le := (· < ·)) (fun a b _ _ h1 h2 => by omega) hl hm hp
theorem get_toArray {S : List Int} {i : Nat} (h : i < S.length) : S.toArray[i]! = S[i] := by rw [getElem!_pos _ _ (by simpa using h)]; simp
theorem compact_asc {S : List Int} (hs : S.Pairwise (· ≤ ·)) : (Lib.compact S).Pairwise (· < ·) := by
  unfold Lib.compact Lib.compactUpTo
  rw [List.pairwise_map]
  refine ((List.Pairwise.filter _ List.pairwise_lt_range).imp_of_mem fun {a b} ha hb hab => ?_)
  have hb1 := List.mem_filter.1 hb
  have hbn := List.mem_range.1 hb1.1
  have hk : b = 0 ∨ S.toArray[b]! ≠ S.toArray[b - 1]! := by simpa [Lib.keeps] using hb1.2
  have hne : S.toArray[b]! ≠ S.toArray[b - 1]! := hk.resolve_left (by omega)
  rw [get_toArray hbn, get_toArray (by omega)] at hne
  rw [get_toArray (by omega), get_toArray hbn]
  have h1 : S[b - 1] ≤ S[b] := List.pairwise_iff_getElem.1 hs (b - 1) b (by omega) hbn (by omega)
  have h2 : S[a] ≤ S[b - 1] := by
    by_cases he : a = b - 1
    · subst he; omega
    · exact List.pairwise_iff_getElem.1 hs a (b - 1) (by omega) (by omega) (by omega)
  omega
theorem compact_mem {S : List Int} (p : Int) : p ∈ Lib.compact S ↔ p ∈ S := by
  unfold Lib.compact Lib.compactUpTo
  rw [List.mem_map]
  constructor
  · rintro ⟨i, hi, rfl⟩
    have hin := List.mem_range.1 (List.mem_filter.1 hi).1
    rw [get_toArray hin]; exact List.getElem_mem hin
  · intro hp
    obtain ⟨m, hm, rfl⟩ := List.getElem_of_mem hp
    have key : ∀ m (hm : m < S.length), ∃ a, a ∈ (List.range S.length).filter (Lib.keeps S.toArray) ∧ S.toArray[a]! = S[m] := by
      intro m
      induction m with
      | zero => intro hm; exact ⟨0, List.mem_filter.2 ⟨List.mem_range.2 hm, by simp [Lib.keeps]⟩, get_toArray hm⟩
      | succ m ih =>
        intro hm
        by_cases hk : Lib.keeps S.toArray (m + 1) = true
        · exact ⟨m + 1, List.mem_filter.2 ⟨List.mem_range.2 hm, hk⟩, get_toArray hm⟩
        · obtain ⟨a, h1, h2⟩ := ih (by omega)
          refine ⟨a, h1, ?_⟩
          have hk' : ¬ (m + 1 = 0 ∨ S.toArray[m + 1]! ≠ S.toArray[m + 1 - 1]!) := by simpa only [Lib.keeps, decide_eq_true_eq] using hk
          have he : S.toArray[m + 1]! = S.toArray[m]! := Classical.byContradiction fun hne => hk' (.inr hne)
          rw [h2, ← get_toArray (by omega), ← he, get_toArray hm]
    exact key m hm
theorem sortI_asc {l : List Int} : (sortI l).Pairwise (· ≤ ·) := by
  have := List.pairwise_mergeSort (le := fun a b : Int => decide (a ≤ b)) (fun a b c h1 h2 => by simp at *; omega) (fun a b => by simp; omega) l
  exact this.imp fun h => by simpa using h
theorem sortI_mem {l : List Int} (p : Int) : p ∈ sortI l ↔ p ∈ l := (List.mergeSort_perm l _).mem_iff
theorem cutE_mem {x y : Int} {ps : List Int} (p : Int) : p ∈ cutE x y ps ↔ p = y ∨ (p ∈ ps ∧ x < p ∧ p < y) := by
  unfold cutE
  rw [compact_mem, sortI_mem, List.mem_cons]
  simp [inF, List.mem_filter]
theorem mkF_asc {x y : Int} {ps : List Int} {k : Nat} : (mkF x y ps k).Pairwise (· < ·) := by
  unfold mkF
  refine List.Pairwise.filter _ ?_
  rw [List.pairwise_map]
  exact List.pairwise_lt_range.imp fun h => by omega
theorem mkF_mem {x y : Int} {ps : List Int} (hxy : x < y) (p : Int) : p ∈ mkF x y ps (y - x).toNat ↔ p = y ∨ (p ∈ ps ∧ x < p ∧ p < y) := by
  unfold mkF
  rw [List.mem_filter, List.mem_map]
  simp only [List.mem_range, cutB, Bool.or_eq_true, decide_eq_true_eq, List.any_eq_true]
  constructor
  · rintro ⟨⟨i, hi, rfl⟩, h | ⟨q, hq, rfl⟩⟩
    · exact .inl h
    · by_cases he : x + 1 + (i : Int) = y
      · exact .inl he
      · exact .inr ⟨hq, by omega, by omega⟩
  · rintro (rfl | ⟨h1, h2, h3⟩)
    · exact ⟨⟨(p - x).toNat - 1, by omega, by omega⟩, .inl rfl⟩
    · exact ⟨⟨(p - x).toNat - 1, by omega, by omega⟩, .inr ⟨p, h1, rfl⟩⟩
theorem cut_eq (x y : Int) (ps : List Int) : cutF x y ps = rcutF x y ps := by
  unfold cutF rcutF
  cases hr : rightB x y
  · rfl
  · have hr' := hr
    simp [rightB] at hr'
    have : cutE x y ps = mkF x y ps (y - x).toNat := asc_eq (compact_asc sortI_asc) mkF_asc fun p => by rw [cutE_mem, mkF_mem (by omega)]
    rw [this]

/-- Pieces: each begins where the one ahead ends. -/
theorem pcs_asc : ∀ {f : Int} {es : List Int}, es.Pairwise (· < ·) → (∀ e ∈ es, f < e) → (∀ s ∈ pcs f es, f ≤ s.1 ∧ s.1 < s.2 ∧ s.2 ∈ es) ∧ (pcs f es).Pairwise fun a b => a.1 < b.1
  | _, [], _, _ => ⟨by simp [pcs], by simp [pcs]⟩
  | f, e :: es, h, hf => by
    rw [List.pairwise_cons] at h
    obtain ⟨g1, g2⟩ := pcs_asc (f := e) h.2 h.1
    have hfe := hf e List.mem_cons_self
    refine ⟨fun s hs => ?_, ?_⟩
    · rcases List.mem_cons.1 hs with rfl | hs
      · exact ⟨by show f ≤ f; omega, hfe, List.mem_cons_self⟩
      · obtain ⟨a1, a2, a3⟩ := g1 s hs
        exact ⟨by omega, a2, List.mem_cons_of_mem _ a3⟩
    · rw [pcs, List.pairwise_cons]
      refine ⟨fun s hs => ?_, g2⟩
      have := (g1 s hs).1
      show f < s.1
      omega
theorem fold_pcs : ∀ {a f : Int} {es : List Int}, es.Pairwise (· < ·) → (∀ e ∈ es, f < e) → (pcs f es).foldl stepJ [(a, f)] = [(a, lastI f es)]
  | a, f, [], _, _ => rfl
  | a, f, e :: es, h, hf => by
    rw [List.pairwise_cons] at h
    have hfe := hf e List.mem_cons_self
    have hst : stepJ [(a, f)] (f, e) = [(a, e)] := by
      unfold stepJ
      show (if f < f then _ else [(a, max f e)]) = _
      rw [if_neg (by omega), show max f e = e by omega]
    rw [pcs, List.foldl_cons, hst, fold_pcs h.2 h.1]
    cases es with
    | nil => rfl
    | cons b es =>
      obtain ⟨z, hz⟩ : ∃ z, (b :: es).getLast? = some z := by
        cases h : (b :: es).getLast? with
        | none => simp at h
        | some z => exact ⟨z, rfl⟩
      simp only [lastI, List.getLast?_cons_cons, hz, Option.getD_some]
structure Pieces (x y : Int) (C : List Int) : Prop where
  asc : C.Pairwise (· < ·)
  gt : ∀ e ∈ C, x < e
  le : ∀ e ∈ C, e ≤ y
  y : y ∈ C
theorem cutE_pieces {x y : Int} {ps : List Int} (hxy : x < y) : Pieces x y (cutE x y ps) :=
  ⟨compact_asc sortI_asc, fun e he => by rw [cutE_mem] at he; omega, fun e he => by rw [cutE_mem] at he; omega, by rw [cutE_mem]; exact .inl rfl⟩
theorem Pieces.last {x y : Int} {C : List Int} (h : Pieces x y C) : lastI x C = y := by
  obtain ⟨z, hz⟩ : ∃ z, C.getLast? = some z := by
    cases hc : C.getLast? with
    | none => rw [List.getLast?_eq_none_iff] at hc; have := h.y; rw [hc] at this; cases this
    | some z => exact ⟨z, rfl⟩
  obtain ⟨D, rfl⟩ : ∃ D, C = D ++ [z] := by
    obtain ⟨D, hD⟩ := List.getLast?_eq_some_iff.1 hz
    exact ⟨D, hD⟩
  rw [lastI_app]
  have h1 := h.le z (by simp)
  have h2 := h.y
  rcases List.mem_append.1 h2 with h2 | h2
  · have := (List.pairwise_append.1 h.asc).2.2 y h2 z (by simp)
    omega
  · simp at h2; exact h2.symm
theorem Pieces.join {x y : Int} {C : List Int} (h : Pieces x y C) (hr : rightB x y = true) : joinF (pcs x C) = [(x, y)] := by
  have hr' := hr
  simp [rightB] at hr'
  obtain ⟨g1, g2⟩ := pcs_asc h.asc h.gt
  have hall : ∀ s ∈ pcs x C, rightS s = true := fun s hs => by
    obtain ⟨a1, a2, a3⟩ := g1 s hs
    have := h.le _ a3
    exact rightS_iff.2 ⟨by omega, a2, by omega⟩
  have hs : sortF (pcs x C) = pcs x C := sort_eq (by rw [List.filter_eq_self.2 hall]) (g2.imp fun hab => leS_of hab)
  unfold joinF
  rw [hs]
  have hl := h.last
  cases C with
  | nil => have := h.y; cases this
  | cons e es =>
    have ha := h.asc
    rw [List.pairwise_cons] at ha
    have : (pcs x (e :: es)).foldl stepJ [] = (pcs e es).foldl stepJ [(x, e)] := rfl
    rw [this, fold_pcs ha.2 ha.1]
    have : lastI e es = lastI x (e :: es) := by
      cases es with
      | nil => rfl
      | cons b es =>
        obtain ⟨z, hz⟩ : ∃ z, (b :: es).getLast? = some z := by
          cases h : (b :: es).getLast? with
          | none => simp at h
          | some z => exact ⟨z, rfl⟩
        simp only [lastI, List.getLast?_cons_cons, hz, Option.getD_some]
    rw [this, hl]; rfl
theorem Pieces.meet {x y : Int} {C : List Int} (h : Pieces x y C) (hr : rightB x y = true) {i : Nat} {s t : Sp} (hs : (pcs x C)[i]? = some s) (ht : (pcs x C)[i + 1]? = some t) : meetB s.1 s.2 t.1 t.2 = true := by
  have hr' := hr
  simp [rightB] at hr'
  obtain ⟨g1, g2⟩ := pcs_asc h.asc h.gt
  have hall : ∀ s ∈ pcs x C, rightB s.1 s.2 = true := fun s hs => by
    obtain ⟨a1, a2, a3⟩ := g1 s hs
    have := h.le _ a3
    exact rightS_iff.2 ⟨by omega, a2, by omega⟩
  have hi := (List.getElem?_eq_some_iff.1 ht).1
  rw [pcs_len] at hi
  have hc0 : C[i]? = some C[i] := by simp
  have hc1 : C[i + 1]? = some C[i + 1] := by simp
  rw [pcs_get x C i _ hc0] at hs
  rw [pcs_get x C (i + 1) _ hc1] at ht
  have e : s.2 = t.1 := by
    injection hs with hs; injection ht with ht
    rw [← hs, ← ht]
    simp [fromAt, hc0]
  unfold meetB
  have m1 := hall s (List.mem_of_getElem? (i := i) (by rw [pcs_get x C i _ hc0, hs]))
  have m2 := hall t (List.mem_of_getElem? (i := i + 1) (by rw [pcs_get x C (i + 1) _ hc1, ht]))
  rw [m1, m2, e]; simp
end Go.Vx
/- SpanCuts, walked. -/
set_option linter.unusedSimpArgs false
set_option linter.unusedVariables false
set_option maxRecDepth 4000
set_option maxHeartbeats 4000000
namespace Go.Vx
open Go Go.Proofs Go.Shelf

theorem v40 (xs : List Int) (h : xs.length < 2000) (id b : Nat) (hid : id < b) : V Try.prog 40 [.osl id xs.length] (upd mt id (some (.row 1 (ints xs) 3 false))) b (.tup []) (upd mt id (some (.row 1 (ints (sortI xs)) 3 false))) :=
  V.sortInt Try.sortInt (enters_of Try.func40 (by kernel_rfl) rfl) xs (by omega) hid
theorem v41 (xs : List Int) (h : xs.length < 2000) (id b : Nat) (hid : id < b) : V Try.prog 41 [.osl id xs.length] (upd mt id (some (.row 1 (ints xs) 3 false))) b (.osl id (Lib.compact xs).length) (upd mt id (some (.row 1 (ints (Lib.compact xs ++ List.replicate (xs.length - (Lib.compact xs).length) 0)) 3 false))) :=
  V.compactInt Try.compI (enters_of Try.func41 (by kernel_rfl) rfl) xs (by omega) hid
theorem v35 (x y : Int) (ps : List Int) (hN : ps.length < 1000) (b : Nat) : V Try.prog 35 [asp x y, .sl (ints ps)] mt b (.sl (sps (cutF x y ps))) mt := V.code mixed k35 (by simp) (w35 v16 v40 v41 x y ps hN b)
theorem v36 (x y : Int) (ps : List Int) (hN : ps.length < 1000) (b : Nat) : V Try.prog 36 [asp x y, .sl (ints ps)] mt b (.sl (sps (rcutF x y ps))) mt := V.code mixed k36 (by simp) (w36 v17 x y ps hN b)

theorem cutF_len {x y : Int} {ps : List Int} : (cutF x y ps).length ≤ ps.length + 1 := by
  unfold cutF
  split
  · rw [pcs_len]
    refine Nat.le_trans (compact_len _) ?_
    have := inF_len (x := x) (y := y) (ps := ps) (i := ps.length)
    rw [List.take_length] at this
    simp only [sortI, List.length_mergeSort, List.length_cons]; omega
  · simp

section
variable {P : Program}
def J8 (x y : Int) (L : List Sp) (b i : Nat) (e : Env) (m : Mem) (nx : Nat) : Prop :=
  ∃ X, e 2 = some (.ptr X 2 0 0) ∧ m X = some (.box [.int .i64 x, .int .i64 y] 26) ∧ e 5 = some (.sl (sps L)) ∧ e 6 = some (.int .i64 ((i + 1 : Nat) : Int))
theorem w8' (h12 : ∀ b, V P 12 [] mt b (.bool true) mt) (h16 : ∀ x y b, V P 16 [asp x y] mt b (.bool (rightB x y)) mt) (h22 : ∀ x y u v b, V P 22 [asp x y, asp u v] mt b (.bool (meetB x y u v)) mt)
    (x y : Int) (L J : List Sp) (hL : L.length < 1100) (h13 : ∀ b, V P 13 [.sl (sps L), .sl (sps L)] mt b (.bool true) mt) (h11 : ∀ b, V P 11 [.sl (sps L)] mt b (.sl (sps J)) mt)
    (hm : ∀ (i : Nat) (s t : Sp), L[i]? = some s → L[i + 1]? = some t → meetB s.1 s.2 t.1 t.2 = true) (hJ : (rightB x y = true ∧ J = [(x, y)]) ∨ (rightB x y = false ∧ L = [] ∧ J = []))
    (ps ps' : List Int) (hps : (30 < ps.length ∧ ps' = ps.take 30) ∨ (¬ 30 < ps.length ∧ ps' = ps)) (h35 : ∀ b, V P 35 [asp x y, .sl (ints ps')] mt b (.sl (sps L)) mt) (h36 : ∀ b, V P 36 [asp x y, .sl (ints ps')] mt b (.sl (sps L)) mt) (b : Nat) :
    VW P c8 (PRet (Ends [.tmp 4] b (.bool true) mt)) (fun t => [asp x y, PV.sl (ints ps)][t]?) mt b := by
  unfold c8
  have hl := ints_len (l := ps)
  have hlL := sps_len (l := L)
  have t30 : (30 : Int).toNat = 30 := rfl
  rcases hps with ⟨hp1, rfl⟩ | ⟨hp1, rfl⟩
  · have hp2 : (30 : Int) < ps.length := by omega
    have hp3 : 30 ≤ ps.length := by omega
    have htk : (ints ps).take 30 = ints (ps.take 30) := by simp [ints]
    repeat' (first
    | exact True.intro
    | refine VW.seq ?_
    | refine VW.block ?_
    | ((first | refine VW.skip ?_ | refine VW.exit ?_ | refine VW.reg ?_ | refine VW.regD ?_ | refine VW.ret ?_ | show goA _ _ _ _ _ _ _ _ _ _ | show goB _ _ _ _ _ _ _ _ _ | show goAD _ _ _ _ _ _ _ _ _ _ _ _ _ _ | show goBD _ _ _ _ _ _ _ _ _ _ _ | refine VC.p2 (h35 _) rfl rfl rfl rfl ?_ | refine VC.p2 (h36 _) rfl rfl rfl rfl ?_ | refine VC.p2 (h13 _) rfl rfl rfl rfl ?_); refine sx ?_)
    | refine VW.condT cx ?_
    | refine VW.condF cx ?_
    | refine VW.cond ex ?_ ?_
    | refine imp_nt ?_
    | refine imp_nf ?_
    | refine imp_dt (fun _ => ?_)
    | refine imp_df (fun _ => ?_)
    | (refine fun (_ : _ = true) => ?_)
    | (refine fun (_ : _ = false) => ?_)
    | refine vg_t ?_ ?_
    | refine vg_f ?_ ?_)
    refine VW.forN (L.length - 1) (J8 x y L b) 0 (Nat.zero_le _) ⟨_, ex, ex, cx, ex⟩ ?_
    clear h35 h36 h13
    rintro i e m nx hi ⟨X, e2, hX, e5, e6⟩
    refine VW.below hX fun hlX => ?_
    obtain ⟨x1, x2, x3, x4, x5⟩ := below_ne hlX
    by_cases hin : i < L.length - 1
    · have hin' : ((i + 1 : Nat) : Int) < L.length := by omega
      obtain ⟨s, hs⟩ := get_of (l := L) (i := i) (by omega)
      obtain ⟨t, ht⟩ := get_of (l := L) (i := i + 1) (by omega)
      have hs' : (sps L)[i]? = some [.int .i64 s.1, .int .i64 s.2] := by rw [sps_get, hs]; rfl
      have ht' : (sps L)[i + 1]? = some [.int .i64 t.1, .int .i64 t.2] := by rw [sps_get, ht]; rfl
      have h00 : (0 : Int) ≤ i := by omega
      have htn : (i : Int).toNat = i := Int.toNat_natCast i
      have h01 : (0 : Int) ≤ ((i + 1 : Nat) : Int) := by omega
      have htn1 : ((i + 1 : Nat) : Int).toNat = i + 1 := Int.toNat_natCast _
      have hw0 : IntKind.i64.wrap (((i + 1 : Nat) : Int) - 1) = (i : Int) := by rw [IntWalk.i64_in _ (by omega)]; omega
      have hw := i64_nat (n := i + 1) (by omega)
      have h22' := h22 s.1 s.2 t.1 t.2
      rw [hm i s t hs ht] at h22'
      clear hs ht hm h22 hJ h11 h12 h16
      repeat' (first
    | exact True.intro
    | refine VW.seq ?_
    | refine VW.block ?_
    | ((first | refine VW.skip ?_ | refine VW.exit ?_ | refine VW.reg ?_ | refine VW.regD ?_ | refine VW.ret ?_ | show goA _ _ _ _ _ _ _ _ _ _ | show goB _ _ _ _ _ _ _ _ _ | show goAD _ _ _ _ _ _ _ _ _ _ _ _ _ _ | show goBD _ _ _ _ _ _ _ _ _ _ _ | refine VC.p2 (h22' _) rfl rfl rfl rfl ?_); refine sx ?_)
    | refine VW.condT cx ?_
    | refine VW.condF cx ?_
    | refine VW.cond ex ?_ ?_
    | refine imp_nt ?_
    | refine imp_nf ?_
    | refine imp_dt (fun _ => ?_)
    | refine imp_df (fun _ => ?_)
    | (refine fun (_ : _ = true) => ?_)
    | (refine fun (_ : _ = false) => ?_)
    | refine vg_t ?_ ?_
    | refine vg_f ?_ ?_)
      exact ⟨X, cx, cx, cx, cx⟩
    · have hend : ¬ ((i + 1 : Nat) : Int) < L.length := by omega
      clear hm h22 hin hi
      rcases hJ with ⟨hr, rfl⟩ | ⟨hr, rfl, rfl⟩
      · have h11' : ∀ b, V P 11 [.sl (sps L)] mt b (.sl [[.int .i64 x, .int .i64 y]]) mt := h11
        have h16' := h16 x y
        rw [hr] at h16'
        clear h11 h16
        repeat' (first
    | exact True.intro
    | refine VW.seq ?_
    | refine VW.block ?_
    | ((first | refine VW.skip ?_ | refine VW.exit ?_ | refine VW.reg ?_ | refine VW.regD ?_ | refine VW.ret ?_ | show goA _ _ _ _ _ _ _ _ _ _ | show goB _ _ _ _ _ _ _ _ _ | show goAD _ _ _ _ _ _ _ _ _ _ _ _ _ _ | show goBD _ _ _ _ _ _ _ _ _ _ _ | refine VC.p1 (h11' _) rfl rfl ?_ | refine VC.p0 (h12 _) ?_ | refine VC.p1 (h16' _) rfl rfl ?_); refine sx ?_)
    | refine VW.condT cx ?_
    | refine VW.condF cx ?_
    | refine VW.cond ex ?_ ?_
    | refine imp_nt ?_
    | refine imp_nf ?_
    | refine imp_dt (fun _ => ?_)
    | refine imp_df (fun _ => ?_)
    | (refine fun (_ : _ = true) => ?_)
    | (refine fun (_ : _ = false) => ?_)
    | refine vg_t ?_ ?_
    | refine vg_f ?_ ?_)
        all_goals exact .tmp1 cx rfl
      · have h11' : ∀ b, V P 11 [.sl []] mt b (.sl []) mt := h11
        have h16' := h16 x y
        rw [hr] at h16'
        have e5' : e 5 = some (.sl []) := e5
        have hend' : ¬ ((i + 1 : Nat) : Int) < 0 := by omega
        clear h11 h16 e5 hend hlL hL
        repeat' (first
    | exact True.intro
    | refine VW.seq ?_
    | refine VW.block ?_
    | ((first | refine VW.skip ?_ | refine VW.exit ?_ | refine VW.reg ?_ | refine VW.regD ?_ | refine VW.ret ?_ | show goA _ _ _ _ _ _ _ _ _ _ | show goB _ _ _ _ _ _ _ _ _ | show goAD _ _ _ _ _ _ _ _ _ _ _ _ _ _ | show goBD _ _ _ _ _ _ _ _ _ _ _ | refine VC.p1 (h11' _) rfl rfl ?_ | refine VC.p0 (h12 _) ?_ | refine VC.p1 (h16' _) rfl rfl ?_); refine sx ?_)
    | refine VW.condT cx ?_
    | refine VW.condF cx ?_
    | refine VW.cond ex ?_ ?_
    | refine imp_nt ?_
    | refine imp_nf ?_
    | refine imp_dt (fun _ => ?_)
    | refine imp_df (fun _ => ?_)
    | (refine fun (_ : _ = true) => ?_)
    | (refine fun (_ : _ = false) => ?_)
    | refine vg_t ?_ ?_
    | refine vg_f ?_ ?_)
        all_goals exact .tmp1 cx rfl
  · have hp2 : ¬ (30 : Int) < ps'.length := by omega
    repeat' (first
    | exact True.intro
    | refine VW.seq ?_
    | refine VW.block ?_
    | ((first | refine VW.skip ?_ | refine VW.exit ?_ | refine VW.reg ?_ | refine VW.regD ?_ | refine VW.ret ?_ | show goA _ _ _ _ _ _ _ _ _ _ | show goB _ _ _ _ _ _ _ _ _ | show goAD _ _ _ _ _ _ _ _ _ _ _ _ _ _ | show goBD _ _ _ _ _ _ _ _ _ _ _ | refine VC.p2 (h35 _) rfl rfl rfl rfl ?_ | refine VC.p2 (h36 _) rfl rfl rfl rfl ?_ | refine VC.p2 (h13 _) rfl rfl rfl rfl ?_); refine sx ?_)
    | refine VW.condT cx ?_
    | refine VW.condF cx ?_
    | refine VW.cond ex ?_ ?_
    | refine imp_nt ?_
    | refine imp_nf ?_
    | refine imp_dt (fun _ => ?_)
    | refine imp_df (fun _ => ?_)
    | (refine fun (_ : _ = true) => ?_)
    | (refine fun (_ : _ = false) => ?_)
    | refine vg_t ?_ ?_
    | refine vg_f ?_ ?_)
    refine VW.forN (L.length - 1) (J8 x y L b) 0 (Nat.zero_le _) ⟨_, ex, ex, cx, ex⟩ ?_
    clear h35 h36 h13
    rintro i e m nx hi ⟨X, e2, hX, e5, e6⟩
    refine VW.below hX fun hlX => ?_
    obtain ⟨x1, x2, x3, x4, x5⟩ := below_ne hlX
    by_cases hin : i < L.length - 1
    · have hin' : ((i + 1 : Nat) : Int) < L.length := by omega
      obtain ⟨s, hs⟩ := get_of (l := L) (i := i) (by omega)
      obtain ⟨t, ht⟩ := get_of (l := L) (i := i + 1) (by omega)
      have hs' : (sps L)[i]? = some [.int .i64 s.1, .int .i64 s.2] := by rw [sps_get, hs]; rfl
      have ht' : (sps L)[i + 1]? = some [.int .i64 t.1, .int .i64 t.2] := by rw [sps_get, ht]; rfl
      have h00 : (0 : Int) ≤ i := by omega
      have htn : (i : Int).toNat = i := Int.toNat_natCast i
      have h01 : (0 : Int) ≤ ((i + 1 : Nat) : Int) := by omega
      have htn1 : ((i + 1 : Nat) : Int).toNat = i + 1 := Int.toNat_natCast _
      have hw0 : IntKind.i64.wrap (((i + 1 : Nat) : Int) - 1) = (i : Int) := by rw [IntWalk.i64_in _ (by omega)]; omega
      have hw := i64_nat (n := i + 1) (by omega)
      have h22' := h22 s.1 s.2 t.1 t.2
      rw [hm i s t hs ht] at h22'
      clear hs ht hm h22 hJ h11 h12 h16
      repeat' (first
    | exact True.intro
    | refine VW.seq ?_
    | refine VW.block ?_
    | ((first | refine VW.skip ?_ | refine VW.exit ?_ | refine VW.reg ?_ | refine VW.regD ?_ | refine VW.ret ?_ | show goA _ _ _ _ _ _ _ _ _ _ | show goB _ _ _ _ _ _ _ _ _ | show goAD _ _ _ _ _ _ _ _ _ _ _ _ _ _ | show goBD _ _ _ _ _ _ _ _ _ _ _ | refine VC.p2 (h22' _) rfl rfl rfl rfl ?_); refine sx ?_)
    | refine VW.condT cx ?_
    | refine VW.condF cx ?_
    | refine VW.cond ex ?_ ?_
    | refine imp_nt ?_
    | refine imp_nf ?_
    | refine imp_dt (fun _ => ?_)
    | refine imp_df (fun _ => ?_)
    | (refine fun (_ : _ = true) => ?_)
    | (refine fun (_ : _ = false) => ?_)
    | refine vg_t ?_ ?_
    | refine vg_f ?_ ?_)
      exact ⟨X, cx, cx, cx, cx⟩
    · have hend : ¬ ((i + 1 : Nat) : Int) < L.length := by omega
      clear hm h22 hin hi
      rcases hJ with ⟨hr, rfl⟩ | ⟨hr, rfl, rfl⟩
      · have h11' : ∀ b, V P 11 [.sl (sps L)] mt b (.sl [[.int .i64 x, .int .i64 y]]) mt := h11
        have h16' := h16 x y
        rw [hr] at h16'
        clear h11 h16
        repeat' (first
    | exact True.intro
    | refine VW.seq ?_
    | refine VW.block ?_
    | ((first | refine VW.skip ?_ | refine VW.exit ?_ | refine VW.reg ?_ | refine VW.regD ?_ | refine VW.ret ?_ | show goA _ _ _ _ _ _ _ _ _ _ | show goB _ _ _ _ _ _ _ _ _ | show goAD _ _ _ _ _ _ _ _ _ _ _ _ _ _ | show goBD _ _ _ _ _ _ _ _ _ _ _ | refine VC.p1 (h11' _) rfl rfl ?_ | refine VC.p0 (h12 _) ?_ | refine VC.p1 (h16' _) rfl rfl ?_); refine sx ?_)
    | refine VW.condT cx ?_
    | refine VW.condF cx ?_
    | refine VW.cond ex ?_ ?_
    | refine imp_nt ?_
    | refine imp_nf ?_
    | refine imp_dt (fun _ => ?_)
    | refine imp_df (fun _ => ?_)
    | (refine fun (_ : _ = true) => ?_)
    | (refine fun (_ : _ = false) => ?_)
    | refine vg_t ?_ ?_
    | refine vg_f ?_ ?_)
        all_goals exact .tmp1 cx rfl
      · have h11' : ∀ b, V P 11 [.sl []] mt b (.sl []) mt := h11
        have h16' := h16 x y
        rw [hr] at h16'
        have e5' : e 5 = some (.sl []) := e5
        have hend' : ¬ ((i + 1 : Nat) : Int) < 0 := by omega
        clear h11 h16 e5 hend hlL hL
        repeat' (first
    | exact True.intro
    | refine VW.seq ?_
    | refine VW.block ?_
    | ((first | refine VW.skip ?_ | refine VW.exit ?_ | refine VW.reg ?_ | refine VW.regD ?_ | refine VW.ret ?_ | show goA _ _ _ _ _ _ _ _ _ _ | show goB _ _ _ _ _ _ _ _ _ | show goAD _ _ _ _ _ _ _ _ _ _ _ _ _ _ | show goBD _ _ _ _ _ _ _ _ _ _ _ | refine VC.p1 (h11' _) rfl rfl ?_ | refine VC.p0 (h12 _) ?_ | refine VC.p1 (h16' _) rfl rfl ?_); refine sx ?_)
    | refine VW.condT cx ?_
    | refine VW.condF cx ?_
    | refine VW.cond ex ?_ ?_
    | refine imp_nt ?_
    | refine imp_nf ?_
    | refine imp_dt (fun _ => ?_)
    | refine imp_df (fun _ => ?_)
    | (refine fun (_ : _ = true) => ?_)
    | (refine fun (_ : _ = false) => ?_)
    | refine vg_t ?_ ?_
    | refine vg_f ?_ ?_)
        all_goals exact .tmp1 cx rfl
end
theorem v8 (x y : Int) (ps : List Int) (b : Nat) : V Try.prog 8 [asp x y, .sl (ints ps)] mt b (.bool true) mt := by
  obtain ⟨ps', hps, hl⟩ : ∃ ps', ((30 < ps.length ∧ ps' = ps.take 30) ∨ (¬ 30 < ps.length ∧ ps' = ps)) ∧ ps'.length ≤ 30 := by
    by_cases h : 30 < ps.length
    · exact ⟨_, .inl ⟨h, rfl⟩, by simp; omega⟩
    · exact ⟨_, .inr ⟨h, rfl⟩, by omega⟩
  have hL := cutF_len (x := x) (y := y) (ps := ps')
  have h35 := v35 x y ps' (by omega)
  have h36 := v36 x y ps' (by omega)
  rw [← cut_eq] at h36
  have h13 := v13 (cutF x y ps') (cutF x y ps')
  rw [decide_eq_true rfl] at h13
  have h11 := v11 (cutF x y ps') (by omega)
  cases hr : rightB x y
  · have hc : cutF x y ps' = [] := by simp [cutF, hr]
    rw [hc] at h35 h36 h13 h11
    have hj : joinF [] = [] := by unfold joinF sortF; simp
    rw [hj] at h11
    exact V.code mixed k8 (by simp) (w8' v12 v16 v22 x y [] [] (by simp) h13 h11 (fun i s t h => by simp at h) (.inr ⟨hr, rfl, rfl⟩) ps ps' hps h35 h36 b)
  · have hxy : x < y := by have := hr; simp [rightB] at this; omega
    have hP := cutE_pieces (ps := ps') hxy
    have hc : cutF x y ps' = pcs x (cutE x y ps') := by simp [cutF, hr]
    rw [hc] at h35 h36 h13 h11 hL
    rw [hP.join hr] at h11
    exact V.code mixed k8 (by simp) (w8' v12 v16 v22 x y _ _ (by omega) h13 h11 (fun i s t h1 h2 => hP.meet hr h1 h2) (.inl ⟨hr, rfl⟩) ps ps' hps h35 h36 b)
end Go.Vx
/- What the laws' arguments are. -/
set_option linter.unusedSimpArgs false
set_option linter.unusedVariables false
namespace Go.Vx
open Go Go.Proofs
theorem fits_sp {q : PV} {N : Nat} (h : Fits N [.int .i64, .int .i64] true q) : ∃ x y, q = asp x y := by
  obtain ⟨qs, rfl, hl, hq⟩ := h
  match qs, hl with
  | [p, r], _ =>
    have h1 := hq 0 _ p rfl rfl
    have h2 := hq 1 _ r rfl rfl
    cases h1; cases h2
    exact ⟨_, _, rfl⟩
theorem fits_int {q : PV} {N : Nat} {k : IntKind} (h : Fits N [.int k] false q) : ∃ x, q = .int k x ∧ (Lit.int k x).wf = true := by
  obtain ⟨ct, h1, h2⟩ := h
  injection h1 with h1; subst h1
  cases h2
  exact ⟨_, rfl, ‹_›⟩
theorem fits_sps {q : PV} {N : Nat} (h : Fits N [.sl [.int .i64, .int .i64]] false q) : ∃ l, q = .sl (sps l) ∧ l.length ≤ N := by
  obtain ⟨ct, h1, h2⟩ := h
  injection h1 with h1; subst h1
  cases h2 with
  | sl _ xs hl h1 h =>
    have key : ∀ xs : List (List PV), (∀ x ∈ xs, x.length = 2) → (∀ x ∈ xs, ∀ (j : Nat) c p, [CT.int .i64, CT.int .i64][j]? = some c → x[j]? = some p → HasCT N c p) → ∃ l, xs = sps l := by
      intro xs
      induction xs with
      | nil => intro _ _; exact ⟨[], rfl⟩
      | cons x xs ih =>
        intro g1 g2
        obtain ⟨l, rfl⟩ := ih (fun y hy => g1 y (List.mem_cons_of_mem _ hy)) (fun y hy => g2 y (List.mem_cons_of_mem _ hy))
        have hx := g1 x List.mem_cons_self
        match x, hx with
        | [p, r], _ =>
          have h1 := g2 [p, r] List.mem_cons_self 0 _ p rfl rfl
          have h2 := g2 [p, r] List.mem_cons_self 1 _ r rfl rfl
          cases h1; cases h2
          exact ⟨(_, _) :: l, rfl⟩
    obtain ⟨l, rfl⟩ := key xs h1 h
    exact ⟨l, rfl, by rwa [sps_len] at hl⟩
theorem ct_sp : cellsTy Try.prog 5 26 = some [.int .i64, .int .i64] := by kernel_rfl
theorem ct_int : cellsTy Try.prog 5 3 = some [.int .i64] := by kernel_rfl
theorem ct_sps : cellsTy Try.prog 5 22 = some [.sl [.int .i64, .int .i64]] := by kernel_rfl
theorem ag_sp : tyAgg Try.prog 26 = some true := by kernel_rfl
theorem ag_int : tyAgg Try.prog 3 = some false := by kernel_rfl
theorem ag_sps : tyAgg Try.prog 22 = some false := by kernel_rfl
theorem reps1 {w : World} {ok : Nat → Prop} {β : Ids} {p : PV} {v : Value} (h : Rep w ok β p v) : Reps w ok β [p] [v] := ⟨rfl, fun j q u h1 h2 => by
  match j with
  | 0 => simp at h1 h2; subst h1; subst h2; exact h
  | j + 1 => simp at h1⟩
theorem repsC {w : World} {ok : Nat → Prop} {β : Ids} {p : PV} {v : Value} {ps : List PV} {vs : List Value} (h : Rep w ok β p v) (hs : Reps w ok β ps vs) : Reps w ok β (p :: ps) (v :: vs) := ⟨by simp [hs.1], fun j q u h1 h2 => by
  match j with
  | 0 => simp at h1 h2; subst h1; subst h2; exact h
  | j + 1 => simp at h1 h2; exact hs.2 j q u h1 h2⟩
end Go.Vx
namespace Go.Proofs.Ytfeobpjoifffiaa
open Go.ChangeShapes Go.WideShapes Go.ChangeAt Go.RowKit Go.Vx

theorem own : ownKnob Try.prog.godebug = none := by kernel_rfl
theorem laidOut : laidOutB Try.prog = true := by kernel_rfl

end Go.Proofs.Ytfeobpjoifffiaa
/- Arguments: numbers. -/
set_option linter.unusedVariables false
namespace Go.Vx
open Go Go.Proofs
theorem fits_ints {q : PV} {N : Nat} (h : Fits N [.sl [.int .i64]] false q) : ∃ l, q = .sl (ints l) ∧ l.length ≤ N := by
  obtain ⟨ct, h1, h2⟩ := h
  injection h1 with h1; subst h1
  cases h2 with
  | sl _ xs hl h1 h =>
    have key : ∀ xs : List (List PV), (∀ x ∈ xs, x.length = 1) → (∀ x ∈ xs, ∀ (j : Nat) c p, [CT.int .i64][j]? = some c → x[j]? = some p → HasCT N c p) → ∃ l, xs = ints l := by
      intro xs
      induction xs with
      | nil => intro _ _; exact ⟨[], rfl⟩
      | cons x xs ih =>
        intro g1 g2
        obtain ⟨l, rfl⟩ := ih (fun y hy => g1 y (List.mem_cons_of_mem _ hy)) (fun y hy => g2 y (List.mem_cons_of_mem _ hy))
        have hx := g1 x List.mem_cons_self
        match x, hx with
        | [p], _ =>
          have h1 := g2 [p] List.mem_cons_self 0 _ p rfl rfl
          cases h1
          exact ⟨_ :: l, rfl⟩
    obtain ⟨l, rfl⟩ := key xs h1 h
    exact ⟨l, rfl, by rwa [ints_len] at hl⟩
theorem ct_ints : cellsTy Try.prog 5 42 = some [.sl [.int .i64]] := by kernel_rfl
theorem ag_ints : tyAgg Try.prog 42 = some false := by kernel_rfl
end Go.Vx
