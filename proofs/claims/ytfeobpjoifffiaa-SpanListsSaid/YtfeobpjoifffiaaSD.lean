/- The contracts of the functions about spans, over the program. -/
import Derived.Test.YtfeobpjoifffiaaSC
import Derived.Test.YtfeobpjoifffiaaL
set_option linter.unusedSimpArgs false
set_option linter.unusedVariables false
namespace Go.Vx
open Go Go.Proofs

theorem cmpI_neg {x y : Int} : cmpI x y < 0 ↔ x < y := by unfold cmpI; split <;> (try split) <;> omega
theorem cmpI_zero {x y : Int} : cmpI x y = 0 ↔ x = y := by unfold cmpI; split <;> (try split) <;> omega
theorem ltS {s t : Sp} : ltOf cmpS s t = decide (s.1 < t.1 ∨ s.1 = t.1 ∧ s.2 < t.2) := by
  show decide ((if cmpI s.1 t.1 = 0 then (if cmpI s.2 t.2 = 0 then 0 else cmpI s.2 t.2) else cmpI s.1 t.1) < 0) = _
  have a := cmpI_neg (x := s.1) (y := t.1)
  have b := cmpI_neg (x := s.2) (y := t.2)
  have c := cmpI_zero (x := s.1) (y := t.1)
  have d := cmpI_zero (x := s.2) (y := t.2)
  apply decide_eq_decide.2
  split
  · split <;> omega
  · omega
theorem swoS : Go.Sort.SWO (ltOf cmpS) := {
  irrefl x := by rw [ltS]; simp
  trans x y z h1 h2 := by rw [ltS] at *; simp at *; omega
  ntrans x y z h1 h2 := by rw [ltS] at *; simp at *; omega }
theorem totS (s t : Sp) (h1 : ltOf cmpS s t = false) (h2 : ltOf cmpS t s = false) : s = t := by
  rw [ltS] at *
  simp at h1 h2
  exact Prod.ext (by omega) (by omega)
theorem plainS : Plain (α := Sp) isp (fun s => [.int .i64 s.1, .int .i64 s.2]) 2 := {
  lenP _ := rfl
  len _ := rfl
  one x c hc := by simp [isp] at hc; rcases hc with rfl | rfl <;> rfl
  oneV x c hc := by simp at hc; rcases hc with rfl | rfl <;> rfl
  rep w ok β x j c v hc hv := by
    match j with
    | 0 => simp [isp] at hc hv; subst hc; subst hv; exact .int _ _
    | 1 => simp [isp] at hc hv; subst hc; subst hv; exact .int _ _
    | j + 2 => simp [isp] at hc
  unq w ok β x j c v hc hr := by
    match j with
    | 0 => simp [isp] at hc; subst hc; cases hr; rfl
    | 1 => simp [isp] at hc; subst hc; cases hr; rfl
    | j + 2 => simp [isp] at hc }

theorem v16 (x y : Int) (b : Nat) : V Try.prog 16 [asp x y] mt b (.bool (rightB x y)) mt := V.code mixed k16 (by simp) (w16 x y b)
theorem v17 (x y : Int) (b : Nat) : V Try.prog 17 [asp x y] mt b (.bool (rightB x y)) mt := V.code mixed k17 (by simp) (w17 x y b)
theorem v20 (x y u v : Int) (b : Nat) : V Try.prog 20 [asp x y, asp u v] mt b (.bool (overB x y u v)) mt := V.code mixed k20 (by simp) (w20 v16 x y u v b)
theorem v14 (x y u v : Int) (b : Nat) : V Try.prog 14 [asp x y, asp u v] mt b (bothF x y u v) mt := V.code mixed k14 (by simp) (w14 v20 x y u v b)
theorem v15 (x y u v : Int) (b : Nat) : V Try.prog 15 [asp x y, asp u v] mt b (bothR x y u v) mt := V.code mixed k15 (by simp) (w15 v17 x y u v b)
theorem v18 (x y p : Int) (b : Nat) : V Try.prog 18 [asp x y, .int .i64 p] mt b (.bool (hasB x y p)) mt := V.code mixed k18 (by simp) (w18 v16 x y p b)
theorem v19 (x y p : Int) (b : Nat) : V Try.prog 19 [asp x y, .int .i64 p] mt b (.bool (hasB x y p)) mt := V.code mixed k19 (by simp) (w19 v17 x y p b)
theorem v21 (x y u v : Int) (b : Nat) : V Try.prog 21 [asp x y, asp u v] mt b (.bool (overR x y u v)) mt := V.code mixed k21 (by simp) (w21 v15 x y u v b)
theorem v22 (x y u v : Int) (b : Nat) : V Try.prog 22 [asp x y, asp u v] mt b (.bool (meetB x y u v)) mt := V.code mixed k22 (by simp) (w22 v16 x y u v b)
theorem v23 (x y u v : Int) (b : Nat) : V Try.prog 23 [asp x y, asp u v] mt b (.bool (meetB x y u v)) mt := V.code mixed k23 (by simp) (w23 v17 x y u v b)
theorem v24 (x y u v : Int) (b : Nat) : V Try.prog 24 [asp x y, asp u v] mt b (.sl (sps (minusF x y u v))) mt := V.code mixed k24 (by simp) (w24 v16 v14 x y u v b)
theorem v49 (x : Int) (b : Nat) : V Try.prog 49 [.int .i64 x] mt b (.bool false) mt := V.code mixed k49 (by simp) (w49 x b)
theorem v45 (x y : Int) (b : Nat) : V Try.prog 45 [.int .i64 x, .int .i64 y] mt b (.int .i64 (cmpI x y)) mt := V.code mixed k45 (by simp) (w45 v49 x y b)
theorem v44 (zs : List Int) (b : Nat) : V Try.prog 44 [.sl (ints zs)] mt b (.int .i64 (orF zs)) mt := V.code mixed k44 (by simp) (w44 zs b)
theorem v43 (s t : Sp) (b : Nat) : V Try.prog 43 [.agg (isp s), .agg (isp t)] mt b (.int .i64 (cmpS s t)) mt := V.code mixed k43 (by simp) (w43 v45 v44 s t b)
theorem v42 (xs : List Sp) (h : xs.length < 4611686018427387904) (id b : Nat) (hid : id < b) : V Try.prog 42 [.osl id xs.length, .fn 43 []] (upd mt id (some (.row 2 (sps xs) 26 false))) b (.tup []) (upd mt id (some (.row 2 (sps (xs.mergeSort leS)) 26 false))) :=
  V.sortFunc Try.sortSp (by omega) (fun w => run_isAgg (P := Try.prog) (t := 26) (by kernel_rfl)) (fun w => run_sizeOf (P := Try.prog) (t := 26) (by kernel_rfl)) plainS swoS totS v43 xs h hid
theorem v37 (l : List Sp) (h : l.length < 4294967296) (b : Nat) : V Try.prog 37 [.sl (sps l)] mt b (.sl (sps (sortF l))) mt := V.code mixed k37 (by simp) (w37 v16 v42 l h b)
theorem v11 (l : List Sp) (h : l.length < 4294967296) (b : Nat) : V Try.prog 11 [.sl (sps l)] mt b (.sl (sps (joinF l))) mt := V.code mixed k11 (by simp) (w11 v37 l h b)

theorem foldJ_len : ∀ (l : List Sp) (acc : List Sp), (l.foldl stepJ acc).length ≤ acc.length + l.length
  | [], acc => by simp
  | s :: l, acc => by
    have h1 := foldJ_len l (stepJ acc s)
    have h2 : (stepJ acc s).length ≤ acc.length + 1 := by unfold stepJ; split <;> (try split) <;> simp
    simp only [List.foldl_cons, List.length_cons] at *
    omega
theorem joinF_len (l : List Sp) : (joinF l).length ≤ l.length := by
  unfold joinF
  have h1 := foldJ_len (sortF l) []
  have h2 := sortF_len (l := l)
  simp at h1 ⊢
  omega

theorem v27 (l : List Sp) (h : l.length < 4294967296) (b : Nat) : V Try.prog 27 [.sl (sps l)] mt b (.int .i64 (sumF (joinF l))) mt := V.code mixed k27 (by simp) (w27 v11 l h (joinF_len l) b)
theorem v25 (l : List Sp) (h : l.length < 4294967296) (x y : Int) (b : Nat) : V Try.prog 25 [.sl (sps l), asp x y] mt b (.sl (sps (gapsF l x y))) mt := V.code mixed k25 (by simp) (w25 v16 v14 v11 l h (joinF_len l) x y b)
theorem v26 (l : List Sp) (h : l.length < 4294967296) (x y : Int) (b : Nat) : V Try.prog 26 [.sl (sps l), asp x y] mt b (.bool (rightB x y && decide (gapsF l x y = []))) mt := V.code mixed k26 (by simp) (w26 v16 l x y (v25 l h x y) b)
theorem v10 (l : List Sp) (b : Nat) : V Try.prog 10 [.sl (sps l)] mt b (.sl (sps (l.take 30))) mt := V.code mixed k10 (by simp) (w10 l b)

theorem sort_eq {l ys : List Sp} (hp : (l.filter rightS).Perm ys) (hs : ys.Pairwise (fun a b => leS a b = true)) : sortF l = ys := by
  have tr : ∀ a b c : Sp, leS a b = true → leS b c = true → leS a c = true := fun a b c => by unfold leS; rw [ltS, ltS, ltS]; simp; omega
  have to : ∀ a b : Sp, (leS a b || leS b a) = true := fun a b => by unfold leS; rw [ltS, ltS]; simp; omega
  have h1 := List.pairwise_mergeSort tr to (l.filter rightS)
  have h2 := (List.mergeSort_perm (l.filter rightS) leS).trans hp
  exact h2.eq_of_pairwise (fun a b _ _ h1 h2 => by
    unfold leS at h1 h2; rw [ltS] at h1 h2; simp at h1 h2
    exact Prod.ext (by omega) (by omega)) h1 hs

theorem live_join : joinF [(3, 5), (0, 3), (7, 8)] = [(0, 5), (7, 8)] := by
  have : sortF [(3, 5), (0, 3), (7, 8)] = [(0, 3), (3, 5), (7, 8)] := sort_eq (by decide) (by unfold leS; simp [ltS])
  rw [joinF, this]; rfl
theorem live_join2 : joinF [(0, 5), (7, 8)] = [(0, 5), (7, 8)] := by
  have : sortF [(0, 5), (7, 8)] = [(0, 5), (7, 8)] := sort_eq (by decide) (by unfold leS; simp [ltS])
  rw [joinF, this]; rfl
theorem v12 (b : Nat) : V Try.prog 12 [] mt b (.bool true) mt :=
  V.code mixed k12 (by simp) (w12 v16 v22 v24 (fun b => live_join ▸ v11 [(3, 5), (0, 3), (7, 8)] (by decide) b) (fun b => by
    have := v27 [(0, 5), (7, 8)] (by decide) b
    rw [live_join2] at this
    exact this) b)
theorem v4 (x y u v p : Int) (b : Nat) : V Try.prog 4 [asp x y, asp u v, .int .i64 p] mt b (.bool true) mt := V.code mixed k4 (by simp) (w4 v12 v14 v15 v16 v17 v18 v19 v20 v21 v22 v23 x y u v p b)
theorem v5 (x y u v p : Int) (b : Nat) : V Try.prog 5 [asp x y, asp u v, .int .i64 p] mt b (.bool true) mt := V.code mixed k5 (by simp) (w5 v12 v14 v18 v24 x y u v p b)
end Go.Vx
