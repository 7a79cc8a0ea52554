/- TopCovers' code, turned. -/
import Derived.Test.YtfeobpjoifffiaaGE
import Derived.Test.YtfeobpjoifffiaaGH
set_option maxRecDepth 100000
namespace Go.Vx
open Go Go.Proofs

/-- regesta/regestatop.TopCovers -/
def c9 : XCode :=
  .seq (.reg [⟨(some 3), .box 26 2 (.t 0), none, 0, true, false⟩,
      ⟨(some 6), .mv (.c (.bool false)), none, 0, true, false⟩])
  (.seq (.seq (.reg [⟨(some 11), .mv (.t 1), none, 0, true, false⟩,
        ⟨(some 12), .lenS (.t 11), none, 0, true, false⟩,
        ⟨(some 13), .bin .gtr (.t 12) (.c (.int .i64 20)), none, 0, true, false⟩])
    (.cond (.t 13)
      (.reg [⟨(some 14), .mv (.t 1), none, 0, true, false⟩,
        ⟨(some 15), .sliceS 1 (.t 14) none (some (.c (.int .i64 20))), none, 0, true, false⟩,
        ⟨(some 1), .mv (.t 15), none, 0, true, false⟩])
      (.skip)))
  (.seq (.reg [⟨(some 16), .loadn 2 (.t 3), none, 0, true, false⟩,
      ⟨(some 17), .mv (.t 1), none, 0, true, false⟩,
      ⟨(some 18), .call 35 [(.t 16), (.t 17)], none, 0, true, false⟩,
      ⟨(some 7), .mv (.t 18), none, 0, true, false⟩])
  (.seq (.seq (.reg [⟨(some 19), .mv (.t 7), none, 0, true, false⟩,
        ⟨(some 20), .lenS (.t 19), none, 0, true, false⟩,
        ⟨(some 21), .bin .eql (.t 20) (.c (.int .i64 0)), none, 0, true, false⟩])
    (.cond (.t 21)
      (.seq (.reg [⟨(some 22), .loadn 2 (.t 3), none, 0, true, false⟩,
          ⟨(some 23), .call 16 [(.t 22)], none, 0, true, false⟩,
          ⟨(some 24), .not (.t 23), none, 0, true, false⟩,
          ⟨(some 25), .mv (.t 24), none, 0, true, false⟩,
          ⟨(some 26), .build [(.int .i64 0), (.int .i64 0)] [(0, 1, (.c (.int .i64 0))), (1, 1, (.c (.int .i64 1)))], (some (25, true)), 0, true, false⟩,
          ⟨(some 27), .call 16 [(.t 26)], (some (25, true)), 0, true, false⟩,
          ⟨(some 28), .pick (.t 25) (.t 27) (.c (.bool false)), none, 0, true, false⟩,
          ⟨(some 6), .mv (.t 28), none, 0, true, false⟩])
      (.ret))
      (.skip)))
  (.seq (.reg [⟨(some 29), .mv (.t 2), none, 0, true, false⟩,
      ⟨(some 30), .conv .i64 (.t 29), none, 0, true, false⟩,
      ⟨(some 31), .mv (.t 7), none, 0, true, false⟩,
      ⟨(some 32), .lenS (.t 31), none, 0, true, false⟩,
      ⟨(some 33), .bin .rem (.t 30) (.t 32), none, 0, true, false⟩,
      ⟨(some 8), .mv (.t 33), none, 0, true, false⟩])
  (.seq (.regD [⟨(some 34), .mkrow 26 2 0 [(.int .i64 0), (.int .i64 0)] [], none, 0, false, false⟩,
      ⟨(some 35), .mv (.t 7), none, 0, false, false⟩,
      ⟨(some 36), .mv (.t 8), none, 0, false, false⟩,
      ⟨(some 37), .sliceS 2 (.t 35) none (some (.t 36)), none, 6, false, false⟩,
      ⟨(some 38), .appendL 26 2 16 (.t 34) (.t 37), none, 15, false, false⟩,
      ⟨(some 39), .mv (.t 7), none, 0, false, false⟩,
      ⟨(some 40), .mv (.t 8), none, 0, false, false⟩,
      ⟨(some 41), .bin .add (.t 40) (.c (.int .i64 1)), none, 64, false, false⟩,
      ⟨(some 42), .sliceS 2 (.t 39) (some (.t 41)) none, none, 224, false, false⟩,
      ⟨(some 43), .append 26 2 16 (.t 38) (.t 42), none, 511, true, false⟩,
      ⟨(some 9), .mv (.t 43), none, 1023, false, false⟩])
  (.seq (.reg [⟨(some 44), .mv (.t 9), none, 0, true, false⟩,
      ⟨(some 45), .loadn 2 (.t 3), none, 0, true, false⟩,
      ⟨(some 46), .call 25 [(.t 44), (.t 45)], none, 0, true, false⟩,
      ⟨(some 10), .mv (.t 46), none, 0, true, false⟩])
  (.seq (.regD [⟨(some 47), .mv (.t 7), none, 0, false, false⟩,
      ⟨(some 48), .loadn 2 (.t 3), none, 0, true, false⟩,
      ⟨(some 49), .call 26 [(.t 47), (.t 48)], none, 3, true, false⟩,
      ⟨(some 50), .mv (.t 49), none, 7, false, false⟩,
      ⟨(some 51), .mv (.t 9), (some (50, true)), 15, false, false⟩,
      ⟨(some 52), .loadn 2 (.t 3), (some (50, true)), 15, true, false⟩,
      ⟨(some 53), .call 26 [(.t 51), (.t 52)], (some (50, true)), 63, true, false⟩,
      ⟨(some 54), .not (.t 53), (some (50, true)), 127, false, false⟩,
      ⟨(some 55), .pick (.t 50) (.t 54) (.c (.bool false)), none, 255, false, false⟩,
      ⟨(some 56), .mv (.t 55), none, 511, false, false⟩,
      ⟨(some 57), .mv (.t 10), (some (56, true)), 1023, false, false⟩,
      ⟨(some 58), .lenS (.t 57), (some (56, true)), 2047, false, false⟩,
      ⟨(some 59), .bin .eql (.t 58) (.c (.int .i64 1)), (some (56, true)), 4095, false, false⟩,
      ⟨(some 60), .pick (.t 56) (.t 59) (.c (.bool false)), none, 8191, false, false⟩,
      ⟨(some 61), .mv (.t 60), none, 16383, false, false⟩,
      ⟨(some 62), .mv (.t 10), (some (61, true)), 32767, false, false⟩,
      ⟨(some 63), .indexS 2 (.t 62) (.c (.int .i64 0)), (some (61, true)), 65535, false, false⟩,
      ⟨(some 64), .loadn 2 (.t 63), (some (61, true)), 131071, false, false⟩,
      ⟨(some 65), .mv (.t 7), (some (61, true)), 32767, false, false⟩,
      ⟨(some 66), .mv (.t 8), (some (61, true)), 32767, false, false⟩,
      ⟨(some 67), .indexS 2 (.t 65) (.t 66), (some (61, true)), 819199, false, false⟩,
      ⟨(some 68), .loadn 2 (.t 67), (some (61, true)), 1867775, false, false⟩,
      ⟨(some 69), .eqs false [(.int .i64 0), (.int .i64 0)] (.t 64) (.t 68), (some (61, true)), 4194303, false, false⟩,
      ⟨(some 70), .pick (.t 61) (.t 69) (.c (.bool false)), none, 8388607, false, false⟩,
      ⟨(some 6), .mv (.t 70), none, 16777215, false, false⟩])
  (.ret))))))))
theorem k9 : codeOf Try.prog 9 = some (c9, [.tmp 6], 71, false) := by kernel_rfl

end Go.Vx
/- The plain law of TopCovers. -/
set_option linter.unusedSimpArgs false
set_option linter.unusedVariables false
set_option maxRecDepth 4000
set_option maxHeartbeats 2000000
namespace Go.Vx
open Go Go.Proofs

theorem pcs_split : ∀ (f : Int) (A : List Int) (e : Int) (B : List Int), pcs f (A ++ e :: B) = pcs f A ++ (lastI f A, e) :: pcs e B
  | f, [], e, B => rfl
  | f, a :: A, e, B => by
    rw [List.cons_append, pcs, pcs_split a A e B, pcs]
    have : lastI a A = lastI f (a :: A) := by
      cases A with
      | nil => rfl
      | cons b A =>
        obtain ⟨z, hz⟩ : ∃ z, (b :: A).getLast? = some z := by
          cases h : (b :: A).getLast? with
          | none => simp at h
          | some z => exact ⟨z, rfl⟩
        simp only [lastI, List.getLast?_cons_cons, hz, Option.getD_some]
    rw [this]; rfl
/-- A fold over pieces: one span from where they begin to where they end. -/
theorem fold_some {acc : List Sp} {f : Int} {e : Int} {es : List Int} (ha : (e :: es).Pairwise (· < ·)) (hf : f < e) (hacc : ∀ t ∈ acc.head?, t.2 < f) : (pcs f (e :: es)).foldl stepJ acc = (f, lastI f (e :: es)) :: acc := by
  have h1 : stepJ acc (f, e) = (f, e) :: acc := by
    cases acc with
    | nil => rfl
    | cons t r => simp [stepJ, hacc t (by simp)]
  rw [pcs, List.foldl_cons, h1]
  rw [List.pairwise_cons] at ha
  have key : ∀ (es : List Int) (e : Int), es.Pairwise (· < ·) → (∀ d ∈ es, e < d) → (pcs e es).foldl stepJ ((f, e) :: acc) = (f, lastI e es) :: acc := by
    intro es
    induction es with
    | nil => intro e _ _; rfl
    | cons d es ih =>
      intro e h hf
      rw [List.pairwise_cons] at h
      have hed := hf d List.mem_cons_self
      have hst : stepJ ((f, e) :: acc) (e, d) = (f, d) :: acc := by
        show (if e < e then _ else (f, max e d) :: acc) = _
        rw [if_neg (by omega), show max e d = d by omega]
      rw [pcs, List.foldl_cons, hst, ih d h.2 h.1]
      cases es with
      | nil => rfl
      | cons b es =>
        obtain ⟨z, hz⟩ : ∃ z, (b :: es).getLast? = some z := by
          cases h : (b :: es).getLast? with
          | none => simp at h
          | some z => exact ⟨z, rfl⟩
        simp only [lastI, List.getLast?_cons_cons, hz, Option.getD_some]
  rw [key es e ha.2 ha.1]
  cases es with
  | nil => rfl
  | cons b es =>
    obtain ⟨z, hz⟩ : ∃ z, (b :: es).getLast? = some z := by
      cases h : (b :: es).getLast? with
      | none => simp at h
      | some z => exact ⟨z, rfl⟩
    simp only [lastI, List.getLast?_cons_cons, hz, Option.getD_some]

theorem lastI_mem {f : Int} {A : List Int} (h : A ≠ []) : lastI f A ∈ A := by
  cases hz : A.getLast? with
  | none => rw [List.getLast?_eq_none_iff] at hz; exact absurd hz h
  | some z => simp only [lastI, hz, Option.getD_some]; exact List.mem_of_getLast? hz
/-- Without one piece: what is left, joined. -/
theorem join_less {x y : Int} {A B : List Int} {e : Int} (h : Pieces x y (A ++ e :: B)) (hr : rightB x y = true) :
    joinF (pcs x A ++ pcs e B) = (if A = [] then [] else [(x, lastI x A)]) ++ (if B = [] then [] else [(e, y)]) := by
  have hr' := hr
  simp [rightB] at hr'
  have hasc := List.pairwise_append.1 h.asc
  have hB := List.pairwise_cons.1 hasc.2.1
  obtain ⟨a1, a2⟩ := pcs_asc (f := x) hasc.1 fun q hq => h.gt q (by simp [hq])
  obtain ⟨b1, b2⟩ := pcs_asc (f := e) hB.2 hB.1
  have hxe := h.gt e (by simp)
  have hsub : (pcs x A ++ pcs e B).Pairwise fun a b => a.1 < b.1 := by
    rw [List.pairwise_append]
    refine ⟨a2, b2, fun s hs t ht => ?_⟩
    obtain ⟨_, s1, s2⟩ := a1 s hs
    have := hasc.2.2 _ s2 e (by simp)
    have := (b1 t ht).1
    omega
  have hall : ∀ s ∈ pcs x A ++ pcs e B, rightS s = true := fun s hs => by
    rcases List.mem_append.1 hs with hs | hs
    · obtain ⟨s0, s1, s2⟩ := a1 s hs
      have := h.le _ (by simp [s2] : s.2 ∈ A ++ e :: B)
      exact rightS_iff.2 ⟨by omega, s1, by omega⟩
    · obtain ⟨s0, s1, s2⟩ := b1 s hs
      have := h.le _ (by simp [s2] : s.2 ∈ A ++ e :: B)
      exact rightS_iff.2 ⟨by omega, s1, by omega⟩
  have hsort : sortF (pcs x A ++ pcs e B) = pcs x A ++ pcs e B := sort_eq (by rw [List.filter_eq_self.2 hall]) (hsub.imp fun hab => leS_of hab)
  have hlast : B ≠ [] → lastI e B = y := fun hb => by
    have hl := h.last
    have h2 : lastI x (A ++ e :: B) = lastI e B := by
      cases B with
      | nil => exact absurd rfl hb
      | cons b B =>
        obtain ⟨z, hz⟩ : ∃ z, (b :: B).getLast? = some z := by
          cases h : (b :: B).getLast? with
          | none => simp at h
          | some z => exact ⟨z, rfl⟩
        have : (A ++ e :: b :: B).getLast? = some z := by
          rw [List.getLast?_append, List.getLast?_cons_cons, hz]; rfl
        simp only [lastI, this, hz, Option.getD_some]
    rw [← h2]; exact hl
  unfold joinF
  rw [hsort, List.foldl_append]
  have hA : (pcs x A).foldl stepJ [] = if A = [] then [] else [(x, lastI x A)] := by
    cases A with
    | nil => rfl
    | cons a A => rw [fold_some hasc.1 (h.gt a (by simp)) (by simp)]; simp
  rw [hA]
  cases B with
  | nil => by_cases ha : A = [] <;> simp [ha, pcs]
  | cons b B =>
    rw [fold_some hB.2 (hB.1 b (by simp)) (fun t ht => by
      by_cases ha : A = []
      · rw [if_pos ha] at ht; simp at ht
      · rw [if_neg ha] at ht
        simp at ht
        subst ht
        exact hasc.2.2 _ (lastI_mem ha) e (by simp)), hlast (by simp)]
    by_cases ha : A = [] <;> simp [ha]
/-- The gaps are the piece that is not there. -/
theorem gaps_less {x y : Int} {A B : List Int} {e : Int} (h : Pieces x y (A ++ e :: B)) (hr : rightB x y = true) : gapsF (pcs x A ++ pcs e B) x y = [(lastI x A, e)] := by
  have hr' := hr
  simp [rightB] at hr'
  have hasc := List.pairwise_append.1 h.asc
  have hxe := h.gt e (by simp)
  have hey := h.le e (by simp)
  have hl := h.last
  unfold gapsF
  rw [if_pos hr, join_less h hr]
  by_cases ha : A = []
  · subst ha
    by_cases hb : B = []
    · subst hb
      have : e = y := by simpa [lastI] using hl
      subst this
      simp [foldG, endG, lastI, hxe]
    · have hlt : e < y := by
        have := h.y
        simp at this
        rcases this with rfl | hy
        · cases B with
          | nil => exact absurd rfl hb
          | cons b B =>
            have h1 := h.le b (by simp)
            have h2 := (List.pairwise_cons.1 hasc.2.1).1 b (by simp)
            omega
        · exact (List.pairwise_cons.1 hasc.2.1).1 y hy
      have ho : overB e y x y = true := by simp [overB, rightB]; omega
      have hm : max e x = e := by omega
      simp [foldG, stepG, endG, lastI, ho, hb, hm, hxe]
  · have hla := lastI_mem (f := x) ha
    have h1 : x < lastI x A := h.gt _ (by simp [hla])
    have h2 : lastI x A < e := hasc.2.2 _ hla e (by simp)
    generalize lastI x A = f at *
    have ho : overB x f x y = true := by simp [overB, rightB]; omega
    have hm : min f y = f := by omega
    by_cases hb : B = []
    · subst hb
      have : e = y := by
        have := h.y
        simp at this
        rcases this with hy | hy
        · have := hasc.2.2 _ hy e (by simp); omega
        · exact hy.symm
      subst this
      simp [foldG, stepG, endG, ho, ha, hm, h2]
    · have hlt : e < y := by
        have := h.y
        simp at this
        rcases this with hy | rfl | hy
        · have := hasc.2.2 _ hy e (by simp); omega
        · cases B with
          | nil => exact absurd rfl hb
          | cons b B =>
            have h1 := h.le b (by simp)
            have h2 := (List.pairwise_cons.1 hasc.2.1).1 b (by simp)
            omega
        · exact (List.pairwise_cons.1 hasc.2.1).1 y hy
      have ho2 : overB e y x y = true := by simp [overB, rightB]; omega
      have hm2 : max e x = e := by omega
      simp [foldG, stepG, endG, ho, ho2, ha, hb, hm, hm2, h2]
theorem gaps_all {x y : Int} {C : List Int} (h : Pieces x y C) (hr : rightB x y = true) : gapsF (pcs x C) x y = [] := by
  have hr' := hr
  simp [rightB] at hr'
  unfold gapsF
  rw [if_pos hr, h.join hr]
  have ho : overB x y x y = true := by simp [overB, rightB]; omega
  simp [foldG, stepG, endG, ho]
end Go.Vx
/- TopCovers, walked. -/
set_option linter.unusedSimpArgs false
set_option linter.unusedVariables false
set_option maxRecDepth 4000
set_option maxHeartbeats 4000000
namespace Go.Vx
open Go Go.Proofs

section
variable {P : Program}
theorem w9n (h16 : ∀ x y b, V P 16 [asp x y] mt b (.bool (rightB x y)) mt) (x y : Int) (hr : rightB x y = false) (n : Int) (ps ps' : List Int) (hps : (20 < ps.length ∧ ps' = ps.take 20) ∨ (¬ 20 < ps.length ∧ ps' = ps)) (h35 : ∀ b, V P 35 [asp x y, .sl (ints ps')] mt b (.sl []) mt) (b : Nat) :
    VW P c9 (PRet (Ends [.tmp 6] b (.bool true) mt)) (fun t => [asp x y, PV.sl (ints ps), .int .u8 n][t]?) mt b := by
  unfold c9
  have hl := ints_len (l := ps)
  have t20 : (20 : Int).toNat = 20 := rfl
  have h16a := h16 x y
  have h16b := h16 0 1
  rw [hr] at h16a
  rw [show rightB 0 1 = true from by decide] at h16b
  clear h16
  rcases hps with ⟨hp1, rfl⟩ | ⟨hp1, rfl⟩
  · have hp2 : (20 : Int) < ps.length := by omega
    have hp3 : 20 ≤ ps.length := by omega
    have htk : (ints ps).take 20 = ints (ps.take 20) := by simp [ints]
    repeat' (first
    | exact True.intro
    | refine VW.seq ?_
    | refine VW.block ?_
    | ((first | refine VW.skip ?_ | refine VW.exit ?_ | refine VW.reg ?_ | refine VW.regD ?_ | refine VW.ret ?_ | show goA _ _ _ _ _ _ _ _ _ _ | show goB _ _ _ _ _ _ _ _ _ | show goAD _ _ _ _ _ _ _ _ _ _ _ _ _ _ | show goBD _ _ _ _ _ _ _ _ _ _ _ | refine VC.p2 (h35 _) rfl rfl rfl rfl ?_ | refine VC.p1 (h16a _) rfl rfl ?_ | refine VC.p1 (h16b _) rfl rfl ?_); refine sx ?_)
    | refine VW.condT cx ?_
    | refine VW.condF cx ?_
    | refine VW.cond ex ?_ ?_
    | refine imp_nt ?_
    | refine imp_nf ?_
    | refine imp_dt (fun _ => ?_)
    | refine imp_df (fun _ => ?_)
    | (refine fun (_ : _ = true) => ?_)
    | (refine fun (_ : _ = false) => ?_)
    | refine vg_t ?_ ?_
    | refine vg_f ?_ ?_)
    all_goals exact .tmp1 cx rfl
  · have hp2 : ¬ (20 : Int) < ps'.length := by omega
    repeat' (first
    | exact True.intro
    | refine VW.seq ?_
    | refine VW.block ?_
    | ((first | refine VW.skip ?_ | refine VW.exit ?_ | refine VW.reg ?_ | refine VW.regD ?_ | refine VW.ret ?_ | show goA _ _ _ _ _ _ _ _ _ _ | show goB _ _ _ _ _ _ _ _ _ | show goAD _ _ _ _ _ _ _ _ _ _ _ _ _ _ | show goBD _ _ _ _ _ _ _ _ _ _ _ | refine VC.p2 (h35 _) rfl rfl rfl rfl ?_ | refine VC.p1 (h16a _) rfl rfl ?_ | refine VC.p1 (h16b _) rfl rfl ?_); refine sx ?_)
    | refine VW.condT cx ?_
    | refine VW.condF cx ?_
    | refine VW.cond ex ?_ ?_
    | refine imp_nt ?_
    | refine imp_nf ?_
    | refine imp_dt (fun _ => ?_)
    | refine imp_df (fun _ => ?_)
    | (refine fun (_ : _ = true) => ?_)
    | (refine fun (_ : _ = false) => ?_)
    | refine vg_t ?_ ?_
    | refine vg_f ?_ ?_)
    all_goals exact .tmp1 cx rfl
theorem w9y (x y : Int) (L less : List Sp) (g : Sp) (k : Nat) (hk : k < L.length) (hL : L.length < 1100) (hg : L[k]? = some g) (hless : L.take k ++ L.drop (k + 1) = less) (n : Int) (hn : 0 ≤ n ∧ n < 256) (hnk : k = n.toNat % L.length) (ps ps' : List Int) (hps : (20 < ps.length ∧ ps' = ps.take 20) ∨ (¬ 20 < ps.length ∧ ps' = ps))
    (h35 : ∀ b, V P 35 [asp x y, .sl (ints ps')] mt b (.sl (sps L)) mt) (h25 : ∀ b, V P 25 [.sl (sps less), asp x y] mt b (.sl (sps [g])) mt) (h26a : ∀ b, V P 26 [.sl (sps L), asp x y] mt b (.bool true) mt) (h26b : ∀ b, V P 26 [.sl (sps less), asp x y] mt b (.bool false) mt) (b : Nat) :
    VW P c9 (PRet (Ends [.tmp 6] b (.bool true) mt)) (fun t => [asp x y, PV.sl (ints ps), .int .u8 n][t]?) mt b := by
  unfold c9
  have hl := ints_len (l := ps)
  have hlL := sps_len (l := L)
  have t20 : (20 : Int).toNat = 20 := rfl
  have hL0 : ¬ (L.length : Int) = 0 := by omega
  have hcv : IntKind.i64.wrap n = n := IntWalk.i64_in _ (by omega)
  have hrem : n.tmod (L.length : Int) = (k : Int) := by
    rw [Int.tmod_eq_emod_of_nonneg hn.1, hnk]
    have : n = (n.toNat : Int) := by omega
    rw [this]; simp
  have hnx : ∀ q, b ≤ b + q := fun q => by omega
  have hk0 : (0 : Int) ≤ k := by omega
  have hktn : (k : Int).toNat = k := Int.toNat_natCast k
  have hkw := i64_nat (n := k) (by omega)
  have hk1 : ((k + 1 : Nat) : Int).toNat = k + 1 := Int.toNat_natCast _
  have hk2 : (0 : Int) ≤ ((k + 1 : Nat) : Int) := by omega
  have hg' : (sps L)[k]? = some [.int .i64 g.1, .int .i64 g.2] := by rw [sps_get, hg]; rfl
  have two : ∀ (L : List Sp), allLen 2 (sps L) := fun L y hy => by obtain ⟨s, _, rfl⟩ := List.mem_map.1 hy; rfl
  have htL : (sps L).take L.length = sps L := by rw [← sps_len]; exact List.take_length
  have hone : (∀ x : List PV, x ∈ sps L → x.length = 2) = True := eq_true (two L)
  have hA1 : allLen 2 ((sps L).take k) := fun y hy => two L y (List.mem_of_mem_take hy)
  have hB1 : allLen 2 ((sps L).drop (k + 1)) := fun y hy => two L y (List.mem_of_mem_drop hy)
  have hAl : ((sps L).take k).length = k := by rw [List.length_take, sps_len]; omega
  have hBl : ((sps L).drop (k + 1)).length = L.length - (k + 1) := by rw [List.length_drop, sps_len]
  have b1 : k * 16 ≤ 140737488355328 := by omega
  have b2 : (k + (L.length - (k + 1))) * 16 ≤ 140737488355328 := by omega
  have hkle : k ≤ L.length := by omega
  have hk1le : k + 1 ≤ L.length := by omega
  have hjoin : (sps L).take k ++ (sps L).drop (k + 1) = sps less := by rw [← hless]; simp [sps]
  have hlen : k + (L.length - (k + 1)) = (sps less).length := by rw [← hjoin, List.length_append, hAl, hBl]
  have hpb : ∀ (id : Nat) (mR : Mem), mR id = some (.row 2 (sps less) 26 true) → purA true mR (.osl id (k + (L.length - (k + 1)))) = some (.sl (sps less)) := fun id mR h => by
    simp only [purA, pur, h]
    rw [if_pos ⟨by omega, fun _ => trivial⟩, List.take_of_length_le (by omega)]
  have hg2 : sps [g] = [[.int .i64 g.1, .int .i64 g.2]] := rfl
  rw [hg2] at h25
  clear hnk hg hless hlen hg2
  rcases hps with ⟨hp1, rfl⟩ | ⟨hp1, rfl⟩
  · have hp2 : (20 : Int) < ps.length := by omega
    have hp3 : 20 ≤ ps.length := by omega
    have htk : (ints ps).take 20 = ints (ps.take 20) := by simp [ints]
    repeat' (first
    | exact True.intro
    | refine VW.seq ?_
    | refine VW.block ?_
    | ((first | refine VW.skip ?_ | refine VW.exit ?_ | refine VW.reg ?_ | refine VW.regD ?_ | refine VW.ret ?_ | show goA _ _ _ _ _ _ _ _ _ _ | show goB _ _ _ _ _ _ _ _ _ | show goAD _ _ _ _ _ _ _ _ _ _ _ _ _ _ | show goBD _ _ _ _ _ _ _ _ _ _ _ | refine VC.p2 (h35 _) rfl rfl rfl rfl ?_ | refine VC.p2 (h26a _) rfl rfl rfl rfl ?_); refine sx ?_)
    | refine VW.condT cx ?_
    | refine VW.condF cx ?_
    | refine VW.cond ex ?_ ?_
    | refine imp_nt ?_
    | refine imp_nf ?_
    | refine imp_dt (fun _ => ?_)
    | refine imp_df (fun _ => ?_)
    | (refine fun (_ : _ = true) => ?_)
    | (refine fun (_ : _ = false) => ?_)
    | refine vg_t ?_ ?_
    | refine vg_f ?_ ?_)
    refine VC.fz (id := b + 240) (k := 2) (xs := sps less) (T := 26) (fz := false) rfl cx cx (.pure [.sl (sps less), asp x y] _ ⟨.inr (hpb _ _ (by rw [upd_same])), .inl ⟨rfl, rfl⟩, trivial⟩ (h25 _) ?_)
    clear h25
    refine sx ?_
    repeat' (first
    | exact True.intro
    | refine VW.seq ?_
    | refine VW.block ?_
    | ((first | refine VW.skip ?_ | refine VW.exit ?_ | refine VW.reg ?_ | refine VW.regD ?_ | refine VW.ret ?_ | show goA _ _ _ _ _ _ _ _ _ _ | show goB _ _ _ _ _ _ _ _ _ | show goAD _ _ _ _ _ _ _ _ _ _ _ _ _ _ | show goBD _ _ _ _ _ _ _ _ _ _ _ | refine VC.p2 (h26a _) rfl rfl rfl rfl ?_); refine sx ?_)
    | refine VW.condT cx ?_
    | refine VW.condF cx ?_
    | refine VW.cond ex ?_ ?_
    | refine imp_nt ?_
    | refine imp_nf ?_
    | refine imp_dt (fun _ => ?_)
    | refine imp_df (fun _ => ?_)
    | (refine fun (_ : _ = true) => ?_)
    | (refine fun (_ : _ = false) => ?_)
    | refine vg_t ?_ ?_
    | refine vg_f ?_ ?_)
    refine .pure [.sl (sps less), asp x y] _ ⟨.inr (hpb _ _ cx), .inl ⟨rfl, rfl⟩, trivial⟩ (h26b _) ?_
    refine sx ?_
    repeat' (first
    | exact True.intro
    | refine VW.seq ?_
    | refine VW.block ?_
    | ((first | refine VW.skip ?_ | refine VW.exit ?_ | refine VW.reg ?_ | refine VW.regD ?_ | refine VW.ret ?_ | show goA _ _ _ _ _ _ _ _ _ _ | show goB _ _ _ _ _ _ _ _ _ | show goAD _ _ _ _ _ _ _ _ _ _ _ _ _ _ | show goBD _ _ _ _ _ _ _ _ _ _ _); refine sx ?_)
    | refine VW.condT cx ?_
    | refine VW.condF cx ?_
    | refine VW.cond ex ?_ ?_
    | refine imp_nt ?_
    | refine imp_nf ?_
    | refine imp_dt (fun _ => ?_)
    | refine imp_df (fun _ => ?_)
    | (refine fun (_ : _ = true) => ?_)
    | (refine fun (_ : _ = false) => ?_)
    | refine vg_t ?_ ?_
    | refine vg_f ?_ ?_)
    all_goals exact .tmp1 cx rfl
  · have hp2 : ¬ (20 : Int) < ps'.length := by omega
    repeat' (first
    | exact True.intro
    | refine VW.seq ?_
    | refine VW.block ?_
    | ((first | refine VW.skip ?_ | refine VW.exit ?_ | refine VW.reg ?_ | refine VW.regD ?_ | refine VW.ret ?_ | show goA _ _ _ _ _ _ _ _ _ _ | show goB _ _ _ _ _ _ _ _ _ | show goAD _ _ _ _ _ _ _ _ _ _ _ _ _ _ | show goBD _ _ _ _ _ _ _ _ _ _ _ | refine VC.p2 (h35 _) rfl rfl rfl rfl ?_ | refine VC.p2 (h26a _) rfl rfl rfl rfl ?_); refine sx ?_)
    | refine VW.condT cx ?_
    | refine VW.condF cx ?_
    | refine VW.cond ex ?_ ?_
    | refine imp_nt ?_
    | refine imp_nf ?_
    | refine imp_dt (fun _ => ?_)
    | refine imp_df (fun _ => ?_)
    | (refine fun (_ : _ = true) => ?_)
    | (refine fun (_ : _ = false) => ?_)
    | refine vg_t ?_ ?_
    | refine vg_f ?_ ?_)
    refine VC.fz (id := b + 216) (k := 2) (xs := sps less) (T := 26) (fz := false) rfl cx cx (.pure [.sl (sps less), asp x y] _ ⟨.inr (hpb _ _ (by rw [upd_same])), .inl ⟨rfl, rfl⟩, trivial⟩ (h25 _) ?_)
    clear h25
    refine sx ?_
    repeat' (first
    | exact True.intro
    | refine VW.seq ?_
    | refine VW.block ?_
    | ((first | refine VW.skip ?_ | refine VW.exit ?_ | refine VW.reg ?_ | refine VW.regD ?_ | refine VW.ret ?_ | show goA _ _ _ _ _ _ _ _ _ _ | show goB _ _ _ _ _ _ _ _ _ | show goAD _ _ _ _ _ _ _ _ _ _ _ _ _ _ | show goBD _ _ _ _ _ _ _ _ _ _ _ | refine VC.p2 (h26a _) rfl rfl rfl rfl ?_); refine sx ?_)
    | refine VW.condT cx ?_
    | refine VW.condF cx ?_
    | refine VW.cond ex ?_ ?_
    | refine imp_nt ?_
    | refine imp_nf ?_
    | refine imp_dt (fun _ => ?_)
    | refine imp_df (fun _ => ?_)
    | (refine fun (_ : _ = true) => ?_)
    | (refine fun (_ : _ = false) => ?_)
    | refine vg_t ?_ ?_
    | refine vg_f ?_ ?_)
    refine .pure [.sl (sps less), asp x y] _ ⟨.inr (hpb _ _ cx), .inl ⟨rfl, rfl⟩, trivial⟩ (h26b _) ?_
    refine sx ?_
    repeat' (first
    | exact True.intro
    | refine VW.seq ?_
    | refine VW.block ?_
    | ((first | refine VW.skip ?_ | refine VW.exit ?_ | refine VW.reg ?_ | refine VW.regD ?_ | refine VW.ret ?_ | show goA _ _ _ _ _ _ _ _ _ _ | show goB _ _ _ _ _ _ _ _ _ | show goAD _ _ _ _ _ _ _ _ _ _ _ _ _ _ | show goBD _ _ _ _ _ _ _ _ _ _ _); refine sx ?_)
    | refine VW.condT cx ?_
    | refine VW.condF cx ?_
    | refine VW.cond ex ?_ ?_
    | refine imp_nt ?_
    | refine imp_nf ?_
    | refine imp_dt (fun _ => ?_)
    | refine imp_df (fun _ => ?_)
    | (refine fun (_ : _ = true) => ?_)
    | (refine fun (_ : _ = false) => ?_)
    | refine vg_t ?_ ?_
    | refine vg_f ?_ ?_)
    all_goals exact .tmp1 cx rfl
end
end Go.Vx
/- TopCovers. -/
set_option linter.unusedSimpArgs false
set_option linter.unusedVariables false
set_option maxRecDepth 4000
set_option maxHeartbeats 4000000
namespace Go.Vx
open Go Go.Proofs

theorem v9 (x y : Int) (ps : List Int) (n : Int) (hn : 0 ≤ n ∧ n < 256) (b : Nat) : V Try.prog 9 [asp x y, .sl (ints ps), .int .u8 n] mt b (.bool true) mt := by
  obtain ⟨ps', hps, hl⟩ : ∃ ps', ((20 < ps.length ∧ ps' = ps.take 20) ∨ (¬ 20 < ps.length ∧ ps' = ps)) ∧ ps'.length ≤ 20 := by
    by_cases h : 20 < ps.length
    · exact ⟨_, .inl ⟨h, rfl⟩, by simp; omega⟩
    · exact ⟨_, .inr ⟨h, rfl⟩, by omega⟩
  have hL := cutF_len (x := x) (y := y) (ps := ps')
  have h35 := v35 x y ps' (by omega)
  cases hr : rightB x y
  · have hc : cutF x y ps' = [] := by simp [cutF, hr]
    rw [hc] at h35
    exact V.code mixed k9 (by simp) (w9n v16 x y hr n ps ps' hps h35 b)
  · have hxy : x < y := by have := hr; simp [rightB] at this; omega
    have hP := cutE_pieces (ps := ps') hxy
    have hc : cutF x y ps' = pcs x (cutE x y ps') := by simp [cutF, hr]
    rw [hc] at h35 hL
    generalize cutE x y ps' = C at *
    have hpl := pcs_len x C
    have hC0 : 0 < C.length := List.length_pos_iff.2 fun h => by have := hP.y; rw [h] at this; cases this
    obtain ⟨k, hk⟩ : ∃ k, k = n.toNat % (pcs x C).length := ⟨_, rfl⟩
    have hkl : k < (pcs x C).length := by rw [hk]; exact Nat.mod_lt _ (by omega)
    have hkC : k < C.length := by omega
    have hsp : C = C.take k ++ C[k] :: C.drop (k + 1) := by
      rw [List.getElem_cons_drop hkC, List.take_append_drop]
    have hAl : (C.take k).length = k := by rw [List.length_take]; omega
    generalize hA : C.take k = A at *
    generalize hB : C.drop (k + 1) = B at *
    generalize he : C[k] = e at *
    subst hsp
    have hall : pcs x (A ++ e :: B) = pcs x A ++ (lastI x A, e) :: pcs e B := pcs_split x A e B
    have hpA := pcs_len x A
    have hg : (pcs x (A ++ e :: B))[k]? = some (lastI x A, e) := by
      rw [hall, List.getElem?_append_right (by omega), hpA, hAl]; simp
    have hless : (pcs x (A ++ e :: B)).take k ++ (pcs x (A ++ e :: B)).drop (k + 1) = pcs x A ++ pcs e B := by
      have h1 : (pcs x A ++ (lastI x A, e) :: pcs e B).take k = pcs x A := by
        rw [List.take_append_of_le_length (by omega), List.take_of_length_le (by omega)]
      have h2 : (pcs x A ++ (lastI x A, e) :: pcs e B).drop (k + 1) = pcs e B := by
        have : k + 1 = (pcs x A).length + 1 := by omega
        rw [this, List.drop_append]
        simp
      rw [hall, h1, h2]
    have hBl := pcs_len e B
    have hgl := gaps_less hP hr
    have h25 := v25 (pcs x A ++ pcs e B) (by rw [List.length_append]; simp only [List.length_append, List.length_cons] at hpl; omega) x y
    rw [hgl] at h25
    have h26b := v26 (pcs x A ++ pcs e B) (by rw [List.length_append]; simp only [List.length_append, List.length_cons] at hpl; omega) x y
    rw [hgl, hr] at h26b
    have h26a := v26 (pcs x (A ++ e :: B)) (by omega) x y
    rw [gaps_all hP hr, hr] at h26a
    exact V.code mixed k9 (by simp) (w9y x y _ _ (lastI x A, e) k hkl (by omega) hg hless n hn hk ps ps' hps h35 h25 (fun b => h26a b) (fun b => h26b b) b)
theorem fits_u8 {q : PV} {N : Nat} (h : Fits N [.int .u8] false q) : ∃ x, q = .int .u8 x ∧ (0 ≤ x ∧ x < 256) := by
  obtain ⟨x, rfl, hw⟩ := fits_int h
  refine ⟨x, rfl, ?_⟩
  have hw' : (decide (IntKind.u8.min ≤ x) && decide (x ≤ IntKind.u8.max)) = true := hw
  simp only [Bool.and_eq_true, decide_eq_true_eq] at hw'
  have h1 : IntKind.u8.min = 0 := rfl
  have h2 : IntKind.u8.max = 255 := rfl
  omega
theorem ct_u8 : cellsTy Try.prog 5 5 = some [.int .u8] := by kernel_rfl
theorem ag_u8 : tyAgg Try.prog 5 = some false := by kernel_rfl
end Go.Vx
