/- The row: SpanTells. -/
import Derived.Test.YtfeobpjoifffiaaSD
import Derived.Test.YtfeobpjoifffiaaRows
import Derived.Test.YtfeobpjoifffiaaVz
set_option linter.unusedSimpArgs false
set_option linter.unusedVariables false
namespace Go.Vx
open Go Go.Proofs
theorem fits_sp {q : PV} (h : Fits [.int .i64, .int .i64] true q) : ∃ x y, q = asp x y := by
  obtain ⟨qs, rfl, hl, hq⟩ := h
  match qs, hl with
  | [p, r], _ =>
    have h1 := hq 0 _ p rfl rfl
    have h2 := hq 1 _ r rfl rfl
    cases h1; cases h2
    exact ⟨_, _, rfl⟩
theorem fits_int {q : PV} {k : IntKind} (h : Fits [.int k] false q) : ∃ x, q = .int k x ∧ (Lit.int k x).wf = true := by
  obtain ⟨ct, h1, h2⟩ := h
  injection h1 with h1; subst h1
  cases h2
  exact ⟨_, rfl, ‹_›⟩
theorem fits_sps {q : PV} (h : Fits [.sl [.int .i64, .int .i64]] false q) : ∃ l, q = .sl (sps l) ∧ l.length ≤ maxLen := by
  obtain ⟨ct, h1, h2⟩ := h
  injection h1 with h1; subst h1
  cases h2 with
  | sl _ xs hl h1 h =>
    have key : ∀ xs : List (List PV), (∀ x ∈ xs, x.length = 2) → (∀ x ∈ xs, ∀ (j : Nat) c p, [CT.int .i64, CT.int .i64][j]? = some c → x[j]? = some p → HasCT c p) → ∃ l, xs = sps l := by
      intro xs
      induction xs with
      | nil => intro _ _; exact ⟨[], rfl⟩
      | cons x xs ih =>
        intro g1 g2
        obtain ⟨l, rfl⟩ := ih (fun y hy => g1 y (List.mem_cons_of_mem _ hy)) (fun y hy => g2 y (List.mem_cons_of_mem _ hy))
        have hx := g1 x List.mem_cons_self
        match x, hx with
        | [p, r], _ =>
          have h1 := g2 [p, r] List.mem_cons_self 0 _ p rfl rfl
          have h2 := g2 [p, r] List.mem_cons_self 1 _ r rfl rfl
          cases h1; cases h2
          exact ⟨(_, _) :: l, rfl⟩
    obtain ⟨l, rfl⟩ := key xs h1 h
    exact ⟨l, rfl, by rwa [sps_len] at hl⟩
theorem ct_sp : cellsTy Try.prog 5 26 = some [.int .i64, .int .i64] := by kernel_rfl
theorem ct_int : cellsTy Try.prog 5 3 = some [.int .i64] := by kernel_rfl
theorem ct_sps : cellsTy Try.prog 5 22 = some [.sl [.int .i64, .int .i64]] := by kernel_rfl
theorem ag_sp : tyAgg Try.prog 26 = some true := by kernel_rfl
theorem ag_int : tyAgg Try.prog 3 = some false := by kernel_rfl
theorem ag_sps : tyAgg Try.prog 22 = some false := by kernel_rfl
theorem reps1 {w : World} {ok : Nat → Prop} {β : Ids} {p : PV} {v : Value} (h : Rep w ok β p v) : Reps w ok β [p] [v] := ⟨rfl, fun j q u h1 h2 => by
  match j with
  | 0 => simp at h1 h2; subst h1; subst h2; exact h
  | j + 1 => simp at h1⟩
theorem repsC {w : World} {ok : Nat → Prop} {β : Ids} {p : PV} {v : Value} {ps : List PV} {vs : List Value} (h : Rep w ok β p v) (hs : Reps w ok β ps vs) : Reps w ok β (p :: ps) (v :: vs) := ⟨by simp [hs.1], fun j q u h1 h2 => by
  match j with
  | 0 => simp at h1 h2; subst h1; subst h2; exact h
  | j + 1 => simp at h1 h2; exact hs.2 j q u h1 h2⟩
end Go.Vx
namespace Go.Proofs.Ytfeobpjoifffiaa
open Go.ChangeShapes Go.WideShapes Go.ChangeAt Go.RowKit Go.Vx

theorem own : ownKnob Try.prog.godebug = none := by kernel_rfl
theorem laidOut : laidOutB Try.prog = true := by kernel_rfl

set_option maxRecDepth 100000 in
theorem spanTells_lifted (os : Os) (started : os.Started) (H : Type) (enc : TypeId × Value → H) :
    ReturnsInHanded {} Try.checked os 4 .any (Rows.spanTellsSpec.pre6 enc Try.prog Try.f4 Rows.spanTellsRow.domain false) (Rows.spanTellsSpec.post enc Try.prog Try.f4 false true false false) := by
  refine returnsInHanded_of_change (C := Try.checked) own started (by kernel_rfl) Try.func4
    (ChangeSpec.witness6 (enc := enc) (C := Try.checked) false ⟨#[], #[.agg #[.int .i64 0, .int .i64 0], .agg #[.int .i64 0, .int .i64 0], .int .i64 0], []⟩ 8 (by kernel_rfl) (by kernel_rfl) (by kernel_rfl) (by kernel_rfl)) ?_
  intro W base args ds gs before hval0 hW hcnd _
  have hval : ∀ (j : Nat) t v, Try.f4.params[j]? = some t → args[j]? = some v → Value.okWide Try.prog W .any base t v := hval0
  have hW' := hW
  obtain ⟨p, q, hA0, hV, rfl, hfz, hnd⟩ := hW
  have hA : DataW.TrodAll enc Try.prog W 0 (fun _ => true) true Try.f4.params.toList args.toList ds p := hA0
  rw [Try.params4] at hA hval
  obtain ⟨v0, vs0, d0, ds0, p0, q0, hargs, rfl, rfl, h0, r0⟩ := trodAll_cons hA
  obtain ⟨v1, vs1, d1, ds1, p1, q1, rfl, rfl, rfl, h1, r1⟩ := trodAll_cons r0
  obtain ⟨v2, vs2, d2, ds2, p2, q2, rfl, rfl, rfl, h2, r2⟩ := trodAll_cons r1
  obtain ⟨rfl, rfl, rfl⟩ := trodAll_nil r2
  obtain rfl : args = #[v0, v1, v2] := by cases args; simp_all
  obtain ⟨rfl, rfl⟩ := trodVars_none hV
  have lt0 : ∀ x ∈ p0, x.block < W.heap.size := by obtain ⟨m, hm⟩ := h0; exact DataW.trod_lt m _ _ _ hm
  have lt1 : ∀ x ∈ p1, x.block < W.heap.size := by obtain ⟨m, hm⟩ := h1; exact DataW.trod_lt m _ _ _ hm
  have lt2 : ∀ x ∈ p2, x.block < W.heap.size := by obtain ⟨m, hm⟩ := h2; exact DataW.trod_lt m _ _ _ hm
  obtain ⟨a0, f0, g0⟩ := arg_rep 5 ct_sp ag_sp (hval 0 26 v0 rfl rfl) h0
  obtain ⟨a1, f1, g1⟩ := arg_rep 5 ct_sp ag_sp (hval 1 26 v1 rfl rfl) h1
  obtain ⟨a2, f2, g2⟩ := arg_rep 5 ct_int ag_int (hval 2 3 v2 rfl rfl) h2
  obtain ⟨x0, y0, rfl⟩ := fits_sp f0
  obtain ⟨x1, y1, rfl⟩ := fits_sp f1
  obtain ⟨x2, rfl, _⟩ := fits_int f2
  clear hA0 hval0
  refine (law_calls (v4 x0 y0 x1 y1 x2 0) (repsC g0 (repsC g1 (reps1 g2)))).mono fun e W' ⟨he, bel⟩ => ?_
  subst he
  exact ⟨_, rfl, _, _, _, [], _, [], hW', trodAll_mk1 (shut_bool (by kernel_rfl) _), trodAll_mk3 (Below.trod laidOut (by kernel_rfl) (of_decide_eq_true (by kernel_rfl)) h0 bel lt0) (Below.trod laidOut (by kernel_rfl) (of_decide_eq_true (by kernel_rfl)) h1 bel lt1) (Below.trod laidOut (by kernel_rfl) (of_decide_eq_true (by kernel_rfl)) h2 bel lt2), rfl, bel.frame _, fun h => by cases h⟩

theorem spanTells_holds : Rows.SpanTellsSaid :=
  OpenClaim.holds_of_wide 4 Try.f4 rfl rfl rfl rfl rfl rfl rfl ⟨rfl, rfl, rfl, rfl, rfl⟩ rfl rfl rfl rfl rfl (by kernel_rfl) Try.func4 (by kernel_rfl)
    (of_decide_eq_true (by kernel_rfl)) (by unfold Func.isWrapper; first | (rw [if_pos (by decide +kernel)]; kernel_rfl) | (rw [if_neg (by decide +kernel)]; exact ⟨rfl, rfl⟩))
    (fun os started H enc _ => spanTells_lifted os started H enc)
end Go.Proofs.Ytfeobpjoifffiaa
