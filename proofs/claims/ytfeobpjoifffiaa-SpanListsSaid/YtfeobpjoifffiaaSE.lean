/- What the laws' arguments are. -/
import Derived.Test.YtfeobpjoifffiaaSD
import Derived.Test.YtfeobpjoifffiaaRows
import Derived.Test.YtfeobpjoifffiaaVz
set_option linter.unusedSimpArgs false
set_option linter.unusedVariables false
namespace Go.Vx
open Go Go.Proofs
theorem fits_sp {q : PV} (h : Fits [.int .i64, .int .i64] true q) : ∃ x y, q = asp x y := by
  obtain ⟨qs, rfl, hl, hq⟩ := h
  match qs, hl with
  | [p, r], _ =>
    have h1 := hq 0 _ p rfl rfl
    have h2 := hq 1 _ r rfl rfl
    cases h1; cases h2
    exact ⟨_, _, rfl⟩
theorem fits_int {q : PV} {k : IntKind} (h : Fits [.int k] false q) : ∃ x, q = .int k x ∧ (Lit.int k x).wf = true := by
  obtain ⟨ct, h1, h2⟩ := h
  injection h1 with h1; subst h1
  cases h2
  exact ⟨_, rfl, ‹_›⟩
theorem fits_sps {q : PV} (h : Fits [.sl [.int .i64, .int .i64]] false q) : ∃ l, q = .sl (sps l) ∧ l.length ≤ maxLen := by
  obtain ⟨ct, h1, h2⟩ := h
  injection h1 with h1; subst h1
  cases h2 with
  | sl _ xs hl h1 h =>
    have key : ∀ xs : List (List PV), (∀ x ∈ xs, x.length = 2) → (∀ x ∈ xs, ∀ (j : Nat) c p, [CT.int .i64, CT.int .i64][j]? = some c → x[j]? = some p → HasCT c p) → ∃ l, xs = sps l := by
      intro xs
      induction xs with
      | nil => intro _ _; exact ⟨[], rfl⟩
      | cons x xs ih =>
        intro g1 g2
        obtain ⟨l, rfl⟩ := ih (fun y hy => g1 y (List.mem_cons_of_mem _ hy)) (fun y hy => g2 y (List.mem_cons_of_mem _ hy))
        have hx := g1 x List.mem_cons_self
        match x, hx with
        | [p, r], _ =>
          have h1 := g2 [p, r] List.mem_cons_self 0 _ p rfl rfl
          have h2 := g2 [p, r] List.mem_cons_self 1 _ r rfl rfl
          cases h1; cases h2
          exact ⟨(_, _) :: l, rfl⟩
    obtain ⟨l, rfl⟩ := key xs h1 h
    exact ⟨l, rfl, by rwa [sps_len] at hl⟩
theorem ct_sp : cellsTy Try.prog 5 26 = some [.int .i64, .int .i64] := by kernel_rfl
theorem ct_int : cellsTy Try.prog 5 3 = some [.int .i64] := by kernel_rfl
theorem ct_sps : cellsTy Try.prog 5 22 = some [.sl [.int .i64, .int .i64]] := by kernel_rfl
theorem ag_sp : tyAgg Try.prog 26 = some true := by kernel_rfl
theorem ag_int : tyAgg Try.prog 3 = some false := by kernel_rfl
theorem ag_sps : tyAgg Try.prog 22 = some false := by kernel_rfl
theorem reps1 {w : World} {ok : Nat → Prop} {β : Ids} {p : PV} {v : Value} (h : Rep w ok β p v) : Reps w ok β [p] [v] := ⟨rfl, fun j q u h1 h2 => by
  match j with
  | 0 => simp at h1 h2; subst h1; subst h2; exact h
  | j + 1 => simp at h1⟩
theorem repsC {w : World} {ok : Nat → Prop} {β : Ids} {p : PV} {v : Value} {ps : List PV} {vs : List Value} (h : Rep w ok β p v) (hs : Reps w ok β ps vs) : Reps w ok β (p :: ps) (v :: vs) := ⟨by simp [hs.1], fun j q u h1 h2 => by
  match j with
  | 0 => simp at h1 h2; subst h1; subst h2; exact h
  | j + 1 => simp at h1 h2; exact hs.2 j q u h1 h2⟩
end Go.Vx
namespace Go.Proofs.Ytfeobpjoifffiaa
open Go.ChangeShapes Go.WideShapes Go.ChangeAt Go.RowKit Go.Vx

theorem own : ownKnob Try.prog.godebug = none := by kernel_rfl
theorem laidOut : laidOutB Try.prog = true := by kernel_rfl

end Go.Proofs.Ytfeobpjoifffiaa
