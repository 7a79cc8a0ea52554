/- Arguments: two bytes. -/
import Derived.Test.YtfeobpjoifffiaaSE
import Derived.Test.YtfeobpjoifffiaaSF
set_option linter.unusedSimpArgs false
set_option linter.unusedVariables false
namespace Go.Vx
open Go Go.Proofs
theorem fits_u2 {q : PV} (h : Fits [.int .u8, .int .u8] true q) : ∃ x y, q = .agg [.int .u8 x, .int .u8 y] ∧ (0 ≤ x ∧ x ≤ 255) ∧ (0 ≤ y ∧ y ≤ 255) := by
  obtain ⟨qs, rfl, hl, hq⟩ := h
  match qs, hl with
  | [p, r], _ =>
    have h1 := hq 0 _ p rfl rfl
    have h2 := hq 1 _ r rfl rfl
    cases h1 with
    | int _ n hn =>
      cases h2 with
      | int _ m hm =>
        refine ⟨n, m, rfl, ?_, ?_⟩
        · simp [Lit.wf, IntKind.min, IntKind.max, IntKind.bits, IntKind.signed] at hn; omega
        · simp [Lit.wf, IntKind.min, IntKind.max, IntKind.bits, IntKind.signed] at hm; omega
theorem ct_u2 : cellsTy Try.prog 5 23 = some [.int .u8, .int .u8] := by kernel_rfl
theorem ag_u2 : tyAgg Try.prog 23 = some true := by kernel_rfl
end Go.Vx
