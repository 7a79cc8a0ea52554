/- What the laws' arguments are. -/
import Derived.Test.YtgkkffhoflgpoaaTI
import Derived.Test.YtgkkffhoflgpoaaRows
import Derived.Test.YtgkkffhoflgpoaaVz
set_option linter.unusedSimpArgs false
set_option linter.unusedVariables false
namespace Go.Vx
open Go Go.Proofs
theorem rows_of {α : Type} {N : Nat} {cs : List CT} {f : α → List PV} (hf : ∀ x : List PV, x.length = cs.length → (∀ (j : Nat) c p, cs[j]? = some c → x[j]? = some p → HasCT N c p) → ∃ a, x = f a) :
    ∀ xs : List (List PV), (∀ x ∈ xs, x.length = cs.length) → (∀ x ∈ xs, ∀ (j : Nat) c p, cs[j]? = some c → x[j]? = some p → HasCT N c p) → ∃ l : List α, xs = l.map f
  | [], _, _ => ⟨[], rfl⟩
  | x :: xs, g1, g2 => by
    obtain ⟨l, rfl⟩ := rows_of hf xs (fun y hy => g1 y (List.mem_cons_of_mem _ hy)) fun y hy => g2 y (List.mem_cons_of_mem _ hy)
    obtain ⟨a, rfl⟩ := hf x (g1 x List.mem_cons_self) (g2 x List.mem_cons_self)
    exact ⟨a :: l, rfl⟩
theorem fits_rows {α : Type} {N : Nat} {cs : List CT} {f : α → List PV} (hf : ∀ x : List PV, x.length = cs.length → (∀ (j : Nat) c p, cs[j]? = some c → x[j]? = some p → HasCT N c p) → ∃ a, x = f a) {q : PV} (h : Fits N [.sl cs] false q) : ∃ l : List α, q = .sl (l.map f) ∧ l.length ≤ N := by
  obtain ⟨ct, h1, h2⟩ := h
  injection h1 with h1; subst h1
  cases h2 with
  | sl _ xs hl h1 h =>
    obtain ⟨l, rfl⟩ := rows_of hf xs h1 h
    exact ⟨l, rfl, by simpa using hl⟩
theorem fits_dds {q : PV} {N : Nat} (h : Fits N [.sl [.int .i64, .int .i64, .str, .int .i64]] false q) : ∃ l, q = .sl (dds l) ∧ l.length ≤ N :=
  fits_rows (f := fun d : Dd => [iv d.k, iv d.i, .str d.key, iv d.n]) (fun x hl hx => by
    match x, hl with
    | [p, q, r, s], _ =>
      have h1 := hx 0 _ p rfl rfl
      have h2 := hx 1 _ q rfl rfl
      have h3 := hx 2 _ r rfl rfl
      have h4 := hx 3 _ s rfl rfl
      cases h1; cases h2; cases h3; cases h4
      exact ⟨⟨_, _, _, _⟩, rfl⟩) h
def strs (l : List Str) : List (List PV) := l.map fun s => [.str s]
theorem fits_strs {q : PV} {N : Nat} (h : Fits N [.sl [.str]] false q) : ∃ l, q = .sl (strs l) ∧ l.length ≤ N :=
  fits_rows (f := fun s : Str => [.str s]) (fun x hl hx => by
    match x, hl with
    | [p], _ =>
      have h1 := hx 0 _ p rfl rfl
      cases h1
      exact ⟨_, rfl⟩) h
/-- Strings, no longer than may be. -/
theorem fits_strsB {q : PV} {N : Nat} (h : Fits N [.sl [.str]] false q) : ∃ l, q = .sl (strs l) ∧ (∀ s ∈ l, s.length ≤ N) ∧ l.length ≤ N := by
  obtain ⟨l, rfl, h1⟩ := fits_strs h
  refine ⟨l, rfl, fun s hs => ?_, h1⟩
  obtain ⟨ct, h1, h2⟩ := h
  injection h1 with h1; subst h1
  cases h2 with
  | sl _ xs hl h1 h =>
    have := h [.str s] (List.mem_map.2 ⟨s, hs, rfl⟩) 0 .str (.str s) rfl rfl
    cases this; assumption
theorem fits_ddsB {q : PV} {N : Nat} (h : Fits N [.sl [.int .i64, .int .i64, .str, .int .i64]] false q) : ∃ l, q = .sl (dds l) ∧ (∀ d ∈ l, d.key.length ≤ N) ∧ l.length ≤ N := by
  obtain ⟨l, rfl, h1⟩ := fits_dds h
  refine ⟨l, rfl, fun d hs => ?_, h1⟩
  obtain ⟨ct, h1, h2⟩ := h
  injection h1 with h1; subst h1
  cases h2 with
  | sl _ xs hl h1 h =>
    have := h _ (List.mem_map.2 ⟨d, hs, rfl⟩) 2 .str (.str d.key) rfl rfl
    cases this; assumption
theorem fits_str {q : PV} {N : Nat} (h : Fits N [.str] false q) : ∃ s, q = .str s ∧ s.length ≤ N := by
  obtain ⟨ct, h1, h2⟩ := h
  injection h1 with h1; subst h1
  cases h2; exact ⟨_, rfl, ‹_›⟩
theorem fits_bool {q : PV} {N : Nat} (h : Fits N [.bool] false q) : ∃ s, q = .bool s ∧ True := by
  obtain ⟨ct, h1, h2⟩ := h
  injection h1 with h1; subst h1
  cases h2; exact ⟨_, rfl, trivial⟩
abbrev by8 (n : Int) : PV := .int .u8 n
def bys (l : List Int) : List (List PV) := l.map fun n => [by8 n]
theorem fits_bys {q : PV} {N : Nat} (h : Fits N [.sl [.int .u8]] false q) : ∃ l, q = .sl (bys l) ∧ (∀ n ∈ l, 0 ≤ n ∧ n < 256) := by
  obtain ⟨l, rfl, h1⟩ := fits_rows (f := fun n : Int => [by8 n]) (fun x hl hx => by
    match x, hl with
    | [p], _ =>
      have h1 := hx 0 _ p rfl rfl
      cases h1
      exact ⟨_, rfl⟩) h
  refine ⟨l, rfl, fun s hs => ?_⟩
  obtain ⟨ct, h1, h2⟩ := h
  injection h1 with h1; subst h1
  cases h2 with
  | sl _ xs hl h1 h =>
    have := h _ (List.mem_map.2 ⟨s, hs, rfl⟩) 0 (.int .u8) (by8 s) rfl rfl
    cases this with
    | int k n hw =>
      have hw' : (decide (IntKind.u8.min ≤ s) && decide (s ≤ IntKind.u8.max)) = true := hw
      simp only [Bool.and_eq_true, decide_eq_true_eq] at hw'
      have h1 : IntKind.u8.min = 0 := rfl
      have h2 : IntKind.u8.max = 255 := rfl
      omega
theorem ct_dds : cellsTy Try.prog 5 22 = some [.sl [.int .i64, .int .i64, .str, .int .i64]] := by kernel_rfl
theorem ct_strs : cellsTy Try.prog 5 23 = some [.sl [.str]] := by kernel_rfl
theorem ct_str : cellsTy Try.prog 5 9 = some [.str] := by kernel_rfl
theorem ct_bool : cellsTy Try.prog 5 4 = some [.bool] := by kernel_rfl
theorem ct_bys : cellsTy Try.prog 5 53 = some [.sl [.int .u8]] := by kernel_rfl
theorem ag_dds : tyAgg Try.prog 22 = some false := by kernel_rfl
theorem ag_strs : tyAgg Try.prog 23 = some false := by kernel_rfl
theorem ag_str : tyAgg Try.prog 9 = some false := by kernel_rfl
theorem ag_bool : tyAgg Try.prog 4 = some false := by kernel_rfl
theorem ag_bys : tyAgg Try.prog 53 = some false := by kernel_rfl
theorem reps1 {w : World} {ok : Nat → Prop} {β : Ids} {p : PV} {v : Value} (h : Rep w ok β p v) : Reps w ok β [p] [v] := ⟨rfl, fun j q u h1 h2 => by
  match j with
  | 0 => simp at h1 h2; subst h1; subst h2; exact h
  | j + 1 => simp at h1⟩
theorem repsC {w : World} {ok : Nat → Prop} {β : Ids} {p : PV} {v : Value} {ps : List PV} {vs : List Value} (h : Rep w ok β p v) (hs : Reps w ok β ps vs) : Reps w ok β (p :: ps) (v :: vs) := ⟨by simp [hs.1], fun j q u h1 h2 => by
  match j with
  | 0 => simp at h1 h2; subst h1; subst h2; exact h
  | j + 1 => simp at h1 h2; exact hs.2 j q u h1 h2⟩
theorem bulk_part {H : Type} {d : DataW H} {l : List (DataW H)} (h : d ∈ l) : Proofs.Ytgkkffhoflgpoaa.Rows.uptoBulk d ≤ Proofs.Ytgkkffhoflgpoaa.Rows.uptoBulkAll l := by
  induction l with
  | nil => cases h
  | cons x r ih =>
    simp only [Proofs.Ytgkkffhoflgpoaa.Rows.uptoBulkAll]
    cases List.mem_cons.1 h with
    | inl e => subst e; omega
    | inr e => have := ih e; omega
theorem bulk_one {H : Type} (d : DataW H) : 1 ≤ Proofs.Ytgkkffhoflgpoaa.Rows.uptoBulk d := by
  cases d with
  | lit l => cases l <;> simp [Proofs.Ytgkkffhoflgpoaa.Rows.uptoBulk]
  | _ => simp [Proofs.Ytgkkffhoflgpoaa.Rows.uptoBulk]
theorem bulk_len {H : Type} (l : List (DataW H)) : l.length ≤ Proofs.Ytgkkffhoflgpoaa.Rows.uptoBulkAll l := by
  induction l with
  | nil => simp
  | cons x r ih => have := bulk_one x; simp only [Proofs.Ytgkkffhoflgpoaa.Rows.uptoBulkAll, List.length_cons]; omega
/-- What is of small bulk holds nothing long. -/
theorem smallU {H : Type} : Small (H := H) (fun d => Proofs.Ytgkkffhoflgpoaa.Rows.uptoBulk d ≤ 1048576) 1048576 := by
  refine ⟨fun s _ h => ?_, fun xs ys h => ⟨fun _ => ?_, fun x hx => ?_⟩, fun xs h x hx => ?_⟩
  · simp only [Proofs.Ytgkkffhoflgpoaa.Rows.uptoBulk] at h; omega
  · simp only [Proofs.Ytgkkffhoflgpoaa.Rows.uptoBulk] at h; have := bulk_len xs; omega
  · simp only [Proofs.Ytgkkffhoflgpoaa.Rows.uptoBulk] at h; have := bulk_part hx; omega
  · simp only [Proofs.Ytgkkffhoflgpoaa.Rows.uptoBulk] at h; have := bulk_part hx; omega
theorem smallB {H : Type} {l : List (DataW H)} (h : Proofs.Ytgkkffhoflgpoaa.Rows.uptoSmall H l = true) : ∀ d ∈ l, Proofs.Ytgkkffhoflgpoaa.Rows.uptoBulk d ≤ 1048576 := fun d hd => by
  have h1 := of_decide_eq_true h
  have := bulk_part hd
  omega
end Go.Vx
namespace Go.Proofs.Ytgkkffhoflgpoaa
open Go.ChangeShapes Go.WideShapes Go.ChangeAt Go.RowKit Go.Vx

theorem own : ownKnob Try.prog.godebug = none := by kernel_rfl
theorem laidOut : laidOutB Try.prog = true := by kernel_rfl

end Go.Proofs.Ytgkkffhoflgpoaa
