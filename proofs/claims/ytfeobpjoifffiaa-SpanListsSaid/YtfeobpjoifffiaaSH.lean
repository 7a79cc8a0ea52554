/- SpanGaps, walked; lists of spans and their points. -/
import Derived.Test.YtfeobpjoifffiaaSF
set_option linter.unusedSimpArgs false
set_option linter.unusedVariables false
namespace Go.Vx
open Go Go.Proofs

/-- A point is one of these spans'. -/
def Cov (l : List Sp) (p : Int) : Prop := ∃ s ∈ l, s.1 ≤ p ∧ p < s.2
theorem cov_nil {p : Int} : ¬ Cov [] p := by rintro ⟨s, hs, _⟩; cases hs
theorem cov_cons {s : Sp} {l : List Sp} {p : Int} : Cov (s :: l) p ↔ (s.1 ≤ p ∧ p < s.2) ∨ Cov l p := by simp [Cov]
theorem cov_rev {l : List Sp} {p : Int} : Cov l.reverse p ↔ Cov l p := by simp [Cov]
theorem cov_app {l m : List Sp} {p : Int} : Cov (l ++ m) p ↔ Cov l p ∨ Cov m p := by simp [Cov, or_and_right, exists_or]

structure InvG (x y : Int) (C : Int → Prop) (st : Int × List Sp) : Prop where
  lo : x ≤ st.1
  hi : st.1 ≤ y
  gaps : ∀ p, Cov st.2 p ↔ x ≤ p ∧ p < st.1 ∧ ¬ C p
  free : ∀ p, st.1 ≤ p → p < y → ¬ C p
  can : CanonR st.2
  ends : ∀ g ∈ st.2, g.2 < st.1 ∧ -1000 ≤ g.1

theorem stepG_inv {x y : Int} (hxy : -1000 ≤ x ∧ x < y ∧ y ≤ 1000) {C : Int → Prop} {st : Int × List Sp} {s : Sp} (hs : rightS s = true) (h : InvG x y C st) (hat : st.1 = x ∨ st.1 < s.1) :
    InvG x y (fun p => C p ∨ (s.1 ≤ p ∧ p < s.2)) (stepG x y st s) ∧ ((stepG x y st s).1 = x ∨ (stepG x y st s).1 ≤ s.2 ∨ (stepG x y st s).1 = st.1) := by
  have hsr := rightS_iff.1 hs
  obtain ⟨h1, h2, h3, h4, h5, h6⟩ := h
  by_cases ho : overB s.1 s.2 x y = true
  · have ho' := ho
    simp [overB, rightB] at ho'
    simp only [stepG, ho, if_true]
    refine ⟨?_, .inr (.inl (by omega))⟩
    by_cases hg : st.1 < max s.1 x
    · simp only [if_pos hg]
      refine ⟨by simp only; omega, by simp only; omega, fun p => ?_, fun p hp1 hp2 => ?_, ⟨fun g hgm => ?_, ?_⟩, fun g hgm => ?_⟩
      · rw [cov_cons, h3]
        simp only
        constructor
        · rintro (⟨a, b⟩ | ⟨a, b, c⟩)
          · refine ⟨by omega, by omega, ?_⟩
            rintro (hc | hc)
            · exact h4 p (by omega) (by omega) hc
            · omega
          · exact ⟨a, by omega, fun hc => hc.elim c fun hc => by omega⟩
        · rintro ⟨a, b, c⟩
          by_cases hp : p < st.1
          · exact .inr ⟨a, hp, fun hc => c (.inl hc)⟩
          · exact .inl ⟨by omega, by have : ¬ (s.1 ≤ p ∧ p < s.2) := fun hc => c (.inr hc); omega⟩
      · simp only at hp1
        rintro (hc | hc)
        · exact h4 p (by omega) hp2 hc
        · omega
      · rcases List.mem_cons.1 hgm with rfl | hgm
        · exact rightS_iff.2 ⟨by simp only; omega, by simp only; omega, by simp only; omega⟩
        · exact h5.1 g hgm
      · rw [List.pairwise_cons]
        exact ⟨fun g hgm => (h6 g hgm).1, h5.2⟩
      · rcases List.mem_cons.1 hgm with rfl | hgm
        · simp only; omega
        · have := h6 g hgm; simp only; omega
    · simp only [if_neg hg]
      refine ⟨by simp only; omega, by simp only; omega, fun p => ?_, fun p hp1 hp2 => ?_, h5, fun g hgm => ?_⟩
      · rw [h3]
        simp only
        constructor
        · rintro ⟨a, b, c⟩
          exact ⟨a, by omega, fun hc => hc.elim c fun hc => by omega⟩
        · rintro ⟨a, b, c⟩
          have : ¬ (s.1 ≤ p ∧ p < s.2) := fun hc => c (.inr hc)
          exact ⟨a, by omega, fun hc => c (.inl hc)⟩
      · simp only at hp1
        rintro (hc | hc)
        · exact h4 p (by omega) hp2 hc
        · omega
      · have := h6 g hgm; simp only; omega
  · have hst : stepG x y st s = st := by simp [stepG, ho]
    rw [hst]
    have hno : ∀ p, x ≤ p → p < y → ¬ (s.1 ≤ p ∧ p < s.2) := by
      intro p a b hc
      apply ho
      simp [overB, rightB]
      omega
    refine ⟨⟨h1, h2, fun p => ?_, fun p hp1 hp2 => ?_, h5, h6⟩, .inr (.inr rfl)⟩
    · rw [h3]
      constructor
      · rintro ⟨a, b, c⟩
        exact ⟨a, b, fun hc => hc.elim c fun hc => hno p a (by omega) hc⟩
      · rintro ⟨a, b, c⟩
        exact ⟨a, b, fun hc => c (.inl hc)⟩
    · rintro (hc | hc)
      · exact h4 p hp1 hp2 hc
      · exact hno p (by omega) hp2 hc

theorem foldG_inv {x y : Int} (hxy : -1000 ≤ x ∧ x < y ∧ y ≤ 1000) : ∀ (l : List Sp) (C : Int → Prop) (st : Int × List Sp), Canon l → InvG x y C st → (∀ s ∈ l, st.1 = x ∨ st.1 < s.1) → InvG x y (fun p => C p ∨ Cov l p) (l.foldl (stepG x y) st)
  | [], C, st, _, h, _ => by
    have : (fun p => C p ∨ Cov [] p) = C := by funext p; simp [cov_nil]
    rw [this]; exact h
  | s :: l, C, st, hc, h, hat => by
    obtain ⟨h1, h2⟩ := hc
    rw [List.pairwise_cons] at h2
    obtain ⟨g1, g2⟩ := stepG_inv hxy (h1 s List.mem_cons_self) h (hat s List.mem_cons_self)
    have := foldG_inv hxy l _ (stepG x y st s) ⟨fun u hu => h1 u (List.mem_cons_of_mem _ hu), h2.2⟩ g1 (fun u hu => by
      have := h2.1 u hu
      rcases g2 with g | g | g
      · exact .inl g
      · exact .inr (by omega)
      · rw [g]; exact hat u (List.mem_cons_of_mem _ hu))
    have e : (fun p => C p ∨ Cov (s :: l) p) = (fun p => (C p ∨ (s.1 ≤ p ∧ p < s.2)) ∨ Cov l p) := by funext p; simp only [cov_cons, or_assoc]
    rw [e, List.foldl_cons]
    exact this

theorem gaps_spec {x y : Int} (hxy : -1000 ≤ x ∧ x < y ∧ y ≤ 1000) {j : List Sp} (hj : Canon j) : Canon (endG y (foldG j x y)).reverse ∧ ∀ p, Cov (endG y (foldG j x y)).reverse p ↔ x ≤ p ∧ p < y ∧ ¬ Cov j p := by
  have h := foldG_inv hxy j (fun _ => False) (x, []) hj ⟨Int.le_refl _, by simp only; omega, fun p => by simp [cov_nil], by simp, ⟨by simp, by simp⟩, by simp⟩ (fun s _ => .inl rfl)
  simp only [false_or] at h
  change InvG x y (fun p => Cov j p) (foldG j x y) at h
  generalize foldG j x y = st at *
  obtain ⟨h1, h2, h3, h4, h5, h6⟩ := h
  unfold endG
  split
  · rename_i hlt
    refine ⟨⟨fun s hs => ?_, ?_⟩, fun p => ?_⟩
    · rw [List.mem_reverse] at hs
      rcases List.mem_cons.1 hs with rfl | hs
      · exact rightS_iff.2 ⟨by simp only; omega, by simp only; omega, by simp only; omega⟩
      · exact h5.1 s hs
    · rw [List.pairwise_reverse, List.pairwise_cons]
      exact ⟨fun g hg => (h6 g hg).1, h5.2⟩
    · rw [cov_rev, cov_cons, h3]
      simp only
      constructor
      · rintro (⟨a, b⟩ | ⟨a, b, c⟩)
        · exact ⟨by omega, b, h4 p a b⟩
        · exact ⟨a, by omega, c⟩
      · rintro ⟨a, b, c⟩
        by_cases hp : p < st.1
        · exact .inr ⟨a, hp, c⟩
        · exact .inl ⟨by omega, b⟩
  · refine ⟨⟨fun s hs => h5.1 s (List.mem_reverse.1 hs), by rw [List.pairwise_reverse]; exact h5.2⟩, fun p => ?_⟩
    rw [cov_rev, h3]
    constructor
    · rintro ⟨a, b, c⟩; exact ⟨a, by omega, c⟩
    · rintro ⟨a, b, c⟩; exact ⟨a, by omega, c⟩

/-- A canonical list is fixed by its points. -/
theorem canon_unique : ∀ {a b : List Sp}, Canon a → Canon b → (∀ p, Cov a p ↔ Cov b p) → a = b
  | [], [], _, _, _ => rfl
  | [], t :: b, _, hb, h => by
    have ht := rightS_iff.1 (hb.1 t List.mem_cons_self)
    exact absurd ((h t.1).2 ⟨t, List.mem_cons_self, by omega, by omega⟩) cov_nil
  | s :: a, [], ha, _, h => by
    have hs := rightS_iff.1 (ha.1 s List.mem_cons_self)
    exact absurd ((h s.1).1 ⟨s, List.mem_cons_self, by omega, by omega⟩) cov_nil
  | s :: a, t :: b, ha, hb, h => by
    have hs := rightS_iff.1 (ha.1 s List.mem_cons_self)
    have ht := rightS_iff.1 (hb.1 t List.mem_cons_self)
    have pa := List.pairwise_cons.1 ha.2
    have pb := List.pairwise_cons.1 hb.2
    have ra : ∀ p, Cov a p → s.2 < p := fun p ⟨u, hu, h1, h2⟩ => by have := pa.1 u hu; omega
    have rb : ∀ p, Cov b p → t.2 < p := fun p ⟨u, hu, h1, h2⟩ => by have := pb.1 u hu; omega
    have i1 := (h s.1).1 ⟨s, List.mem_cons_self, by omega, by omega⟩
    have i2 := (h t.1).2 ⟨t, List.mem_cons_self, by omega, by omega⟩
    rw [cov_cons] at i1 i2
    have e1 : s.1 = t.1 := by
      rcases i1 with i1 | i1 <;> rcases i2 with i2 | i2
      · omega
      · have := ra _ i2; omega
      · have := rb _ i1; omega
      · have := ra _ i2; have := rb _ i1; omega
    have e2 : s.2 = t.2 := by
      rcases Int.lt_trichotomy s.2 t.2 with hlt | he | hlt
      · have := (h s.2).2 ⟨t, List.mem_cons_self, by omega, by omega⟩
        rw [cov_cons] at this
        rcases this with hh | hh
        · omega
        · have := ra _ hh; omega
      · exact he
      · have := (h t.2).1 ⟨s, List.mem_cons_self, by omega, by omega⟩
        rw [cov_cons] at this
        rcases this with hh | hh
        · omega
        · have := rb _ hh; omega
    have e : s = t := Prod.ext e1 e2
    subst e
    rw [canon_unique (a := a) (b := b) ⟨fun u hu => ha.1 u (List.mem_cons_of_mem _ hu), pa.2⟩ ⟨fun u hu => hb.1 u (List.mem_cons_of_mem _ hu), pb.2⟩ fun p => ?_]
    have hp := h p
    rw [cov_cons, cov_cons] at hp
    constructor
    · intro hc
      rcases hp.1 (.inr hc) with hh | hh
      · have := ra p hc; omega
      · exact hh
    · intro hc
      rcases hp.2 (.inr hc) with hh | hh
      · have := rb p hc; omega
      · exact hh

theorem stepJ_cov {acc : List Sp} {s : Sp} {p : Int} (hs : s.1 < s.2) (hh : ∀ t ∈ acc.head?, t.1 ≤ s.1) : Cov (stepJ acc s) p ↔ Cov acc p ∨ (s.1 ≤ p ∧ p < s.2) := by
  cases acc with
  | nil => simp [stepJ, cov_cons, cov_nil]
  | cons t r =>
    have ht := hh t (by simp)
    simp only [stepJ]
    split
    · rw [cov_cons, or_comm]
    · rw [cov_cons, cov_cons]
      simp only
      constructor
      · rintro (h | h)
        · by_cases hp : p < t.2
          · exact .inl (.inl ⟨h.1, hp⟩)
          · exact .inr ⟨by omega, by omega⟩
        · exact .inl (.inr h)
      · rintro ((h | h) | h)
        · exact .inl ⟨h.1, by omega⟩
        · exact .inr h
        · exact .inl ⟨by omega, by omega⟩

/-- How many points. -/
def lenF (l : List Sp) : Int := (l.map fun s => s.2 - s.1).sum
theorem lenF_bound : ∀ {l : List Sp} {a : Int}, Canon l → (∀ s ∈ l, a ≤ s.1) → a ≤ 1000 → 0 ≤ lenF l ∧ lenF l ≤ 1000 - a
  | [], a, _, _, ha => by simp [lenF]; omega
  | s :: l, a, hc, hl, ha => by
    have hs := rightS_iff.1 (hc.1 s List.mem_cons_self)
    have hp := List.pairwise_cons.1 hc.2
    have := lenF_bound (l := l) (a := s.2) ⟨fun u hu => hc.1 u (List.mem_cons_of_mem _ hu), hp.2⟩ (fun u hu => by have := hp.1 u hu; omega) hs.2.2
    have h1 := hl s List.mem_cons_self
    simp only [lenF, List.map_cons, List.sum_cons] at *
    omega

def covB (l : List Sp) (p : Int) : Bool := l.any fun s => decide (s.1 ≤ p) && decide (p < s.2)
theorem covB_iff {l : List Sp} {p : Int} : covB l p = true ↔ Cov l p := by simp [covB, Cov]
def ptsN (f : Int → Bool) : Nat := (List.range 2000).countP fun (i : Nat) => f ((i : Int) - 1000)
theorem countP_split {α : Type} {p q r : α → Bool} : ∀ (l : List α), (∀ i ∈ l, r i = (p i || q i)) → (∀ i ∈ l, ¬ (p i = true ∧ q i = true)) → l.countP r = l.countP p + l.countP q
  | [], _, _ => rfl
  | x :: l, h1, h2 => by
    have ih := countP_split l (fun i hi => h1 i (List.mem_cons_of_mem _ hi)) (fun i hi => h2 i (List.mem_cons_of_mem _ hi))
    have a := h1 x List.mem_cons_self
    have b := h2 x List.mem_cons_self
    simp only [List.countP_cons, ih, a]
    cases hp : p x <;> cases hq : q x <;> simp_all <;> omega
theorem countP_iv (A B : Nat) : ∀ n, (List.range n).countP (fun i => decide (A ≤ i) && decide (i < B)) = min B n - min A n
  | 0 => by simp
  | n + 1 => by
    rw [List.range_succ, List.countP_append, countP_iv A B n]
    simp only [List.countP_cons, List.countP_nil]
    by_cases h1 : A ≤ n <;> by_cases h2 : n < B <;> simp [h1, h2] <;> omega
theorem ptsN_iv {a b : Int} (h1 : -1000 ≤ a) (h2 : a ≤ b) (h3 : b ≤ 1000) : (ptsN (fun p => decide (a ≤ p) && decide (p < b)) : Int) = b - a := by
  unfold ptsN
  have : (List.range 2000).countP (fun (i : Nat) => decide (a ≤ (i : Int) - 1000) && decide ((i : Int) - 1000 < b)) = (List.range 2000).countP (fun (i : Nat) => decide ((a + 1000).toNat ≤ i) && decide (i < (b + 1000).toNat)) := by
    apply List.countP_congr
    intro i _
    simp only [Bool.and_eq_true, decide_eq_true_eq]
    omega
  rw [this, countP_iv]
  omega
theorem ptsN_split {p q r : Int → Bool} (h1 : ∀ i, r i = (p i || q i)) (h2 : ∀ i, ¬ (p i = true ∧ q i = true)) : ptsN r = ptsN p + ptsN q := countP_split _ (fun i _ => h1 _) (fun i _ => h2 _)
theorem ptsN_congr {p q : Int → Bool} (h : ∀ i, p i = q i) : ptsN p = ptsN q := by rw [show p = q from funext h]
theorem lenF_pts : ∀ {l : List Sp}, Canon l → lenF l = ptsN (covB l)
  | [], _ => by simp [lenF, ptsN, covB]
  | s :: l, hc => by
    have hs := rightS_iff.1 (hc.1 s List.mem_cons_self)
    have hp := List.pairwise_cons.1 hc.2
    have ih := lenF_pts (l := l) ⟨fun u hu => hc.1 u (List.mem_cons_of_mem _ hu), hp.2⟩
    have hiv := ptsN_iv (a := s.1) (b := s.2) hs.1 (by omega) hs.2.2
    have hsp := ptsN_split (r := covB (s :: l)) (p := fun p => decide (s.1 ≤ p) && decide (p < s.2)) (q := covB l) (fun i => by simp [covB]) (fun i ⟨a, b⟩ => by
      obtain ⟨u, hu, h1, h2⟩ := covB_iff.1 b
      have := hp.1 u hu
      simp at a
      omega)
    rw [hsp]
    simp only [lenF, List.map_cons, List.sum_cons] at *
    omega

/-- A point is one of the right spans'. -/
def CovR (l : List Sp) (p : Int) : Prop := ∃ s ∈ l, rightS s = true ∧ s.1 ≤ p ∧ p < s.2
theorem covR_of {l : List Sp} (h : ∀ s ∈ l, rightS s = true) {p : Int} : CovR l p ↔ Cov l p := ⟨fun ⟨s, h1, _, h2⟩ => ⟨s, h1, h2⟩, fun ⟨s, h1, h2⟩ => ⟨s, h1, h s h1, h2⟩⟩
theorem sortF_cov {l : List Sp} {p : Int} : Cov (sortF l) p ↔ CovR l p := by
  unfold sortF Cov CovR
  constructor
  · rintro ⟨s, hs, h⟩
    have := List.mem_filter.1 ((List.mergeSort_perm _ _).mem_iff.1 hs)
    exact ⟨s, this.1, this.2, h⟩
  · rintro ⟨s, hs, hr, h⟩
    exact ⟨s, (List.mergeSort_perm _ _).mem_iff.2 (List.mem_filter.2 ⟨hs, hr⟩), h⟩
theorem foldJ_cov : ∀ {xs acc : List Sp} {p : Int}, (∀ s ∈ xs, rightS s = true) → xs.Pairwise (fun a b => a.1 ≤ b.1) → CanonR acc → (∀ t ∈ acc.head?, ∀ s ∈ xs, t.1 ≤ s.1) → (Cov (xs.foldl stepJ acc) p ↔ Cov acc p ∨ Cov xs p)
  | [], acc, p, _, _, _, _ => by simp [cov_nil]
  | s :: xs, acc, p, h1, h2, h, hh => by
    have hs := rightS_iff.1 (h1 s List.mem_cons_self)
    rw [List.pairwise_cons] at h2
    obtain ⟨g1, g2⟩ := stepJ_canon h (h1 s List.mem_cons_self) (fun t ht => hh t ht s List.mem_cons_self)
    rw [List.foldl_cons, foldJ_cov (fun u hu => h1 u (List.mem_cons_of_mem _ hu)) h2.2 g1 (fun t ht u hu => by have := g2 t ht; have := h2.1 u hu; omega),
      stepJ_cov hs.2.1 (fun t ht => hh t ht s List.mem_cons_self), cov_cons, or_assoc]
theorem joinF_cov {l : List Sp} {p : Int} : Cov (joinF l) p ↔ CovR l p := by
  rw [joinF, cov_rev, foldJ_cov sortF_right sortF_sorted ⟨by simp, by simp⟩ (by simp), sortF_cov]
  simp [cov_nil]

theorem rightB_iff {x y : Int} : rightB x y = true ↔ -1000 ≤ x ∧ x < y ∧ y ≤ 1000 := by simp [rightB, and_assoc]
theorem gapsF_spec {l : List Sp} {x y : Int} (h : rightB x y = true) : Canon (gapsF l x y) ∧ ∀ p, Cov (gapsF l x y) p ↔ x ≤ p ∧ p < y ∧ ¬ CovR l p := by
  have := gaps_spec (rightB_iff.1 h) (joinF_canon l)
  simp only [gapsF, h, if_true]
  exact ⟨this.1, fun p => by rw [this.2 p, joinF_cov]⟩
theorem gapsF_len {l : List Sp} {x y : Int} : (gapsF l x y).length ≤ l.length + 1 := by
  unfold gapsF
  split
  · rw [List.length_reverse]
    have h1 := foldG_len (l := joinF l) (x := x) (y := y)
    have h2 := joinF_len l
    unfold endG
    split <;> simp <;> omega
  · simp
theorem canon_one {x y : Int} (h : rightB x y = true) : Canon [(x, y)] := ⟨by simpa [rightS] using h, by simp⟩
theorem gaps_all {l : List Sp} {x y : Int} (h : rightB x y = true) : joinF (gapsF l x y ++ gapsF (gapsF l x y) x y) = [(x, y)] := by
  have h1 := gapsF_spec (l := l) h
  have h2 := gapsF_spec (l := gapsF l x y) h
  refine canon_unique (joinF_canon _) (canon_one h) fun p => ?_
  rw [joinF_cov, covR_of (fun s hs => (List.mem_append.1 hs).elim (h1.1.1 s) (h2.1.1 s)), cov_app, h2.2, covR_of h1.1.1, cov_cons]
  simp only [cov_nil, or_false]
  constructor
  · rintro (hc | hc)
    · have := (h1.2 p).1 hc; exact ⟨this.1, this.2.1⟩
    · exact ⟨hc.1, hc.2.1⟩
  · intro hc
    by_cases hg : Cov (gapsF l x y) p
    · exact .inl hg
    · exact .inr ⟨hc.1, hc.2, hg⟩
theorem gaps_cov {l : List Sp} {x y : Int} (h : rightB x y = true) {s : Sp} (hs : s ∈ gapsF (gapsF l x y) x y) : rightB s.1 s.2 = true ∧ gapsF l s.1 s.2 = [] := by
  have h1 := gapsF_spec (l := l) h
  have h2 := gapsF_spec (l := gapsF l x y) h
  have hr := h2.1.1 s hs
  refine ⟨hr, ?_⟩
  have h3 := gapsF_spec (l := l) (x := s.1) (y := s.2) hr
  refine canon_unique h3.1 ⟨by simp, by simp⟩ fun p => ?_
  rw [h3.2]
  constructor
  · rintro ⟨a, b, c⟩
    have hc := (h2.2 p).1 ⟨s, hs, a, b⟩
    rw [covR_of h1.1.1] at hc
    exact absurd ((h1.2 p).2 ⟨hc.1, hc.2.1, c⟩) hc.2.2
  · intro hc; exact absurd hc cov_nil
theorem sumF_len : ∀ {l : List Sp} {a n : Int}, Canon l → (∀ s ∈ l, a ≤ s.1) → -1000 ≤ a → a ≤ 1000 → 0 ≤ n → n ≤ 1000 + a → l.foldl (fun n s => w64 (n + w64 (s.2 - s.1))) n = n + lenF l
  | [], a, n, _, _, _, _, _, _ => by simp [lenF]
  | s :: l, a, n, hc, hl, h0, ha, hn, hn2 => by
    have hs := rightS_iff.1 (hc.1 s List.mem_cons_self)
    have hp := List.pairwise_cons.1 hc.2
    have h1 := hl s List.mem_cons_self
    have e1 : w64 (s.2 - s.1) = s.2 - s.1 := IntWalk.i64_in _ (by omega)
    have e2 : w64 (n + (s.2 - s.1)) = n + (s.2 - s.1) := IntWalk.i64_in _ (by omega)
    rw [List.foldl_cons, e1, e2, sumF_len (a := s.2) ⟨fun u hu => hc.1 u (List.mem_cons_of_mem _ hu), hp.2⟩ (fun u hu => by have := hp.1 u hu; omega) (by omega) hs.2.2 (by omega) (by omega)]
    simp only [lenF, List.map_cons, List.sum_cons]
    omega
theorem sumF_canon {l : List Sp} (h : Canon l) : sumF l = lenF l := by
  have := sumF_len (l := l) (a := -1000) (n := 0) h (fun s hs => (rightS_iff.1 (h.1 s hs)).1) (by omega) (by omega) (by omega) (by omega)
  simpa [sumF] using this
theorem gaps_count {l : List Sp} {x y : Int} (h : rightB x y = true) : w64 (sumF (joinF (gapsF l x y)) + sumF (joinF (gapsF (gapsF l x y) x y))) = w64 (y - x) := by
  have h1 := gapsF_spec (l := l) h
  have h2 := gapsF_spec (l := gapsF l x y) h
  rw [joinF_of_canon h1.1, joinF_of_canon h2.1, sumF_canon h1.1, sumF_canon h2.1, lenF_pts h1.1, lenF_pts h2.1]
  have hr := rightB_iff.1 h
  have hiv := ptsN_iv (a := x) (b := y) hr.1 (by omega) hr.2.2
  have hsp := ptsN_split (r := fun p => decide (x ≤ p) && decide (p < y)) (p := covB (gapsF l x y)) (q := covB (gapsF (gapsF l x y) x y)) (fun p => by
    rw [Bool.eq_iff_iff]
    simp only [Bool.and_eq_true, decide_eq_true_eq, Bool.or_eq_true, covB_iff]
    rw [h2.2, covR_of h1.1.1]
    constructor
    · intro hc
      by_cases hg : Cov (gapsF l x y) p
      · exact .inl hg
      · exact .inr ⟨hc.1, hc.2, hg⟩
    · rintro (hc | hc)
      · have := (h1.2 p).1 hc; exact ⟨this.1, this.2.1⟩
      · exact ⟨hc.1, hc.2.1⟩) (fun p ⟨a, b⟩ => by
    rw [covB_iff] at a b
    have := (h2.2 p).1 b
    rw [covR_of h1.1.1] at this
    exact this.2.2 a)
  rw [hsp] at hiv
  generalize ptsN (covB (gapsF l x y)) = n1 at *
  generalize ptsN (covB (gapsF (gapsF l x y) x y)) = n2 at *
  rw [show ((n1 : Nat) : Int) + (n2 : Nat) = y - x from by omega]

section
variable {P : Program}
def J6 (l had g all : List Sp) (x y : Int) (i : Nat) (e : Env) (m : Mem) (nx : Nat) : Prop :=
  e 0 = some (.sl (sps l)) ∧ e 5 = some (.sl (sps g)) ∧ e 6 = some (.sl (sps had)) ∧ e 7 = some (.sl (sps all)) ∧ e 8 = some (.int .i64 i) ∧ ∃ k, e 3 = some (.ptr k 2 0 0) ∧ m k = some (.box [.int .i64 x, .int .i64 y] 26)
theorem sps_two {l : List Sp} : ∀ q ∈ sps l, q.length = 2 := fun q hq => by simp only [sps, List.mem_map] at hq; obtain ⟨z, _, rfl⟩ := hq; rfl
theorem sps_app {l m : List Sp} : sps l ++ sps m = sps (l ++ m) := by simp [sps]

theorem w6 (h10 : ∀ l b, V P 10 [.sl (sps l)] mt b (.sl (sps (l.take 30))) mt) (h11 : ∀ l : List Sp, l.length < 4294967296 → ∀ b, V P 11 [.sl (sps l)] mt b (.sl (sps (joinF l))) mt) (h12 : ∀ b, V P 12 [] mt b (.bool true) mt)
    (h16 : ∀ x y b, V P 16 [asp x y] mt b (.bool (rightB x y)) mt) (h25 : ∀ l : List Sp, l.length < 4294967296 → ∀ x y b, V P 25 [.sl (sps l), asp x y] mt b (.sl (sps (gapsF l x y))) mt)
    (h26 : ∀ l : List Sp, l.length < 4294967296 → ∀ x y b, V P 26 [.sl (sps l), asp x y] mt b (.bool (rightB x y && decide (gapsF l x y = []))) mt) (h27 : ∀ l : List Sp, l.length < 4294967296 → ∀ b, V P 27 [.sl (sps l)] mt b (.int .i64 (sumF (joinF l))) mt)
    (l0 : List Sp) (x y : Int) (b : Nat) : VW P c6 (PRet (Ends [.tmp 4] b (.bool true) mt)) (fun t => [PV.sl (sps l0), asp x y][t]?) mt b := by
  unfold c6
  have h10' := h10 l0
  have hl30 : (l0.take 30).length ≤ 30 := by simp; omega
  generalize l0.take 30 = l at *
  have hgl := gapsF_len (l := l) (x := x) (y := y)
  have hhl := gapsF_len (l := gapsF l x y) (x := x) (y := y)
  have h25g := h25 l (by omega) x y
  have h25h := h25 (gapsF l x y) (by omega) x y
  have h11a := h11 (gapsF l x y ++ gapsF (gapsF l x y) x y) (by simp; omega)
  have h26' := h26 l (by omega)
  have h27g := h27 (gapsF l x y) (by omega)
  have h27h := h27 (gapsF (gapsF l x y) x y) (by omega)
  have hall := gaps_all (l := l) (x := x) (y := y)
  have hcov := fun h s => gaps_cov (l := l) (x := x) (y := y) h (s := s)
  have hcnt := gaps_count (l := l) (x := x) (y := y)
  have hemp : rightB x y = false → gapsF l x y = [] ∧ gapsF (gapsF l x y) x y = [] := fun h => by simp [gapsF, h]
  generalize gapsF (gapsF l x y) x y = had at *
  generalize gapsF l x y = g at *
  generalize sumF (joinF g) = n1 at *
  generalize sumF (joinF had) = n2 at *
  generalize joinF (g ++ had) = all at *
  have hgs := sps_len (l := g)
  have hhs := sps_len (l := had)
  have al1 : allLen 2 (sps g) := sps_two
  have al2 : allLen 2 (sps had) := sps_two
  have b1 : g.length * 16 ≤ 140737488355328 := by omega
  have b2 : (g.length + had.length) * 16 ≤ 140737488355328 := by omega
  repeat' (first
    | refine VW.seq ?_
    | refine VW.block ?_
    | (refine VW.skip ?_; simp -implicitDefEqProofs only [eng, reduceIte, reduceCtorEq, Nat.reduceAdd, Nat.reduceMul, Nat.reduceSub, Nat.reduceEqDiff, Nat.reduceLeDiff, Nat.reduceLT, Nat.reduceDiv, Nat.reduceMod, Int.reduceLE, Int.reduceLT, Int.reduceEq, Int.reduceNeg, Int.reduceAdd, Int.reduceSub, Int.reduceToNat, Nat.reducePow])
    | (refine VW.exit ?_; simp -implicitDefEqProofs only [eng, reduceIte, reduceCtorEq, Nat.reduceAdd, Nat.reduceMul, Nat.reduceSub, Nat.reduceEqDiff, Nat.reduceLeDiff, Nat.reduceLT, Nat.reduceDiv, Nat.reduceMod, Int.reduceLE, Int.reduceLT, Int.reduceEq, Int.reduceNeg, Int.reduceAdd, Int.reduceSub, Int.reduceToNat, Nat.reducePow])
    | (refine VW.reg ?_; simp -implicitDefEqProofs only [eng, reduceIte, reduceCtorEq, Nat.reduceAdd, Nat.reduceMul, Nat.reduceSub, Nat.reduceEqDiff, Nat.reduceLeDiff, Nat.reduceLT, Nat.reduceDiv, Nat.reduceMod, Int.reduceLE, Int.reduceLT, Int.reduceEq, Int.reduceNeg, Int.reduceAdd, Int.reduceSub, Int.reduceToNat, Nat.reducePow, *])
    | (refine VW.regD ?_; simp -implicitDefEqProofs only [eng, reduceIte, reduceCtorEq, Nat.reduceAdd, Nat.reduceMul, Nat.reduceSub, Nat.reduceEqDiff, Nat.reduceLeDiff, Nat.reduceLT, Nat.reduceDiv, Nat.reduceMod, Int.reduceLE, Int.reduceLT, Int.reduceEq, Int.reduceNeg, Int.reduceAdd, Int.reduceSub, Int.reduceToNat, Nat.reducePow, *])
    | (refine VW.condT ?_ ?_; focus (simp -implicitDefEqProofs only [eng, reduceIte, reduceCtorEq, Nat.reduceAdd, Nat.reduceMul, Nat.reduceSub, Nat.reduceEqDiff, Nat.reduceLeDiff, Nat.reduceLT, Nat.reduceDiv, Nat.reduceMod, Int.reduceLE, Int.reduceLT, Int.reduceEq, Int.reduceNeg, Int.reduceAdd, Int.reduceSub, Int.reduceToNat, Nat.reducePow, *]; done))
    | (refine VW.condF ?_ ?_; focus (simp -implicitDefEqProofs only [eng, reduceIte, reduceCtorEq, Nat.reduceAdd, Nat.reduceMul, Nat.reduceSub, Nat.reduceEqDiff, Nat.reduceLeDiff, Nat.reduceLT, Nat.reduceDiv, Nat.reduceMod, Int.reduceLE, Int.reduceLT, Int.reduceEq, Int.reduceNeg, Int.reduceAdd, Int.reduceSub, Int.reduceToNat, Nat.reducePow, *]; done))
    | (apply VW.cond; focus (simp -implicitDefEqProofs only [eng, reduceIte, reduceCtorEq, Nat.reduceAdd, Nat.reduceMul, Nat.reduceSub, Nat.reduceEqDiff, Nat.reduceLeDiff, Nat.reduceLT, Nat.reduceDiv, Nat.reduceMod, Int.reduceLE, Int.reduceLT, Int.reduceEq, Int.reduceNeg, Int.reduceAdd, Int.reduceSub, Int.reduceToNat, Nat.reducePow, *]; rfl))
    | refine imp_nt ?_
    | refine imp_nf ?_
    | refine imp_dt (fun _ => ?_)
    | refine imp_df (fun _ => ?_)
    | (refine fun (_ : _ = true) => ?_)
    | (refine fun (_ : _ = false) => ?_)
    | (refine VW.ret ?_; simp -implicitDefEqProofs only [eng, reduceIte, reduceCtorEq, Nat.reduceAdd, Nat.reduceMul, Nat.reduceSub, Nat.reduceEqDiff, Nat.reduceLeDiff, Nat.reduceLT, Nat.reduceDiv, Nat.reduceMod, Int.reduceLE, Int.reduceLT, Int.reduceEq, Int.reduceNeg, Int.reduceAdd, Int.reduceSub, Int.reduceToNat, Nat.reducePow])
    | refine vg_t ?_ ?_
    | refine vg_f ?_ ?_
    | (show goA _ _ _ _ _ _ _ _ _ _; simp -implicitDefEqProofs only [eng, reduceIte, reduceCtorEq, Nat.reduceAdd, Nat.reduceMul, Nat.reduceSub, Nat.reduceEqDiff, Nat.reduceLeDiff, Nat.reduceLT, Nat.reduceDiv, Nat.reduceMod, Int.reduceLE, Int.reduceLT, Int.reduceEq, Int.reduceNeg, Int.reduceAdd, Int.reduceSub, Int.reduceToNat, Nat.reducePow, *])
    | (show goB _ _ _ _ _ _ _ _ _; simp -implicitDefEqProofs only [eng, reduceIte, reduceCtorEq, Nat.reduceAdd, Nat.reduceMul, Nat.reduceSub, Nat.reduceEqDiff, Nat.reduceLeDiff, Nat.reduceLT, Nat.reduceDiv, Nat.reduceMod, Int.reduceLE, Int.reduceLT, Int.reduceEq, Int.reduceNeg, Int.reduceAdd, Int.reduceSub, Int.reduceToNat, Nat.reducePow, *])
    | (show goAD _ _ _ _ _ _ _ _ _ _ _ _; simp -implicitDefEqProofs only [eng, reduceIte, reduceCtorEq, Nat.reduceAdd, Nat.reduceMul, Nat.reduceSub, Nat.reduceEqDiff, Nat.reduceLeDiff, Nat.reduceLT, Nat.reduceDiv, Nat.reduceMod, Int.reduceLE, Int.reduceLT, Int.reduceEq, Int.reduceNeg, Int.reduceAdd, Int.reduceSub, Int.reduceToNat, Nat.reducePow, *])
    | (show goBD _ _ _ _ _ _ _ _ _; simp -implicitDefEqProofs only [eng, reduceIte, reduceCtorEq, Nat.reduceAdd, Nat.reduceMul, Nat.reduceSub, Nat.reduceEqDiff, Nat.reduceLeDiff, Nat.reduceLT, Nat.reduceDiv, Nat.reduceMod, Int.reduceLE, Int.reduceLT, Int.reduceEq, Int.reduceNeg, Int.reduceAdd, Int.reduceSub, Int.reduceToNat, Nat.reducePow, *])
    | (refine VC.p1 (h10' _) rfl rfl ?_; simp -implicitDefEqProofs only [eng, reduceIte, reduceCtorEq, Nat.reduceAdd, Nat.reduceMul, Nat.reduceSub, Nat.reduceEqDiff, Nat.reduceLeDiff, Nat.reduceLT, Nat.reduceDiv, Nat.reduceMod, Int.reduceLE, Int.reduceLT, Int.reduceEq, Int.reduceNeg, Int.reduceAdd, Int.reduceSub, Int.reduceToNat, Nat.reducePow, *])
    | (refine VC.p2 (h25g _) rfl rfl rfl rfl ?_; simp -implicitDefEqProofs only [eng, reduceIte, reduceCtorEq, Nat.reduceAdd, Nat.reduceMul, Nat.reduceSub, Nat.reduceEqDiff, Nat.reduceLeDiff, Nat.reduceLT, Nat.reduceDiv, Nat.reduceMod, Int.reduceLE, Int.reduceLT, Int.reduceEq, Int.reduceNeg, Int.reduceAdd, Int.reduceSub, Int.reduceToNat, Nat.reducePow, *])
    | (refine VC.p2 (h25h _) rfl rfl rfl rfl ?_; simp -implicitDefEqProofs only [eng, reduceIte, reduceCtorEq, Nat.reduceAdd, Nat.reduceMul, Nat.reduceSub, Nat.reduceEqDiff, Nat.reduceLeDiff, Nat.reduceLT, Nat.reduceDiv, Nat.reduceMod, Int.reduceLE, Int.reduceLT, Int.reduceEq, Int.reduceNeg, Int.reduceAdd, Int.reduceSub, Int.reduceToNat, Nat.reducePow, *]))
  refine VC.o1 rfl (by simp -implicitDefEqProofs only [eng, reduceIte, reduceCtorEq, Nat.reduceAdd, Nat.reduceMul, Nat.reduceSub, Nat.reduceEqDiff, Nat.reduceLeDiff, Nat.reduceLT, Nat.reduceDiv, Nat.reduceMod, Int.reduceLE, Int.reduceLT, Int.reduceEq, Int.reduceNeg, Int.reduceAdd, Int.reduceSub, Int.reduceToNat, Nat.reducePow, *] <;> rfl) (by simp -implicitDefEqProofs only [eng, reduceIte, reduceCtorEq, Nat.reduceAdd, Nat.reduceMul, Nat.reduceSub, Nat.reduceEqDiff, Nat.reduceLeDiff, Nat.reduceLT, Nat.reduceDiv, Nat.reduceMod, Int.reduceLE, Int.reduceLT, Int.reduceEq, Int.reduceNeg, Int.reduceAdd, Int.reduceSub, Int.reduceToNat, Nat.reducePow, *] <;> rfl) (h11a _) (by simp [hgs, hhs]) sps_app.symm ?_
  simp -implicitDefEqProofs only [eng, reduceIte, reduceCtorEq, Nat.reduceAdd, Nat.reduceMul, Nat.reduceSub, Nat.reduceEqDiff, Nat.reduceLeDiff, Nat.reduceLT, Nat.reduceDiv, Nat.reduceMod, Int.reduceLE, Int.reduceLT, Int.reduceEq, Int.reduceNeg, Int.reduceAdd, Int.reduceSub, Int.reduceToNat, Nat.reducePow, *]
  clear h10' h25g h25h h11a h11 h25 h26 h27 h10
  have z0 : ((0 : Nat) : Int) = 0 := rfl
  cases hr : rightB x y
  · obtain ⟨rfl, rfl⟩ := hemp hr
    clear hcov hcnt hall hemp hgl hhl
    repeat' (first
    | refine VW.seq ?_
    | refine VW.block ?_
    | (refine VW.skip ?_; simp -implicitDefEqProofs only [eng, reduceIte, reduceCtorEq, Nat.reduceAdd, Nat.reduceMul, Nat.reduceSub, Nat.reduceEqDiff, Nat.reduceLeDiff, Nat.reduceLT, Nat.reduceDiv, Nat.reduceMod, Int.reduceLE, Int.reduceLT, Int.reduceEq, Int.reduceNeg, Int.reduceAdd, Int.reduceSub, Int.reduceToNat, Nat.reducePow])
    | (refine VW.exit ?_; simp -implicitDefEqProofs only [eng, reduceIte, reduceCtorEq, Nat.reduceAdd, Nat.reduceMul, Nat.reduceSub, Nat.reduceEqDiff, Nat.reduceLeDiff, Nat.reduceLT, Nat.reduceDiv, Nat.reduceMod, Int.reduceLE, Int.reduceLT, Int.reduceEq, Int.reduceNeg, Int.reduceAdd, Int.reduceSub, Int.reduceToNat, Nat.reducePow])
    | (refine VW.reg ?_; simp -implicitDefEqProofs only [eng, reduceIte, reduceCtorEq, Nat.reduceAdd, Nat.reduceMul, Nat.reduceSub, Nat.reduceEqDiff, Nat.reduceLeDiff, Nat.reduceLT, Nat.reduceDiv, Nat.reduceMod, Int.reduceLE, Int.reduceLT, Int.reduceEq, Int.reduceNeg, Int.reduceAdd, Int.reduceSub, Int.reduceToNat, Nat.reducePow, *])
    | (refine VW.regD ?_; simp -implicitDefEqProofs only [eng, reduceIte, reduceCtorEq, Nat.reduceAdd, Nat.reduceMul, Nat.reduceSub, Nat.reduceEqDiff, Nat.reduceLeDiff, Nat.reduceLT, Nat.reduceDiv, Nat.reduceMod, Int.reduceLE, Int.reduceLT, Int.reduceEq, Int.reduceNeg, Int.reduceAdd, Int.reduceSub, Int.reduceToNat, Nat.reducePow, *])
    | (refine VW.condT ?_ ?_; focus (simp -implicitDefEqProofs only [eng, reduceIte, reduceCtorEq, Nat.reduceAdd, Nat.reduceMul, Nat.reduceSub, Nat.reduceEqDiff, Nat.reduceLeDiff, Nat.reduceLT, Nat.reduceDiv, Nat.reduceMod, Int.reduceLE, Int.reduceLT, Int.reduceEq, Int.reduceNeg, Int.reduceAdd, Int.reduceSub, Int.reduceToNat, Nat.reducePow, *]; done))
    | (refine VW.condF ?_ ?_; focus (simp -implicitDefEqProofs only [eng, reduceIte, reduceCtorEq, Nat.reduceAdd, Nat.reduceMul, Nat.reduceSub, Nat.reduceEqDiff, Nat.reduceLeDiff, Nat.reduceLT, Nat.reduceDiv, Nat.reduceMod, Int.reduceLE, Int.reduceLT, Int.reduceEq, Int.reduceNeg, Int.reduceAdd, Int.reduceSub, Int.reduceToNat, Nat.reducePow, *]; done))
    | (apply VW.cond; focus (simp -implicitDefEqProofs only [eng, reduceIte, reduceCtorEq, Nat.reduceAdd, Nat.reduceMul, Nat.reduceSub, Nat.reduceEqDiff, Nat.reduceLeDiff, Nat.reduceLT, Nat.reduceDiv, Nat.reduceMod, Int.reduceLE, Int.reduceLT, Int.reduceEq, Int.reduceNeg, Int.reduceAdd, Int.reduceSub, Int.reduceToNat, Nat.reducePow, *]; rfl))
    | refine imp_nt ?_
    | refine imp_nf ?_
    | refine imp_dt (fun _ => ?_)
    | refine imp_df (fun _ => ?_)
    | (refine fun (_ : _ = true) => ?_)
    | (refine fun (_ : _ = false) => ?_)
    | (refine VW.ret ?_; simp -implicitDefEqProofs only [eng, reduceIte, reduceCtorEq, Nat.reduceAdd, Nat.reduceMul, Nat.reduceSub, Nat.reduceEqDiff, Nat.reduceLeDiff, Nat.reduceLT, Nat.reduceDiv, Nat.reduceMod, Int.reduceLE, Int.reduceLT, Int.reduceEq, Int.reduceNeg, Int.reduceAdd, Int.reduceSub, Int.reduceToNat, Nat.reducePow])
    | refine vg_t ?_ ?_
    | refine vg_f ?_ ?_
    | (show goA _ _ _ _ _ _ _ _ _ _; simp -implicitDefEqProofs only [eng, reduceIte, reduceCtorEq, Nat.reduceAdd, Nat.reduceMul, Nat.reduceSub, Nat.reduceEqDiff, Nat.reduceLeDiff, Nat.reduceLT, Nat.reduceDiv, Nat.reduceMod, Int.reduceLE, Int.reduceLT, Int.reduceEq, Int.reduceNeg, Int.reduceAdd, Int.reduceSub, Int.reduceToNat, Nat.reducePow, *])
    | (show goB _ _ _ _ _ _ _ _ _; simp -implicitDefEqProofs only [eng, reduceIte, reduceCtorEq, Nat.reduceAdd, Nat.reduceMul, Nat.reduceSub, Nat.reduceEqDiff, Nat.reduceLeDiff, Nat.reduceLT, Nat.reduceDiv, Nat.reduceMod, Int.reduceLE, Int.reduceLT, Int.reduceEq, Int.reduceNeg, Int.reduceAdd, Int.reduceSub, Int.reduceToNat, Nat.reducePow, *])
    | (show goAD _ _ _ _ _ _ _ _ _ _ _ _; simp -implicitDefEqProofs only [eng, reduceIte, reduceCtorEq, Nat.reduceAdd, Nat.reduceMul, Nat.reduceSub, Nat.reduceEqDiff, Nat.reduceLeDiff, Nat.reduceLT, Nat.reduceDiv, Nat.reduceMod, Int.reduceLE, Int.reduceLT, Int.reduceEq, Int.reduceNeg, Int.reduceAdd, Int.reduceSub, Int.reduceToNat, Nat.reducePow, *])
    | (show goBD _ _ _ _ _ _ _ _ _; simp -implicitDefEqProofs only [eng, reduceIte, reduceCtorEq, Nat.reduceAdd, Nat.reduceMul, Nat.reduceSub, Nat.reduceEqDiff, Nat.reduceLeDiff, Nat.reduceLT, Nat.reduceDiv, Nat.reduceMod, Int.reduceLE, Int.reduceLT, Int.reduceEq, Int.reduceNeg, Int.reduceAdd, Int.reduceSub, Int.reduceToNat, Nat.reducePow, *])
    | (refine VC.p1 (h16 _ _ _) rfl rfl ?_; simp -implicitDefEqProofs only [eng, reduceIte, reduceCtorEq, Nat.reduceAdd, Nat.reduceMul, Nat.reduceSub, Nat.reduceEqDiff, Nat.reduceLeDiff, Nat.reduceLT, Nat.reduceDiv, Nat.reduceMod, Int.reduceLE, Int.reduceLT, Int.reduceEq, Int.reduceNeg, Int.reduceAdd, Int.reduceSub, Int.reduceToNat, Nat.reducePow, *])
    | (refine VC.p0 (h12 _) ?_; simp -implicitDefEqProofs only [eng, reduceIte, reduceCtorEq, Nat.reduceAdd, Nat.reduceMul, Nat.reduceSub, Nat.reduceEqDiff, Nat.reduceLeDiff, Nat.reduceLT, Nat.reduceDiv, Nat.reduceMod, Int.reduceLE, Int.reduceLT, Int.reduceEq, Int.reduceNeg, Int.reduceAdd, Int.reduceSub, Int.reduceToNat, Nat.reducePow, *]))
    exact .tmp1 (by simp -implicitDefEqProofs only [eng, reduceIte, reduceCtorEq, Nat.reduceAdd, Nat.reduceMul, Nat.reduceSub, Nat.reduceEqDiff, Nat.reduceLeDiff, Nat.reduceLT, Nat.reduceDiv, Nat.reduceMod, Int.reduceLE, Int.reduceLT, Int.reduceEq, Int.reduceNeg, Int.reduceAdd, Int.reduceSub, Int.reduceToNat, Nat.reducePow, *]) rfl
  · have hall' := hall hr
    have hcnt' := hcnt hr
    have hcov' := hcov hr
    subst hall'
    clear hall hcnt hcov hemp hgs b1 b2
    repeat' (first
    | refine VW.seq ?_
    | refine VW.block ?_
    | (refine VW.skip ?_; simp -implicitDefEqProofs only [eng, reduceIte, reduceCtorEq, Nat.reduceAdd, Nat.reduceMul, Nat.reduceSub, Nat.reduceEqDiff, Nat.reduceLeDiff, Nat.reduceLT, Nat.reduceDiv, Nat.reduceMod, Int.reduceLE, Int.reduceLT, Int.reduceEq, Int.reduceNeg, Int.reduceAdd, Int.reduceSub, Int.reduceToNat, Nat.reducePow])
    | (refine VW.exit ?_; simp -implicitDefEqProofs only [eng, reduceIte, reduceCtorEq, Nat.reduceAdd, Nat.reduceMul, Nat.reduceSub, Nat.reduceEqDiff, Nat.reduceLeDiff, Nat.reduceLT, Nat.reduceDiv, Nat.reduceMod, Int.reduceLE, Int.reduceLT, Int.reduceEq, Int.reduceNeg, Int.reduceAdd, Int.reduceSub, Int.reduceToNat, Nat.reducePow])
    | (refine VW.reg ?_; simp -implicitDefEqProofs only [eng, reduceIte, reduceCtorEq, Nat.reduceAdd, Nat.reduceMul, Nat.reduceSub, Nat.reduceEqDiff, Nat.reduceLeDiff, Nat.reduceLT, Nat.reduceDiv, Nat.reduceMod, Int.reduceLE, Int.reduceLT, Int.reduceEq, Int.reduceNeg, Int.reduceAdd, Int.reduceSub, Int.reduceToNat, Nat.reducePow, *])
    | (refine VW.regD ?_; simp -implicitDefEqProofs only [eng, reduceIte, reduceCtorEq, Nat.reduceAdd, Nat.reduceMul, Nat.reduceSub, Nat.reduceEqDiff, Nat.reduceLeDiff, Nat.reduceLT, Nat.reduceDiv, Nat.reduceMod, Int.reduceLE, Int.reduceLT, Int.reduceEq, Int.reduceNeg, Int.reduceAdd, Int.reduceSub, Int.reduceToNat, Nat.reducePow, *])
    | (refine VW.condT ?_ ?_; focus (simp -implicitDefEqProofs only [eng, reduceIte, reduceCtorEq, Nat.reduceAdd, Nat.reduceMul, Nat.reduceSub, Nat.reduceEqDiff, Nat.reduceLeDiff, Nat.reduceLT, Nat.reduceDiv, Nat.reduceMod, Int.reduceLE, Int.reduceLT, Int.reduceEq, Int.reduceNeg, Int.reduceAdd, Int.reduceSub, Int.reduceToNat, Nat.reducePow, *]; done))
    | (refine VW.condF ?_ ?_; focus (simp -implicitDefEqProofs only [eng, reduceIte, reduceCtorEq, Nat.reduceAdd, Nat.reduceMul, Nat.reduceSub, Nat.reduceEqDiff, Nat.reduceLeDiff, Nat.reduceLT, Nat.reduceDiv, Nat.reduceMod, Int.reduceLE, Int.reduceLT, Int.reduceEq, Int.reduceNeg, Int.reduceAdd, Int.reduceSub, Int.reduceToNat, Nat.reducePow, *]; done))
    | (apply VW.cond; focus (simp -implicitDefEqProofs only [eng, reduceIte, reduceCtorEq, Nat.reduceAdd, Nat.reduceMul, Nat.reduceSub, Nat.reduceEqDiff, Nat.reduceLeDiff, Nat.reduceLT, Nat.reduceDiv, Nat.reduceMod, Int.reduceLE, Int.reduceLT, Int.reduceEq, Int.reduceNeg, Int.reduceAdd, Int.reduceSub, Int.reduceToNat, Nat.reducePow, *]; rfl))
    | refine imp_nt ?_
    | refine imp_nf ?_
    | refine imp_dt (fun _ => ?_)
    | refine imp_df (fun _ => ?_)
    | (refine fun (_ : _ = true) => ?_)
    | (refine fun (_ : _ = false) => ?_)
    | (refine VW.ret ?_; simp -implicitDefEqProofs only [eng, reduceIte, reduceCtorEq, Nat.reduceAdd, Nat.reduceMul, Nat.reduceSub, Nat.reduceEqDiff, Nat.reduceLeDiff, Nat.reduceLT, Nat.reduceDiv, Nat.reduceMod, Int.reduceLE, Int.reduceLT, Int.reduceEq, Int.reduceNeg, Int.reduceAdd, Int.reduceSub, Int.reduceToNat, Nat.reducePow])
    | refine vg_t ?_ ?_
    | refine vg_f ?_ ?_
    | (show goA _ _ _ _ _ _ _ _ _ _; simp -implicitDefEqProofs only [eng, reduceIte, reduceCtorEq, Nat.reduceAdd, Nat.reduceMul, Nat.reduceSub, Nat.reduceEqDiff, Nat.reduceLeDiff, Nat.reduceLT, Nat.reduceDiv, Nat.reduceMod, Int.reduceLE, Int.reduceLT, Int.reduceEq, Int.reduceNeg, Int.reduceAdd, Int.reduceSub, Int.reduceToNat, Nat.reducePow, *])
    | (show goB _ _ _ _ _ _ _ _ _; simp -implicitDefEqProofs only [eng, reduceIte, reduceCtorEq, Nat.reduceAdd, Nat.reduceMul, Nat.reduceSub, Nat.reduceEqDiff, Nat.reduceLeDiff, Nat.reduceLT, Nat.reduceDiv, Nat.reduceMod, Int.reduceLE, Int.reduceLT, Int.reduceEq, Int.reduceNeg, Int.reduceAdd, Int.reduceSub, Int.reduceToNat, Nat.reducePow, *])
    | (show goAD _ _ _ _ _ _ _ _ _ _ _ _; simp -implicitDefEqProofs only [eng, reduceIte, reduceCtorEq, Nat.reduceAdd, Nat.reduceMul, Nat.reduceSub, Nat.reduceEqDiff, Nat.reduceLeDiff, Nat.reduceLT, Nat.reduceDiv, Nat.reduceMod, Int.reduceLE, Int.reduceLT, Int.reduceEq, Int.reduceNeg, Int.reduceAdd, Int.reduceSub, Int.reduceToNat, Nat.reducePow, *])
    | (show goBD _ _ _ _ _ _ _ _ _; simp -implicitDefEqProofs only [eng, reduceIte, reduceCtorEq, Nat.reduceAdd, Nat.reduceMul, Nat.reduceSub, Nat.reduceEqDiff, Nat.reduceLeDiff, Nat.reduceLT, Nat.reduceDiv, Nat.reduceMod, Int.reduceLE, Int.reduceLT, Int.reduceEq, Int.reduceNeg, Int.reduceAdd, Int.reduceSub, Int.reduceToNat, Nat.reducePow, *])
    | (refine VC.p1 (h16 _ _ _) rfl rfl ?_; simp -implicitDefEqProofs only [eng, reduceIte, reduceCtorEq, Nat.reduceAdd, Nat.reduceMul, Nat.reduceSub, Nat.reduceEqDiff, Nat.reduceLeDiff, Nat.reduceLT, Nat.reduceDiv, Nat.reduceMod, Int.reduceLE, Int.reduceLT, Int.reduceEq, Int.reduceNeg, Int.reduceAdd, Int.reduceSub, Int.reduceToNat, Nat.reducePow, *]))
    refine VW.forN had.length (J6 l had g [(x, y)] x y) 0 (Nat.zero_le _) ⟨by simp -implicitDefEqProofs only [eng, reduceIte, reduceCtorEq, Nat.reduceAdd, Nat.reduceMul, Nat.reduceSub, Nat.reduceEqDiff, Nat.reduceLeDiff, Nat.reduceLT, Nat.reduceDiv, Nat.reduceMod, Int.reduceLE, Int.reduceLT, Int.reduceEq, Int.reduceNeg, Int.reduceAdd, Int.reduceSub, Int.reduceToNat, Nat.reducePow], by simp -implicitDefEqProofs only [eng, reduceIte, reduceCtorEq, Nat.reduceAdd, Nat.reduceMul, Nat.reduceSub, Nat.reduceEqDiff, Nat.reduceLeDiff, Nat.reduceLT, Nat.reduceDiv, Nat.reduceMod, Int.reduceLE, Int.reduceLT, Int.reduceEq, Int.reduceNeg, Int.reduceAdd, Int.reduceSub, Int.reduceToNat, Nat.reducePow], by simp -implicitDefEqProofs only [eng, reduceIte, reduceCtorEq, Nat.reduceAdd, Nat.reduceMul, Nat.reduceSub, Nat.reduceEqDiff, Nat.reduceLeDiff, Nat.reduceLT, Nat.reduceDiv, Nat.reduceMod, Int.reduceLE, Int.reduceLT, Int.reduceEq, Int.reduceNeg, Int.reduceAdd, Int.reduceSub, Int.reduceToNat, Nat.reducePow], by simp -implicitDefEqProofs only [eng, reduceIte, reduceCtorEq, Nat.reduceAdd, Nat.reduceMul, Nat.reduceSub, Nat.reduceEqDiff, Nat.reduceLeDiff, Nat.reduceLT, Nat.reduceDiv, Nat.reduceMod, Int.reduceLE, Int.reduceLT, Int.reduceEq, Int.reduceNeg, Int.reduceAdd, Int.reduceSub, Int.reduceToNat, Nat.reducePow], by simp -implicitDefEqProofs only [eng, reduceIte, reduceCtorEq, Nat.reduceAdd, Nat.reduceMul, Nat.reduceSub, Nat.reduceEqDiff, Nat.reduceLeDiff, Nat.reduceLT, Nat.reduceDiv, Nat.reduceMod, Int.reduceLE, Int.reduceLT, Int.reduceEq, Int.reduceNeg, Int.reduceAdd, Int.reduceSub, Int.reduceToNat, Nat.reducePow]; rfl, ⟨_, by simp -implicitDefEqProofs only [eng, reduceIte, reduceCtorEq, Nat.reduceAdd, Nat.reduceMul, Nat.reduceSub, Nat.reduceEqDiff, Nat.reduceLeDiff, Nat.reduceLT, Nat.reduceDiv, Nat.reduceMod, Int.reduceLE, Int.reduceLT, Int.reduceEq, Int.reduceNeg, Int.reduceAdd, Int.reduceSub, Int.reduceToNat, Nat.reducePow]; rfl, by simp -implicitDefEqProofs only [eng, reduceIte, reduceCtorEq, Nat.reduceAdd, Nat.reduceMul, Nat.reduceSub, Nat.reduceEqDiff, Nat.reduceLeDiff, Nat.reduceLT, Nat.reduceDiv, Nat.reduceMod, Int.reduceLE, Int.reduceLT, Int.reduceEq, Int.reduceNeg, Int.reduceAdd, Int.reduceSub, Int.reduceToNat, Nat.reducePow, *] <;> rfl⟩⟩ ?_
    rintro i e m nx hi ⟨h0, h5, h6, h7, h8, ⟨k, h3, hm⟩⟩
    refine VW.below hm fun hlt => ?_
    obtain ⟨n1, n2, n3, n4, n5⟩ := below_ne hlt
    by_cases hin : i < had.length
    · have hin' : (i : Int) < had.length := by omega
      obtain ⟨s, hs⟩ := get_of hin
      have hs' : (sps had)[i]? = some [.int .i64 s.1, .int .i64 s.2] := by rw [sps_get, hs]; rfl
      have h00 : (0 : Int) ≤ i := by omega
      have htn : (i : Int).toNat = i := Int.toNat_natCast i
      have hw := i64_nat (n := i) (by omega)
      obtain ⟨hc1, hc2⟩ := hcov' s (List.mem_of_getElem? hs)
      have h26s := h26' s.1 s.2
      rw [hc1, hc2] at h26s
      simp only [decide_true, Bool.and_self] at h26s
      clear hcov' h26' hcnt' hc1 hc2
      repeat' (first
    | refine VW.seq ?_
    | refine VW.block ?_
    | (refine VW.skip ?_; simp -implicitDefEqProofs only [eng, reduceIte, reduceCtorEq, Nat.reduceAdd, Nat.reduceMul, Nat.reduceSub, Nat.reduceEqDiff, Nat.reduceLeDiff, Nat.reduceLT, Nat.reduceDiv, Nat.reduceMod, Int.reduceLE, Int.reduceLT, Int.reduceEq, Int.reduceNeg, Int.reduceAdd, Int.reduceSub, Int.reduceToNat, Nat.reducePow])
    | (refine VW.exit ?_; simp -implicitDefEqProofs only [eng, reduceIte, reduceCtorEq, Nat.reduceAdd, Nat.reduceMul, Nat.reduceSub, Nat.reduceEqDiff, Nat.reduceLeDiff, Nat.reduceLT, Nat.reduceDiv, Nat.reduceMod, Int.reduceLE, Int.reduceLT, Int.reduceEq, Int.reduceNeg, Int.reduceAdd, Int.reduceSub, Int.reduceToNat, Nat.reducePow])
    | (refine VW.reg ?_; simp -implicitDefEqProofs only [eng, reduceIte, reduceCtorEq, Nat.reduceAdd, Nat.reduceMul, Nat.reduceSub, Nat.reduceEqDiff, Nat.reduceLeDiff, Nat.reduceLT, Nat.reduceDiv, Nat.reduceMod, Int.reduceLE, Int.reduceLT, Int.reduceEq, Int.reduceNeg, Int.reduceAdd, Int.reduceSub, Int.reduceToNat, Nat.reducePow, *])
    | (refine VW.regD ?_; simp -implicitDefEqProofs only [eng, reduceIte, reduceCtorEq, Nat.reduceAdd, Nat.reduceMul, Nat.reduceSub, Nat.reduceEqDiff, Nat.reduceLeDiff, Nat.reduceLT, Nat.reduceDiv, Nat.reduceMod, Int.reduceLE, Int.reduceLT, Int.reduceEq, Int.reduceNeg, Int.reduceAdd, Int.reduceSub, Int.reduceToNat, Nat.reducePow, *])
    | (refine VW.condT ?_ ?_; focus (simp -implicitDefEqProofs only [eng, reduceIte, reduceCtorEq, Nat.reduceAdd, Nat.reduceMul, Nat.reduceSub, Nat.reduceEqDiff, Nat.reduceLeDiff, Nat.reduceLT, Nat.reduceDiv, Nat.reduceMod, Int.reduceLE, Int.reduceLT, Int.reduceEq, Int.reduceNeg, Int.reduceAdd, Int.reduceSub, Int.reduceToNat, Nat.reducePow, *]; done))
    | (refine VW.condF ?_ ?_; focus (simp -implicitDefEqProofs only [eng, reduceIte, reduceCtorEq, Nat.reduceAdd, Nat.reduceMul, Nat.reduceSub, Nat.reduceEqDiff, Nat.reduceLeDiff, Nat.reduceLT, Nat.reduceDiv, Nat.reduceMod, Int.reduceLE, Int.reduceLT, Int.reduceEq, Int.reduceNeg, Int.reduceAdd, Int.reduceSub, Int.reduceToNat, Nat.reducePow, *]; done))
    | (apply VW.cond; focus (simp -implicitDefEqProofs only [eng, reduceIte, reduceCtorEq, Nat.reduceAdd, Nat.reduceMul, Nat.reduceSub, Nat.reduceEqDiff, Nat.reduceLeDiff, Nat.reduceLT, Nat.reduceDiv, Nat.reduceMod, Int.reduceLE, Int.reduceLT, Int.reduceEq, Int.reduceNeg, Int.reduceAdd, Int.reduceSub, Int.reduceToNat, Nat.reducePow, *]; rfl))
    | refine imp_nt ?_
    | refine imp_nf ?_
    | refine imp_dt (fun _ => ?_)
    | refine imp_df (fun _ => ?_)
    | (refine fun (_ : _ = true) => ?_)
    | (refine fun (_ : _ = false) => ?_)
    | (refine VW.ret ?_; simp -implicitDefEqProofs only [eng, reduceIte, reduceCtorEq, Nat.reduceAdd, Nat.reduceMul, Nat.reduceSub, Nat.reduceEqDiff, Nat.reduceLeDiff, Nat.reduceLT, Nat.reduceDiv, Nat.reduceMod, Int.reduceLE, Int.reduceLT, Int.reduceEq, Int.reduceNeg, Int.reduceAdd, Int.reduceSub, Int.reduceToNat, Nat.reducePow])
    | refine vg_t ?_ ?_
    | refine vg_f ?_ ?_
    | (show goA _ _ _ _ _ _ _ _ _ _; simp -implicitDefEqProofs only [eng, reduceIte, reduceCtorEq, Nat.reduceAdd, Nat.reduceMul, Nat.reduceSub, Nat.reduceEqDiff, Nat.reduceLeDiff, Nat.reduceLT, Nat.reduceDiv, Nat.reduceMod, Int.reduceLE, Int.reduceLT, Int.reduceEq, Int.reduceNeg, Int.reduceAdd, Int.reduceSub, Int.reduceToNat, Nat.reducePow, *])
    | (show goB _ _ _ _ _ _ _ _ _; simp -implicitDefEqProofs only [eng, reduceIte, reduceCtorEq, Nat.reduceAdd, Nat.reduceMul, Nat.reduceSub, Nat.reduceEqDiff, Nat.reduceLeDiff, Nat.reduceLT, Nat.reduceDiv, Nat.reduceMod, Int.reduceLE, Int.reduceLT, Int.reduceEq, Int.reduceNeg, Int.reduceAdd, Int.reduceSub, Int.reduceToNat, Nat.reducePow, *])
    | (show goAD _ _ _ _ _ _ _ _ _ _ _ _; simp -implicitDefEqProofs only [eng, reduceIte, reduceCtorEq, Nat.reduceAdd, Nat.reduceMul, Nat.reduceSub, Nat.reduceEqDiff, Nat.reduceLeDiff, Nat.reduceLT, Nat.reduceDiv, Nat.reduceMod, Int.reduceLE, Int.reduceLT, Int.reduceEq, Int.reduceNeg, Int.reduceAdd, Int.reduceSub, Int.reduceToNat, Nat.reducePow, *])
    | (show goBD _ _ _ _ _ _ _ _ _; simp -implicitDefEqProofs only [eng, reduceIte, reduceCtorEq, Nat.reduceAdd, Nat.reduceMul, Nat.reduceSub, Nat.reduceEqDiff, Nat.reduceLeDiff, Nat.reduceLT, Nat.reduceDiv, Nat.reduceMod, Int.reduceLE, Int.reduceLT, Int.reduceEq, Int.reduceNeg, Int.reduceAdd, Int.reduceSub, Int.reduceToNat, Nat.reducePow, *])
    | (refine VC.p2 (h26s _) rfl rfl rfl rfl ?_; simp -implicitDefEqProofs only [eng, reduceIte, reduceCtorEq, Nat.reduceAdd, Nat.reduceMul, Nat.reduceSub, Nat.reduceEqDiff, Nat.reduceLeDiff, Nat.reduceLT, Nat.reduceDiv, Nat.reduceMod, Int.reduceLE, Int.reduceLT, Int.reduceEq, Int.reduceNeg, Int.reduceAdd, Int.reduceSub, Int.reduceToNat, Nat.reducePow, *]))
      exact ⟨by simp -implicitDefEqProofs only [eng, reduceIte, reduceCtorEq, Nat.reduceAdd, Nat.reduceMul, Nat.reduceSub, Nat.reduceEqDiff, Nat.reduceLeDiff, Nat.reduceLT, Nat.reduceDiv, Nat.reduceMod, Int.reduceLE, Int.reduceLT, Int.reduceEq, Int.reduceNeg, Int.reduceAdd, Int.reduceSub, Int.reduceToNat, Nat.reducePow, *], by simp -implicitDefEqProofs only [eng, reduceIte, reduceCtorEq, Nat.reduceAdd, Nat.reduceMul, Nat.reduceSub, Nat.reduceEqDiff, Nat.reduceLeDiff, Nat.reduceLT, Nat.reduceDiv, Nat.reduceMod, Int.reduceLE, Int.reduceLT, Int.reduceEq, Int.reduceNeg, Int.reduceAdd, Int.reduceSub, Int.reduceToNat, Nat.reducePow, *], by simp -implicitDefEqProofs only [eng, reduceIte, reduceCtorEq, Nat.reduceAdd, Nat.reduceMul, Nat.reduceSub, Nat.reduceEqDiff, Nat.reduceLeDiff, Nat.reduceLT, Nat.reduceDiv, Nat.reduceMod, Int.reduceLE, Int.reduceLT, Int.reduceEq, Int.reduceNeg, Int.reduceAdd, Int.reduceSub, Int.reduceToNat, Nat.reducePow, *], by simp -implicitDefEqProofs only [eng, reduceIte, reduceCtorEq, Nat.reduceAdd, Nat.reduceMul, Nat.reduceSub, Nat.reduceEqDiff, Nat.reduceLeDiff, Nat.reduceLT, Nat.reduceDiv, Nat.reduceMod, Int.reduceLE, Int.reduceLT, Int.reduceEq, Int.reduceNeg, Int.reduceAdd, Int.reduceSub, Int.reduceToNat, Nat.reducePow, *], by simp -implicitDefEqProofs only [eng, reduceIte, reduceCtorEq, Nat.reduceAdd, Nat.reduceMul, Nat.reduceSub, Nat.reduceEqDiff, Nat.reduceLeDiff, Nat.reduceLT, Nat.reduceDiv, Nat.reduceMod, Int.reduceLE, Int.reduceLT, Int.reduceEq, Int.reduceNeg, Int.reduceAdd, Int.reduceSub, Int.reduceToNat, Nat.reducePow, *], ⟨_, by simp -implicitDefEqProofs only [eng, reduceIte, reduceCtorEq, Nat.reduceAdd, Nat.reduceMul, Nat.reduceSub, Nat.reduceEqDiff, Nat.reduceLeDiff, Nat.reduceLT, Nat.reduceDiv, Nat.reduceMod, Int.reduceLE, Int.reduceLT, Int.reduceEq, Int.reduceNeg, Int.reduceAdd, Int.reduceSub, Int.reduceToNat, Nat.reducePow, *]; rfl, by simp -implicitDefEqProofs only [eng, reduceIte, reduceCtorEq, Nat.reduceAdd, Nat.reduceMul, Nat.reduceSub, Nat.reduceEqDiff, Nat.reduceLeDiff, Nat.reduceLT, Nat.reduceDiv, Nat.reduceMod, Int.reduceLE, Int.reduceLT, Int.reduceEq, Int.reduceNeg, Int.reduceAdd, Int.reduceSub, Int.reduceToNat, Nat.reducePow, *]⟩⟩
    · have hin' : ¬ (i : Int) < had.length := by omega
      have z1 : ((1 : Nat) : Int) = 1 := rfl
      clear hcov' h26'
      simp -implicitDefEqProofs only [sps, isp, eng, reduceIte, reduceCtorEq, Nat.reduceAdd, Nat.reduceMul, Nat.reduceSub, Nat.reduceEqDiff, Nat.reduceLeDiff, Nat.reduceLT, Nat.reduceDiv, Nat.reduceMod, Int.reduceLE, Int.reduceLT, Int.reduceEq, Int.reduceNeg, Int.reduceAdd, Int.reduceSub, Int.reduceToNat, Nat.reducePow] at h7
      repeat' (first
    | refine VW.seq ?_
    | refine VW.block ?_
    | (refine VW.skip ?_; simp -implicitDefEqProofs only [eng, reduceIte, reduceCtorEq, Nat.reduceAdd, Nat.reduceMul, Nat.reduceSub, Nat.reduceEqDiff, Nat.reduceLeDiff, Nat.reduceLT, Nat.reduceDiv, Nat.reduceMod, Int.reduceLE, Int.reduceLT, Int.reduceEq, Int.reduceNeg, Int.reduceAdd, Int.reduceSub, Int.reduceToNat, Nat.reducePow])
    | (refine VW.exit ?_; simp -implicitDefEqProofs only [eng, reduceIte, reduceCtorEq, Nat.reduceAdd, Nat.reduceMul, Nat.reduceSub, Nat.reduceEqDiff, Nat.reduceLeDiff, Nat.reduceLT, Nat.reduceDiv, Nat.reduceMod, Int.reduceLE, Int.reduceLT, Int.reduceEq, Int.reduceNeg, Int.reduceAdd, Int.reduceSub, Int.reduceToNat, Nat.reducePow])
    | (refine VW.reg ?_; simp -implicitDefEqProofs only [eng, reduceIte, reduceCtorEq, Nat.reduceAdd, Nat.reduceMul, Nat.reduceSub, Nat.reduceEqDiff, Nat.reduceLeDiff, Nat.reduceLT, Nat.reduceDiv, Nat.reduceMod, Int.reduceLE, Int.reduceLT, Int.reduceEq, Int.reduceNeg, Int.reduceAdd, Int.reduceSub, Int.reduceToNat, Nat.reducePow, *])
    | (refine VW.regD ?_; simp -implicitDefEqProofs only [eng, reduceIte, reduceCtorEq, Nat.reduceAdd, Nat.reduceMul, Nat.reduceSub, Nat.reduceEqDiff, Nat.reduceLeDiff, Nat.reduceLT, Nat.reduceDiv, Nat.reduceMod, Int.reduceLE, Int.reduceLT, Int.reduceEq, Int.reduceNeg, Int.reduceAdd, Int.reduceSub, Int.reduceToNat, Nat.reducePow, *])
    | (refine VW.condT ?_ ?_; focus (simp -implicitDefEqProofs only [eng, reduceIte, reduceCtorEq, Nat.reduceAdd, Nat.reduceMul, Nat.reduceSub, Nat.reduceEqDiff, Nat.reduceLeDiff, Nat.reduceLT, Nat.reduceDiv, Nat.reduceMod, Int.reduceLE, Int.reduceLT, Int.reduceEq, Int.reduceNeg, Int.reduceAdd, Int.reduceSub, Int.reduceToNat, Nat.reducePow, *]; done))
    | (refine VW.condF ?_ ?_; focus (simp -implicitDefEqProofs only [eng, reduceIte, reduceCtorEq, Nat.reduceAdd, Nat.reduceMul, Nat.reduceSub, Nat.reduceEqDiff, Nat.reduceLeDiff, Nat.reduceLT, Nat.reduceDiv, Nat.reduceMod, Int.reduceLE, Int.reduceLT, Int.reduceEq, Int.reduceNeg, Int.reduceAdd, Int.reduceSub, Int.reduceToNat, Nat.reducePow, *]; done))
    | (apply VW.cond; focus (simp -implicitDefEqProofs only [eng, reduceIte, reduceCtorEq, Nat.reduceAdd, Nat.reduceMul, Nat.reduceSub, Nat.reduceEqDiff, Nat.reduceLeDiff, Nat.reduceLT, Nat.reduceDiv, Nat.reduceMod, Int.reduceLE, Int.reduceLT, Int.reduceEq, Int.reduceNeg, Int.reduceAdd, Int.reduceSub, Int.reduceToNat, Nat.reducePow, *]; rfl))
    | refine imp_nt ?_
    | refine imp_nf ?_
    | refine imp_dt (fun _ => ?_)
    | refine imp_df (fun _ => ?_)
    | (refine fun (_ : _ = true) => ?_)
    | (refine fun (_ : _ = false) => ?_)
    | (refine VW.ret ?_; simp -implicitDefEqProofs only [eng, reduceIte, reduceCtorEq, Nat.reduceAdd, Nat.reduceMul, Nat.reduceSub, Nat.reduceEqDiff, Nat.reduceLeDiff, Nat.reduceLT, Nat.reduceDiv, Nat.reduceMod, Int.reduceLE, Int.reduceLT, Int.reduceEq, Int.reduceNeg, Int.reduceAdd, Int.reduceSub, Int.reduceToNat, Nat.reducePow])
    | refine vg_t ?_ ?_
    | refine vg_f ?_ ?_
    | (show goA _ _ _ _ _ _ _ _ _ _; simp -implicitDefEqProofs only [eng, reduceIte, reduceCtorEq, Nat.reduceAdd, Nat.reduceMul, Nat.reduceSub, Nat.reduceEqDiff, Nat.reduceLeDiff, Nat.reduceLT, Nat.reduceDiv, Nat.reduceMod, Int.reduceLE, Int.reduceLT, Int.reduceEq, Int.reduceNeg, Int.reduceAdd, Int.reduceSub, Int.reduceToNat, Nat.reducePow, *])
    | (show goB _ _ _ _ _ _ _ _ _; simp -implicitDefEqProofs only [eng, reduceIte, reduceCtorEq, Nat.reduceAdd, Nat.reduceMul, Nat.reduceSub, Nat.reduceEqDiff, Nat.reduceLeDiff, Nat.reduceLT, Nat.reduceDiv, Nat.reduceMod, Int.reduceLE, Int.reduceLT, Int.reduceEq, Int.reduceNeg, Int.reduceAdd, Int.reduceSub, Int.reduceToNat, Nat.reducePow, *])
    | (show goAD _ _ _ _ _ _ _ _ _ _ _ _; simp -implicitDefEqProofs only [eng, reduceIte, reduceCtorEq, Nat.reduceAdd, Nat.reduceMul, Nat.reduceSub, Nat.reduceEqDiff, Nat.reduceLeDiff, Nat.reduceLT, Nat.reduceDiv, Nat.reduceMod, Int.reduceLE, Int.reduceLT, Int.reduceEq, Int.reduceNeg, Int.reduceAdd, Int.reduceSub, Int.reduceToNat, Nat.reducePow, *])
    | (show goBD _ _ _ _ _ _ _ _ _; simp -implicitDefEqProofs only [eng, reduceIte, reduceCtorEq, Nat.reduceAdd, Nat.reduceMul, Nat.reduceSub, Nat.reduceEqDiff, Nat.reduceLeDiff, Nat.reduceLT, Nat.reduceDiv, Nat.reduceMod, Int.reduceLE, Int.reduceLT, Int.reduceEq, Int.reduceNeg, Int.reduceAdd, Int.reduceSub, Int.reduceToNat, Nat.reducePow, *])
    | (refine VC.p0 (h12 _) ?_; simp -implicitDefEqProofs only [eng, reduceIte, reduceCtorEq, Nat.reduceAdd, Nat.reduceMul, Nat.reduceSub, Nat.reduceEqDiff, Nat.reduceLeDiff, Nat.reduceLT, Nat.reduceDiv, Nat.reduceMod, Int.reduceLE, Int.reduceLT, Int.reduceEq, Int.reduceNeg, Int.reduceAdd, Int.reduceSub, Int.reduceToNat, Nat.reducePow, *])
    | (refine VC.p1 (h27g _) rfl rfl ?_; simp -implicitDefEqProofs only [eng, reduceIte, reduceCtorEq, Nat.reduceAdd, Nat.reduceMul, Nat.reduceSub, Nat.reduceEqDiff, Nat.reduceLeDiff, Nat.reduceLT, Nat.reduceDiv, Nat.reduceMod, Int.reduceLE, Int.reduceLT, Int.reduceEq, Int.reduceNeg, Int.reduceAdd, Int.reduceSub, Int.reduceToNat, Nat.reducePow, *])
    | (refine VC.p1 (h27h _) rfl rfl ?_; simp -implicitDefEqProofs only [eng, reduceIte, reduceCtorEq, Nat.reduceAdd, Nat.reduceMul, Nat.reduceSub, Nat.reduceEqDiff, Nat.reduceLeDiff, Nat.reduceLT, Nat.reduceDiv, Nat.reduceMod, Int.reduceLE, Int.reduceLT, Int.reduceEq, Int.reduceNeg, Int.reduceAdd, Int.reduceSub, Int.reduceToNat, Nat.reducePow, *]))
      exact .tmp1 (by simp -implicitDefEqProofs only [eng, reduceIte, reduceCtorEq, Nat.reduceAdd, Nat.reduceMul, Nat.reduceSub, Nat.reduceEqDiff, Nat.reduceLeDiff, Nat.reduceLT, Nat.reduceDiv, Nat.reduceMod, Int.reduceLE, Int.reduceLT, Int.reduceEq, Int.reduceNeg, Int.reduceAdd, Int.reduceSub, Int.reduceToNat, Nat.reducePow, *]) rfl
end
theorem v6 (l : List Sp) (x y : Int) (b : Nat) : V Try.prog 6 [.sl (sps l), asp x y] mt b (.bool true) mt := V.code mixed k6 (by simp) (w6 v10 v11 v12 v16 v25 v26 v27 l x y b)
end Go.Vx
