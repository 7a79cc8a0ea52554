/- The engine, part 20: code that is turned does what is said of it; contracts out of code. -/
import Derived.Test.YtfeobpjoifffiaaGC
import Derived.Laws.Sem
import GoSem.ClaimChange
import Derived.ProofKit
import Derived.Shelf.Sort.Plain
import Derived.Shelf.Slices.In.SortNone
import Derived.Shelf.SlSortCmp.NoneTotal
import Derived.Shelf.Slices.CompactI
set_option linter.unusedVariables false
set_option linter.unusedSimpArgs false
namespace Go.Vx
open Go Go.RowKit

section
variable {P : Program} {F : Fr}

theorem anc_edges {o : Oper} {xs : List XOp} {j : Nat} (h : InA j (ancEdges o xs)) : ∃ ed, ed ∈ o.after.toList ∧ Region.binds .any ed = true ∧ (ed.on = j ∨ ∃ Y, xs[ed.on]? = some Y ∧ InA j Y.anc) := by
  unfold ancEdges at h
  have key : ∀ (l : List Edge) (s : Nat), InA j (l.foldl (fun s ed => if Region.binds .any ed then s ||| (2 ^ ed.on ||| ancOf xs ed.on) else s) s) →
      InA j s ∨ ∃ ed ∈ l, Region.binds .any ed = true ∧ (ed.on = j ∨ ∃ Y, xs[ed.on]? = some Y ∧ InA j Y.anc) := by
    intro l
    induction l with
    | nil => intro s h; exact .inl h
    | cons ed l ih =>
      intro s h
      rcases ih _ h with h | ⟨ed', hm, h⟩
      · dsimp only at h
        split at h
        · rename_i hb
          simp only [InA, Nat.testBit_or, Bool.or_eq_true] at h
          rcases h with h | h | h
          · exact .inl h
          · refine .inr ⟨ed, List.mem_cons_self, hb, .inl ?_⟩
            rw [Nat.testBit_two_pow] at h
            simpa using h
          · refine .inr ⟨ed, List.mem_cons_self, hb, .inr ?_⟩
            unfold ancOf at h
            split at h
            · rename_i Y hY; exact ⟨Y, hY, h⟩
            · simp at h
        · exact .inl h
      · exact .inr ⟨ed', List.mem_cons_of_mem _ hm, h⟩
  rcases key _ _ h with h | ⟨ed, hm, h⟩
  · simp [InA] at h
  · exact ⟨ed, hm, h⟩

theorem mks_mem {xs : List XOp} {q : Nat} {Z : XOp} (hZ : xs[q]? = some Z) (hm : Z.xi.mk = true) : InA q (mks xs) := by
  unfold mks
  have keep : ∀ (l : List (XOp × Nat)) (s : Nat), InA q s → InA q (l.foldl (fun s (x, i) => if x.xi.mk then s ||| 2 ^ i else s) s) := by
    intro l
    induction l with
    | nil => intro s h; exact h
    | cons x l ih =>
      intro s h
      refine ih _ ?_
      dsimp only
      split
      · simp only [InA, Nat.testBit_or, Bool.or_eq_true]; exact .inl h
      · exact h
  have key : ∀ (l : List (XOp × Nat)) (s : Nat), (Z, q) ∈ l → InA q (l.foldl (fun s (x, i) => if x.xi.mk then s ||| 2 ^ i else s) s) := by
    intro l
    induction l with
    | nil => intro s h; cases h
    | cons x l ih =>
      intro s h
      rcases List.mem_cons.1 h with h | h
      · subst h
        refine keep l _ ?_
        dsimp only
        rw [if_pos hm]
        simp only [InA, Nat.testBit_or, Bool.or_eq_true, Nat.testBit_two_pow_self, or_true]
      · exact ih _ h
  exact key _ _ (by rw [List.mem_zipIdx_iff_getElem?]; simpa using hZ)

theorem okD_ord {ops : Array Oper} {xs : List XOp} (h : okD ops xs = true) : OrdOk ops xs := by
  simp only [okD, Bool.and_eq_true, beq_iff_eq] at h
  obtain ⟨hlen, hall⟩ := h
  have hat : ∀ (i : Nat) X o, xs[i]? = some X → ops[i]? = some o → okAt ops xs i X o = true := by
    intro i X o hX ho
    have hz : (xs.zip ops.toList)[i]? = some (X, o) := by
      rw [List.getElem?_zip_eq_some]
      exact ⟨hX, by simpa using ho⟩
    have hm : ((X, o), i) ∈ (xs.zip ops.toList).zipIdx := by
      rw [List.mem_zipIdx_iff_getElem?]
      simpa using hz
    exact List.all_eq_true.1 hall _ hm
  have hops : ∀ (i : Nat) X, xs[i]? = some X → ∃ o, ops[i]? = some o := fun i X hX => by
    have : i < ops.size := by rw [← hlen]; exact (List.getElem?_eq_some_iff.1 hX).1
    exact ⟨ops[i], by simp [this]⟩
  have hxs : ∀ (i : Nat) o, ops[i]? = some o → ∃ X, xs[i]? = some X := fun i o ho => by
    have h1 : i < ops.size := by
      rcases Nat.lt_or_ge i ops.size with h | h
      · exact h
      · simp [Array.getElem?_eq_none h] at ho
    have : i < xs.length := by rw [hlen]; exact h1
    exact ⟨xs[i], by simp⟩
  have hpair : ∀ (i j : Nat) X Y, xs[i]? = some X → xs[j]? = some Y → i ≠ j → okPair i j X Y = true := fun i j X Y hX hY hne => by
    obtain ⟨o, ho⟩ := hops i X hX
    have h := hat i X o hX ho
    simp only [okAt, Bool.and_eq_true] at h
    have hm : (Y, j) ∈ xs.zipIdx := by rw [List.mem_zipIdx_iff_getElem?]; simpa using hY
    have := List.all_eq_true.1 h.2 _ hm
    simpa [hne] using this
  refine ⟨hlen, fun i o ho ed hed hb => ?_, fun i X hX j hj => ?_, fun i X hX hw => ?_, fun i j X Y hX hY hne hiL hty q Z hZ hmk hqX hqY => ?_, fun i j X Y t hX hY hne hd => ?_, fun i j X Y t hX hY hne hd hl => ?_, fun i j X Y hX hY hsf hlt hty => ?_, fun i j X Y hX hY hne hb ht hty => ?_⟩
  · obtain ⟨X, hX⟩ := hxs i o ho
    have h := hat i X o hX ho
    simp only [okAt, Bool.and_eq_true] at h
    have := List.all_eq_true.1 h.1.1.1.1.1 ed hed
    simpa [hb] using this
  · obtain ⟨o, ho⟩ := hops i X hX
    have h := hat i X o hX ho
    simp only [okAt, Bool.and_eq_true, beq_iff_eq] at h
    rw [h.1.1.1.1.2] at hj
    obtain ⟨ed, h1, h2, h3⟩ := anc_edges hj
    exact ⟨o, ed, ho, h1, h2, h3⟩
  · obtain ⟨o, ho⟩ := hops i X hX
    have h := hat i X o hX ho
    simp only [okAt, Bool.and_eq_true] at h
    have := h.1.1.1.2
    simpa [hw] using this
  · obtain ⟨o, ho⟩ := hops i X hX
    have h := hat i X o hX ho
    simp only [okAt, Bool.and_eq_true] at h
    have hm : (Y, j) ∈ xs.zipIdx := by rw [List.mem_zipIdx_iff_getElem?]; simpa using hY
    have h2 := List.all_eq_true.1 h.1.1.2 _ hm
    have hne' : (i == j) = false := by simpa using hne
    simp only [hne', Bool.false_or, okLoc, hiL, hty, Bool.not_true, Bool.or_eq_true, beq_iff_eq] at h2
    rcases h2 with (h2 | h2) | h2
    · exfalso
      have hb : (X.anc &&& Y.anc &&& mks xs).testBit q = true := by
        simp only [Nat.testBit_and, Bool.and_eq_true]
        exact ⟨⟨hqX, hqY⟩, mks_mem hZ hmk⟩
      rw [h2] at hb
      simp at hb
    · exact .inl h2
    · exact .inr h2
  · have h := hpair i j X Y hX hY hne
    simp only [okPair, hd, Bool.and_eq_true, decide_eq_true_eq] at h
    exact h.1.1.1
  · have h := hpair i j X Y hX hY hne
    simp only [okPair, hd, Bool.and_eq_true] at h
    have := h.1.1.2
    simp only [Bool.or_eq_true, Bool.not_eq_true', Bool.and_eq_true, decide_eq_true_eq] at this
    rcases this with (h | h) | h
    · simp [hl] at h
    · exact .inl h
    · exact .inr h
  · have h := hpair i j X Y hX hY (by omega)
    simp only [okPair, Bool.and_eq_true] at h
    have := h.2
    simp only [Bool.or_eq_true, Bool.not_eq_true', hsf, hty, reduceCtorEq, false_or, or_false, decide_eq_false_iff_not] at this
    exact this.resolve_left (by omega)
  · have h := hpair i j X Y hX hY hne
    simp only [okPair, Bool.and_eq_true] at h
    have := h.1.2
    simp only [Bool.or_eq_true, Bool.not_eq_true', hb, ht, hty, reduceCtorEq, false_or] at this
    exact this

theorem orders_get {ops : Array Oper} {l : List XOp} {i : Nat} {X : XOp} (h : (orders ops l)[i]? = some X) : ∃ Y, l[i]? = some Y ∧ (X.xi = Y.xi ∨ X.xi = Y.xi.own) ∧ X.dst = Y.dst ∧ X.guard = Y.guard := by
  simp only [orders, List.getElem?_map, List.getElem?_zipIdx, Option.map_map, Option.map_eq_some_iff] at h
  obtain ⟨Y, hY, rfl⟩ := h
  have key : ∀ (c : Bool) (x y : XI), (if c = true then x else y) = x ∨ (if c = true then x else y) = y := fun c x y => by cases c <;> simp
  exact ⟨Y, hY, key _ _ _, rfl, rfl⟩

theorem parts_of {ops : Array Oper} {l : List XOp} (h : ops.toList.mapM (compOp P F.n ops) = some l) : Parts P F.n ops (orders ops l) := by
  intro i o X ho hX
  obtain ⟨Y, hY, h1, h2, h3⟩ := orders_get hX
  have := (mapM_some h).2 i o Y (by simpa using ho) hY
  simp only [compOp, Option.bind_eq_some_iff] at this
  obtain ⟨g, hg, hc⟩ := this
  split at hc
  case isFalse => cases hc
  rename_i hd
  injection hc with hc; subst hc
  rw [h2, h3]
  refine ⟨?_, hg, rfl, hd⟩
  rcases h1 with h1 | h1
  · rw [h1]; exact turned
  · rw [h1]; exact turned_own turned

/-- What was there lies where it lay. -/
def Held (F : Fr) (β : Ids) (nx : Nat) : Prop := F.b0 ≤ nx ∧ ∀ id, id < F.b0 → β id = F.β0 id

/-- The state at an exit. -/
def AtX (F : Fr) (Q : Post) (x : Exit) (a : Act) (w : World) : Prop :=
  ∃ e m nx β ok, Sat0 F β ok e m a w ∧ (∀ id, nx ≤ id → β id = none) ∧ Held F β nx ∧
    match x with
    | .normal => Q .normal e m nx
    | .exit i => Q (.exit i) e m nx
    | .ret => Q .ret e m nx
    | _ => False

/-- **What turned code does from a state on.** -/
def VW (P : Program) (x : XCode) (Q : Post) (e : Env) (m : Mem) (nx : Nat) : Prop :=
  ∀ (ro : Option Nat) (F : Fr) (c : Code) (β : Ids) (ok : Nat → Prop) (a : Act) (w : World), P.follows .mixedOrders = true → (ro = none ∨ x.flat = true) → compC P F.n c = some x → Sat0 F β ok e m a w → (∀ id, nx ≤ id → β id = none) → Held F β nx → c.wpIn (wf ro) 0 P (AtX F Q) a w

variable {Q : Post} {e : Env} {m : Mem} {nx : Nat}

theorem compC_inv {n : Nat} {c : Code} {x : XCode} (h : compC P n c = some x) :
    match x with
    | .skip => c = .skip
    | .reg ops => ∃ id os, c = .region id os false ∧ os.toList.mapM (compOp P n os) = some ops
    | .regD ops => ∃ id os l, c = .region id os true ∧ os.toList.mapM (compOp P n os) = some l ∧ okD os (orders os l) = true ∧ ops = orders os l
    | .seq a b => ∃ ca cb, c = .seq ca cb ∧ compC P n ca = some a ∧ compC P n cb = some b
    | .cond y a b => ∃ oy ca cb, c = .cond oy ca cb ∧ cA oy = some y ∧ compC P n ca = some a ∧ compC P n cb = some b
    | .block i a => ∃ ca, c = .block i ca ∧ compC P n ca = some a
    | .loop a => ∃ ca, c = .loop ca ∧ compC P n ca = some a
    | .rangeF g ps a b => ∃ og pa ca cb, c = .rangeFunc og pa ca cb ∧ cA og = some g ∧ pa.toList = ps ∧ (∀ t ∈ ps, t < n) ∧ compC P n ca = some a ∧ compC P n cb = some b
    | .exit i => c = .exit i
    | .ret => c = .ret
    | .stop => True := by
  cases c with
  | skip => simp only [compC, Option.some.injEq] at h; subst h; rfl
  | region id os d =>
    simp only [compC, Option.bind_eq_some_iff] at h
    obtain ⟨l, hl, h⟩ := h
    cases d with
    | false => simp at h; subst h; exact ⟨id, os, rfl, hl⟩
    | true =>
      simp only [if_true] at h
      split at h
      case isFalse => injection h with h; subst h; trivial
      rename_i hok
      injection h with h; subst h
      exact ⟨id, os, l, rfl, hl, hok, rfl⟩
  | seq a b =>
    simp only [compC, Option.bind_eq_some_iff, Option.map_eq_some_iff] at h
    obtain ⟨x, hx, y, hy, rfl⟩ := h; exact ⟨a, b, rfl, hx, hy⟩
  | cond y a b =>
    simp only [compC, Option.bind_eq_some_iff, Option.map_eq_some_iff] at h
    obtain ⟨c, hc, x, hx, y', hy, rfl⟩ := h; exact ⟨y, a, b, rfl, hc, hx, hy⟩
  | block i a =>
    simp only [compC, Option.map_eq_some_iff] at h
    obtain ⟨x, hx, rfl⟩ := h; exact ⟨a, rfl, hx⟩
  | loop a =>
    simp only [compC, Option.map_eq_some_iff] at h
    obtain ⟨x, hx, rfl⟩ := h; exact ⟨a, rfl, hx⟩
  | exit i => simp only [compC, Option.some.injEq] at h; subst h; rfl
  | ret => simp only [compC, Option.some.injEq] at h; subst h; rfl
  | rangeFunc og pa ca cb =>
    simp only [compC] at h
    split at h
    case isFalse => injection h with h; subst h; trivial
    rename_i hall
    simp only [Option.bind_eq_some_iff, Option.map_eq_some_iff] at h
    obtain ⟨g, hg, x, hx, y, hy, rfl⟩ := h
    exact ⟨og, pa, ca, cb, rfl, hg, rfl, fun t ht => by simpa using List.all_eq_true.1 hall t ht, hx, hy⟩
  | _ => simp only [compC, Option.some.injEq] at h; subst h; trivial

theorem VW.skip (h : Q .normal e m nx) : VW P .skip Q e m nx := by
  intro ro F c β ok a w hm hro hc hs hf hd
  have := compC_inv hc; dsimp only at this; subst this
  exact wpIn_skip ⟨e, m, nx, β, ok, hs, hf, hd, h⟩
theorem VW.exit {i : Nat} (h : Q (.exit i) e m nx) : VW P (.exit i) Q e m nx := by
  intro ro F c β ok a w hm hro hc hs hf hd
  have := compC_inv hc; dsimp only at this; subst this
  exact wpIn_exit ⟨e, m, nx, β, ok, hs, hf, hd, h⟩
theorem VW.ret (h : Q .ret e m nx) : VW P .ret Q e m nx := by
  intro ro F c β ok a w hm hro hc hs hf hd
  have := compC_inv hc; dsimp only at this; subst this
  exact wpIn_ret ⟨e, m, nx, β, ok, hs, hf, hd, h⟩

theorem VW.reg {ops : List XOp} (h : vops P nx 0 ops e m fun e' m' => Q .normal e' m' (nx + 8 * ops.length)) : VW P (.reg ops) Q e m nx := by
  intro ro F c β ok a w hm hro hc hs hf hd
  obtain ⟨id, os, rfl, hl⟩ := compC_inv hc
  refine wpIn_region ?_
  rw [List.range_eq_range']
  exact reg_sound hl (K := fun e' m' => Q .normal e' m' (nx + 8 * ops.length)) hd.1 (fun e' m' β' ok' a' w' hs' hf' hd' hk => ⟨e', m', _, β', ok', hs', hf', ⟨Nat.le_trans hd.1 (Nat.le_add_right _ _), hd'⟩, hk⟩) os.size 0 e m β ok a w (by omega) hs (fun id hid => hf id (by omega)) hd.2 h

theorem VW.regD {ops : List XOp} (h : vopsD P nx 0 [] ops e m fun e' m' => Q .normal e' m' (nx + 8 * ops.length)) : VW P (.regD ops) Q e m nx := by
  intro ro F c β ok a w hm hro hc hs hf hd
  obtain ⟨id, os, l, rfl, hl, hok, rfl⟩ := compC_inv hc
  exact regD_sound hm (okD_ord hok) (parts_of hl) (K := fun e' m' => Q .normal e' m' (nx + 8 * (orders os l).length)) hd.1 (fun e' m' β' ok' a' w' hs' hf' hd' hk => ⟨e', m', _, β', ok', hs', hf', ⟨Nat.le_trans hd.1 (Nat.le_add_right _ _), hd'⟩, hk⟩) hs hf hd.2 h

theorem VW.seq {x y : XCode} (h : VW P x (Post.then (VW P y Q) Q) e m nx) : VW P (.seq x y) Q e m nx := by
  intro ro F c β ok a w hm hro hc hs hf hd
  obtain ⟨ca, cb, rfl, h1, h2⟩ := compC_inv hc
  refine wpIn_seq (wpIn_mono (h ro F ca β ok a w hm (hro.imp (fun h => h) fun h => ((Bool.and_eq_true _ _).mp h).1) h1 hs hf hd) ?_)
  rintro ex a' w' ⟨e', m', nx', β', ok', hs', hf', hd', hq⟩
  cases ex with
  | normal => exact hq ro F cb β' ok' a' w' hm (hro.imp (fun h => h) fun h => ((Bool.and_eq_true _ _).mp h).2) h2 hs' hf' hd'
  | exit i => exact ⟨e', m', nx', β', ok', hs', hf', hd', hq⟩
  | ret => exact ⟨e', m', nx', β', ok', hs', hf', hd', hq⟩
  | goto l => exact hq.elim
  | panic ch => exact hq.elim
  | outgrown => exact hq.elim

theorem VW.cond {y : XA} {t : Bool} {x1 x2 : XCode} (hy : y.ev e = some (.bool t)) (h1 : t = true → VW P x1 Q e m nx) (h2 : t = false → VW P x2 Q e m nx) : VW P (.cond y x1 x2) Q e m nx := by
  intro ro F c β ok a w hm hro hc hs hf hd
  obtain ⟨oy, ca, cb, rfl, g0, g1, g2⟩ := compC_inv hc
  have hr := ev_rep hs g0 hy
  generalize hv : a.eval oy = v at hr
  cases hr
  cases t
  · exact wpIn_cond hv (h2 rfl ro F cb β ok a w hm (hro.imp (fun h => h) fun h => ((Bool.and_eq_true _ _).mp h).2) g2 hs hf hd)
  · exact wpIn_cond hv (h1 rfl ro F ca β ok a w hm (hro.imp (fun h => h) fun h => ((Bool.and_eq_true _ _).mp h).1) g1 hs hf hd)

theorem VW.condT {y : XA} {x1 x2 : XCode} (hy : y.ev e = some (.bool true)) (h1 : VW P x1 Q e m nx) : VW P (.cond y x1 x2) Q e m nx := VW.cond hy (fun _ => h1) (fun h => by cases h)
theorem VW.condF {y : XA} {x1 x2 : XCode} (hy : y.ev e = some (.bool false)) (h2 : VW P x2 Q e m nx) : VW P (.cond y x1 x2) Q e m nx := VW.cond hy (fun h => by cases h) (fun _ => h2)

theorem VW.block {i : Nat} {x : XCode} (h : VW P x (Q.block i) e m nx) : VW P (.block i x) Q e m nx := by
  intro ro F c β ok a w hm hro hc hs hf hd
  obtain ⟨ca, rfl, h1⟩ := compC_inv hc
  refine wpIn_block (wpIn_mono (h ro F ca β ok a w hm hro h1 hs hf hd) ?_)
  rintro ex a' w' ⟨e', m', nx', β', ok', hs', hf', hd', hq⟩
  cases ex with
  | normal => exact ⟨e', m', nx', β', ok', hs', hf', hd', hq⟩
  | exit j =>
    simp only [Post.block] at hq
    simp only [Exit.inBlock]
    split at hq
    · rename_i hj; rw [if_pos hj]; exact ⟨e', m', nx', β', ok', hs', hf', hd', hq⟩
    · rename_i hj; rw [if_neg hj]; exact ⟨e', m', nx', β', ok', hs', hf', hd', hq⟩
  | ret => exact ⟨e', m', nx', β', ok', hs', hf', hd', hq⟩
  | goto l => exact hq.elim
  | panic ch => exact hq.elim
  | outgrown => exact hq.elim

/-- A loop: what holds at every round's head, and a number that every round lowers. -/
theorem VW.loop {x : XCode} (I : Nat → Env → Mem → Nat → Prop) (k : Nat) (h0 : I k e m nx)
    (round : ∀ k e m nx, I k e m nx → VW P x (Post.then (fun e' m' nx' => ∃ k', k' < k ∧ I k' e' m' nx') Q) e m nx) : VW P (.loop x) Q e m nx := by
  intro ro F c β ok a w hm hro hc hs hf hd
  obtain ⟨ca, rfl, h1⟩ := compC_inv hc
  intro b k cs hb1 hb2 hb3
  have key : ∀ (n : Nat) (e : Env) (m : Mem) (nx : Nat) (β : Ids) (ok : Nat → Prop) (a : Act) (w : World), I n e m nx → Sat0 F β ok e m a w → (∀ id, nx ≤ id → β id = none) → Held F β nx →
      ∃ ex a' w', AtX F Q ex a' w' ∧ ArrivesIn (Machine.fenced P (wf ro)) P (lone (b.atR a (.code ca :: .inLoop ca :: k)) cs w) b k cs ex a' w' := by
    intro n
    induction n using Nat.strongRecOn with
    | _ n ihn =>
      intro e m nx β ok a w hI hs hf hd
      obtain ⟨ex, a1, w1, hq, harr⟩ := round n e m nx hI ro F ca β ok a w hm hro h1 hs hf hd b (.inLoop ca :: k) cs hb1 hb2 hb3
      obtain ⟨e', m', nx', β', ok', hs', hf', hd', hq⟩ := hq
      cases ex with
      | normal =>
        obtain ⟨k', hlt, hI'⟩ := hq
        obtain ⟨ex2, a2, w2, hq2, harr2⟩ := ihn k' hlt e' m' nx' β' ok' a1 w1 hI' hs' hf' hd'
        exact ⟨ex2, a2, w2, hq2, .of_steps (StepsIn.trans harr (.one (fenced_calm hb2 hb3 rfl) stepR_inLoop)) harr2⟩
      | exit i => exact ⟨.exit i, a1, w1, ⟨e', m', nx', β', ok', hs', hf', hd', hq⟩, .pass (x := .inLoop ca) rfl (fun _ _ => .inl (by simp)) harr⟩
      | ret => exact ⟨.ret, a1, w1, ⟨e', m', nx', β', ok', hs', hf', hd', hq⟩, .pass (x := .inLoop ca) rfl (fun _ _ => .inl (by simp)) harr⟩
      | goto l => exact hq.elim
      | panic ch => exact hq.elim
      | outgrown => exact hq.elim
  obtain ⟨ex, a', w', hq, harr⟩ := key _ e m nx β ok a w h0 hs hf hd
  exact ⟨ex, a', w', hq, .of_steps (.one (fenced_calm hb2 hb3 rfl) stepR_loop) harr⟩

theorem VW.mono {x : XCode} {Q' : Post} (h : VW P x Q e m nx) (hq : ∀ ex e m nx, Q ex e m nx → Q' ex e m nx) : VW P x Q' e m nx := by
  intro ro F c β ok a w hm hro hc hs hf hd
  refine wpIn_mono (h ro F c β ok a w hm hro hc hs hf hd) ?_
  rintro ex a' w' ⟨e', m', nx', β', ok', hs', hf', hd', hh⟩
  refine ⟨e', m', nx', β', ok', hs', hf', hd', ?_⟩
  cases ex <;> first | exact hq _ _ _ _ hh | exact hh

/-- A loop that counts up to n: what holds as it comes to i. -/
theorem VW.forN {x : XCode} (n : Nat) (J : Nat → Env → Mem → Nat → Prop) (i0 : Nat) (hi : i0 ≤ n) (h0 : J i0 e m nx)
    (round : ∀ i e m nx, i ≤ n → J i e m nx → VW P x (Post.then (fun e' m' nx' => i < n ∧ J (i + 1) e' m' nx') Q) e m nx) : VW P (.loop x) Q e m nx := by
  refine VW.loop (fun k e m nx => ∃ i, i + k = n ∧ J i e m nx) (n - i0) ⟨i0, by omega, h0⟩ ?_
  rintro k e m nx ⟨i, hk, hJ⟩
  refine (round i e m nx (by omega) hJ).mono ?_
  intro ex e m nx h
  cases ex with
  | normal => exact ⟨k - 1, by have := h.1; omega, i + 1, by have := h.1; omega, h.2⟩
  | exit j => exact h
  | ret => exact h

/-- Less may be known of the slots. -/
theorem VW.weak {x : XCode} {e' : Env} (he : ∀ t p, e' t = some p → e t = some p) (h : VW P x Q e' m nx) : VW P x Q e m nx := by
  intro ro F c β ok a w hm hro hc hs hf hd
  exact h ro F c β ok a w hm hro hc ⟨hs.size, hs.defers, fun t p ht => hs.env t p (he t p ht), hs.mem, hs.okb, hs.keeps, hs.own, hs.ok0, hs.oks⟩ hf hd

/-- Less may be known of the objects. -/
theorem VW.drop {x : XCode} {m' : Mem} (hsub : Sub m' m) (h : VW P x Q e m' nx) : VW P x Q e m nx := by
  intro ro F c β ok a w hm hro hc hs hf hd
  refine h ro F c β ok a w hm hro hc ⟨hs.size, hs.defers.step (fun _ => False) (fun _ _ _ => rfl) (fun _ _ h => h.elim) (fun b ⟨id, o, cap, h1, h2, h3⟩ => .inl ⟨id, o, cap, hsub _ _ h1, h2, h3⟩) (fun _ h => .inl h), hs.env, hs.mem.sub hsub, hs.okb, hs.keeps, fun k hk => ?_, hs.ok0, hs.oks⟩ hf hd
  obtain ⟨id, o, cap, h1, h2, h3⟩ := hk
  exact hs.own k ⟨id, o, cap, hsub _ _ h1, h2, h3⟩

/-- Rows that are written no more. -/
theorem VW.freeze {x : XCode} (l : List Nat) (h : VW P x Q e (Vx.frz m l) nx) : VW P x Q e m nx := by
  intro ro F c β ok a w hm hro hc hs hf hd
  obtain ⟨ok', hs', _⟩ := hs.frz' l
  exact h ro F c β ok' a w hm hro hc hs' hf hd

/-- How long a list can be. -/
theorem VW.slen {x : XCode} {t : Nat} {xs : List (List PV)} (ht : e t = some (.sl xs)) (h : xs.length ≤ maxLen → VW P x Q e m nx) : VW P x Q e m nx := by
  intro ro F c β ok a w hm hro hc hs hf hd
  refine h ?_ ro F c β ok a w hm hro hc hs hf hd
  obtain ⟨v, _, hr⟩ := hs.env t _ ht
  cases hr with
  | sl0 A cap hcap => simp
  | sl k _ A cap f hne hl hcap => exact Nat.le_trans hl hcap

theorem VW.olen {x : XCode} {id k T : Nat} {xs : List (List PV)} {fz : Bool} (ht : m id = some (.row k xs T fz)) (h : xs.length ≤ maxLen → (∀ y ∈ xs, y.length = k) → VW P x Q e m nx) : VW P x Q e m nx := by
  intro ro F c β ok a w hm hro hc hs hf hd
  obtain ⟨l, hl, hr⟩ := hs.mem.objs id _ ht
  cases l with
  | nil => 
    have : xs = [] := hr
    subst this
    exact h (by simp) (by simp) ro F c β ok a w hm hro hc hs hf hd
  | «at» b cap =>
    obtain ⟨⟨cur, _, _, h1, h2, h3, _⟩, _⟩ := hr
    exact h (Nat.le_trans h1 h2) h3 ro F c β ok a w hm hro hc hs hf hd

/-- What lies below the next number. -/
theorem VW.below {x : XCode} {id : Nat} {o : Obj} (ht : m id = some o) (h : id < nx → VW P x Q e m nx) : VW P x Q e m nx := by
  intro ro F c β ok a w hm hro hc hs hf hd
  refine h ?_ ro F c β ok a w hm hro hc hs hf hd
  obtain ⟨l, hl, _⟩ := hs.mem.objs id o ht
  rcases Nat.lt_or_ge id nx with h | h
  · exact h
  · rw [hf id h] at hl; cases hl

end
end Go.Vx
/- The engine, part 21: contracts out of code. -/
set_option linter.unusedVariables false
set_option linter.unusedSimpArgs false
namespace Go.Vx
open Go Go.RowKit

/-! New numbers for objects. -/
def ren1 (σ : Nat → Nat) : PV → PV
  | .ptr id k i j => .ptr (σ id) k i j
  | .osl id n => .osl (σ id) n
  | .map id => .map (σ id)
  | .yld id => .yld (σ id)
  | p => p
def renA (σ : Nat → Nat) : PV → PV
  | .agg cs => .agg (cs.map (ren1 σ))
  | .fn f cs => .fn f (cs.map (ren1 σ))
  | p => ren1 σ p
def PV.ren (σ : Nat → Nat) : PV → PV
  | .tup cs => .tup (cs.map (renA σ))
  | p => renA σ p
def Obj.ren (σ : Nat → Nat) : Obj → Obj
  | .box cs T => .box (cs.map (renA σ)) T
  | .map es => .map (es.map fun e => (e.1, renA σ e.2))
  | .iter mid n seen last => .iter (mid.map σ) n seen last
  | o => o
/-- Does it hang on no new number? -/
def Obj.fix (b : Nat) : Obj → Bool
  | .loop k _ _ => decide (k.top ≤ b)
  | .map es => es.all fun e => match e.2 with | .tup _ => false | _ => true
  | _ => true
def ltA (n : Nat) : PV → Bool
  | .tup _ => false
  | p => p.lt n
def ltT (n : Nat) : PV → Bool
  | .tup cs => cs.all (ltA n)
  | p => p.lt n

/-- A result: a slot, or what a box holds. -/
inductive RX where
  | tmp (t : Nat)
  | cell1 (t : Nat)
  | celln (t n : Nat)
def rxOf (P : Program) : ResultVar → Option RX
  | .tmp t => some (.tmp t)
  | .cell a T => (tyAgg P T).bind fun g => if g then (tySize P T).map fun n => .celln a n else some (.cell1 a)
def RX.ev (e : Env) (m : Mem) : RX → Option PV
  | .tmp t => e t
  | .cell1 a => (e a).bind fun p => (rd m 1 p).bind head1
  | .celln a n => (e a).bind fun p => (rd m n p).map .agg
def tup1 : List PV → PV
  | [p] => p
  | ps => .tup ps
def resL (e : Env) (m : Mem) : List RX → Option (List PV)
  | [] => some []
  | x :: rs => (x.ev e m).bind fun p => (resL e m rs).map (p :: ·)
def resF (rs : List RX) (e : Env) (m : Mem) : Option PV := (resL e m rs).map tup1

def res1 (tmps : Array Value) : ResultVar → Sem Value
  | .tmp t => pure (tmps.getD t undef)
  | .cell c t => do loadVar t (← asAddr (tmps.getD c undef))

/-- What stays of a result. -/
def purT (m : Mem) : PV → Option PV
  | .tup ps => (ps.mapM (purA true m)).map .tup
  | p => purA true m p

/-- An end: what is given back and what is left is what the contract says. -/
def EndsQ (q : PV) (b : Nat) (r : PV) (m' m : Mem) : Prop :=
  ∃ (l : List Nat) (σ : Nat → Nat), ((q = r.ren σ ∧ ltT (b + 8) r = true) ∨ purT (frz m l) q = some r) ∧
    (∀ id o, m' id = some o → frz m l (σ id) = some (o.ren σ) ∧ id < b + 8 ∧ o.lt (b + 8) = true ∧ o.fix b = true) ∧
    (∀ i j o o', m' i = some o → m' j = some o' → σ i = σ j → i = j) ∧ ∀ id, id < b → σ id = id
/-- A function's end. -/
def Ends (rs : List RX) (b : Nat) (r : PV) (m' : Mem) (e : Env) (m : Mem) : Prop := ∃ q, resF rs e m = some q ∧ EndsQ q b r m' m
/-- A function's end, where what comes out is not one. -/
def EndsK (rs : List RX) (b : Nat) (K : PV → Mem → Prop) (e : Env) (m : Mem) : Prop := ∃ r m', K r m' ∧ Ends rs b r m' e m

def PRet (K : Env → Mem → Prop) : Post
  | .normal, e, m, _ => K e m
  | .ret, e, m, _ => K e m
  | .exit _, _, _, _ => False

section
variable {P : Program} {F : Fr} {β β' : Ids} {ok : Nat → Prop} {e : Nat → Option PV} {m : Mem} {a : Act} {w : World} {σ : Nat → Nat} {n : Nat}

theorem ren1_rep (hσ : ∀ id, id < n → β' id = β (σ id)) {p : PV} {v : Value} (h : Rep w ok β (ren1 σ p) v) (hl : lt1 n p = true) : Rep w ok β' p v := by
  cases p with
  | bool b => cases h; exact .bool b
  | int k i => cases h; exact .int k i
  | str s => cases h; exact .str s
  | nilp => cases h; exact .nilp
  | nilm => cases h; exact .nilm
  | nilf => cases h; exact .nilf
  | ptr id k i j =>
    cases h with
    | ptr _ _ _ _ bl cap h => exact .ptr id k i j bl cap (by rw [hσ id (by simpa [lt1] using hl)]; exact h)
  | cptr cs =>
    cases h with
    | cptr _ A f hs hok h1 hc hr => exact .cptr cs A f hs hok h1 hc hr
  | sl xs =>
    cases h with
    | sl0 A cap h => exact .sl0 A cap h
    | sl k _ A cap f h1 h2 h3 h4 h5 h6 h7 h8 h9 => exact .sl k xs A cap f h1 h2 h3 h4 h5 h6 h7 h8 h9
  | yld id =>
    cases h with
    | yld _ bl cap h => exact .yld id bl cap (by rw [hσ id (by simpa [lt1] using hl)]; exact h)
  | nsl => cases h; exact .nsl
  | osl id i =>
    cases h with
    | osl0 _ A h => exact .osl0 id A (by rw [hσ id (by simpa [lt1] using hl)]; exact h)
    | osl _ _ bl cap h hn => exact .osl id i bl cap (by rw [hσ id (by simpa [lt1] using hl)]; exact h) hn
  | map id =>
    cases h with
    | map _ bl cap h => exact .map id bl cap (by rw [hσ id (by simpa [lt1] using hl)]; exact h)
  | fn f cs =>
    simp [lt1] at hl
    subst hl
    cases h with
    | fn _ _ vs h1 hr => exact .fn f [] vs h1 (by simp)
  | agg cs => simp [lt1] at hl
  | tup cs => simp [lt1] at hl

theorem ren1_list (hσ : ∀ id, id < n → β' id = β (σ id)) {cs : List PV} {vs : List Value} (h : ∀ (j : Nat) c v, (cs.map (ren1 σ))[j]? = some c → vs[j]? = some v → Rep w ok β c v) (hl : cs.all (lt1 n) = true) :
    ∀ (j : Nat) c v, cs[j]? = some c → vs[j]? = some v → Rep w ok β' c v := fun j c v hc hv =>
  ren1_rep hσ (h j (ren1 σ c) v (by simp [List.getElem?_map, hc]) hv) (List.all_eq_true.1 hl c (List.mem_of_getElem? hc))

theorem ren1_one {p : PV} : (ren1 σ p).one = p.one := by cases p <;> rfl

theorem renA_rep (hσ : ∀ id, id < n → β' id = β (σ id)) {p : PV} {v : Value} (h : Rep w ok β (renA σ p) v) (hl : ltA n p = true) : Rep w ok β' p v := by
  cases p with
  | fn f cs =>
    cases h with
    | fn _ _ vs h1 hr => exact .fn f cs vs (by simpa using h1) (ren1_list hσ hr hl)
  | agg cs =>
    cases h with
    | agg _ vs h1 h2 hr => exact .agg cs vs (by simpa using h1) (fun c hc => by have := h2 (ren1 σ c) (List.mem_map_of_mem hc); rwa [ren1_one] at this) (ren1_list hσ hr hl)
  | tup cs => simp [ltA] at hl
  | _ => exact ren1_rep hσ h hl

theorem ren_rep (hσ : ∀ id, id < n → β' id = β (σ id)) {p : PV} {v : Value} (h : Rep w ok β (p.ren σ) v) (hl : ltT n p = true) : Rep w ok β' p v := by
  cases p with
  | tup cs =>
    cases h with
    | tup _ vs h1 hr => exact .tup cs vs (by simpa using h1) fun j c v hc hv => renA_rep hσ (hr j (renA σ c) v (by simp [List.getElem?_map, hc]) hv) (List.all_eq_true.1 hl c (List.mem_of_getElem? hc))
  | _ => exact renA_rep hσ h hl

theorem renA_one {p : PV} : (renA σ p).one = p.one := by cases p <;> rfl

theorem ren_orep {b : Nat} (hσ : ∀ id, id < n → β' id = β (σ id)) (hb : b ≤ n) (hσ2 : ∀ id, id < b → σ id = id) {l : Loc} {o : Obj} (h : ORep w ok β l (o.ren σ)) (hl : o.lt n = true) (hx : o.fix b = true) : ORep w ok β' l o := by
  cases l with
  | nil => cases o <;> first | exact h | exact h.elim
  | «at» bl cap =>
    cases o with
    | row k xs T fz => exact h
    | map es =>
      obtain ⟨⟨cur, g1, g2, g4⟩, g5⟩ := h
      refine ⟨⟨cur, by simpa using g1, by simpa using g2, fun j c hj => ?_⟩, g5⟩
      obtain ⟨u, hu, hk, hru, hbn⟩ := g4 j (c.1, renA σ c.2) (by simp [List.getElem?_map, hj])
      have h2 := List.all_eq_true.1 hl c (List.mem_of_getElem? hj)
      have h3 := List.all_eq_true.1 hx c (List.mem_of_getElem? hj)
      refine ⟨u, hu, hk, renA_rep hσ hru ?_, hbn⟩
      obtain ⟨c1, c2⟩ := c
      cases c2 <;> first | exact h2 | simp at h3
    | iter mid q seen last =>
      obtain ⟨⟨mo, g1, g2, g4⟩, g5⟩ := h
      refine ⟨⟨mo, g1, ?_, g4⟩, g5⟩
      cases mid with
      | none => exact g2
      | some id2 =>
        obtain ⟨mb, cp, e1, e2⟩ := g2
        have hl2 : id2 < n := by simpa [Obj.lt] using hl
        exact ⟨mb, cp, e1, by rw [hσ id2 hl2]; exact e2⟩
    | loop k st pend =>
      obtain ⟨⟨tm, ca, cb, dl, g1, g2, g3, g4, g6, g7, g8, g9⟩, g5⟩ := h
      have hl2 : k.top ≤ b := by simpa [Obj.fix] using hx
      refine ⟨⟨tm, ca, cb, dl, g1, g2, g3, g4, g6, g7, fun id2 x hx => ?_, g9⟩, g5⟩
      have : id2 < b := by
        rcases Nat.lt_or_ge id2 k.top with h | h
        · omega
        · rw [g9 id2 h] at hx; cases hx
      rw [hσ id2 (by omega), hσ2 id2 this]
      exact g8 id2 x hx
    | box cs T =>
      obtain ⟨⟨cur, g1, g2, g3, g4⟩, g5⟩ := h
      refine ⟨⟨cur, g1, by simpa using g2, fun c hc => by have := g3 (renA σ c) (List.mem_map_of_mem hc); rwa [renA_one] at this, fun j c hj => ?_⟩, g5⟩
      obtain ⟨u, hu, hru⟩ := g4 j (renA σ c) (by simp [List.getElem?_map, hj])
      have h1 : c.one = true := by have := g3 (renA σ c) (List.mem_map_of_mem (List.mem_of_getElem? hj)); rwa [renA_one] at this
      have h2 := List.all_eq_true.1 hl c (List.mem_of_getElem? hj)
      refine ⟨u, hu, renA_rep hσ hru ?_⟩
      cases c <;> first | exact h2 | simp [PV.one] at h1

theorem ren_fz {o : Obj} : (o.ren σ).fz = o.fz := by cases o <;> rfl

theorem res1_run (hs : Sat0 F β ok e m a w) {x : ResultVar} {y : RX} {p : PV} (hy : rxOf P x = some y) (h : y.ev e m = some p) : ∃ v, (res1 a.tmps x).run P w = .ok v w ∧ Rep w ok β p v := by
  cases x with
  | tmp t =>
    simp [rxOf] at hy; subst hy
    obtain ⟨v, hv, hr⟩ := hs.env t p h
    refine ⟨v, ?_, hr⟩
    simp [res1, Array.getD_eq_getD_getElem?, hv]
  | cell c t =>
    simp only [rxOf, Option.bind_eq_some_iff] at hy
    obtain ⟨g, hg, hy⟩ := hy
    cases g with
    | true =>
      simp only [if_true, Option.map_eq_some_iff] at hy
      obtain ⟨k, hk, rfl⟩ := hy
      simp only [RX.ev, Option.bind_eq_some_iff, Option.map_eq_some_iff] at h
      obtain ⟨q, hq, cs, hcs, rfl⟩ := h
      obtain ⟨v, hv, hr⟩ := hs.env c q hq
      obtain ⟨A, rfl, hA, hl, hc⟩ := rd_sound hs.mem hcs hr
      obtain ⟨u, hu, hru⟩ := hc.agg (P := P) hg hk hl
      exact ⟨u, by simp [res1, Array.getD_eq_getD_getElem?, hv, asAddr, hu], hru⟩
    | false =>
      simp at hy; subst hy
      simp only [RX.ev, Option.bind_eq_some_iff] at h
      obtain ⟨q, hq, cs, hcs, h1⟩ := h
      obtain ⟨v, hv, hr⟩ := hs.env c q hq
      obtain ⟨A, rfl, hA, hl, hc⟩ := rd_sound hs.mem hcs hr
      have : cs = [p] := by
        unfold head1 at h1
        split at h1
        · injection h1 with h1; rw [h1]
        · cases h1
      subst this
      obtain ⟨h1, vs, hvl, hv2, hr2⟩ := hc
      match vs, hvl with
      | [u], _ =>
        have h0 : w.cell? A = some u := by simpa [Addr.add] using hv2 0 u rfl
        exact ⟨u, by simp [res1, Array.getD_eq_getD_getElem?, hv, asAddr, run_loadVarOne A u hg h0], hr2 0 _ u rfl rfl⟩

theorem res_list (hs : Sat0 F β ok e m a w) : ∀ {xs : List ResultVar} {rs : List RX} {ps : List PV}, xs.mapM (rxOf P) = some rs → resL e m rs = some ps →
    ∃ vs : List Value, (xs.mapM (res1 a.tmps)).run P w = .ok vs w ∧ Reps w ok β ps vs
  | [], rs, ps, h0, h => by
    simp at h0; subst h0
    simp [resL] at h; subst h
    exact ⟨[], by simp, rfl, by simp⟩
  | x :: xs, rs, ps, h0, h => by
    simp only [List.mapM_cons, Option.bind_eq_bind, Option.bind_eq_some_iff, Option.pure_def, Option.some.injEq] at h0
    obtain ⟨y, hy, rs, hrs, rfl⟩ := h0
    simp only [resL, Option.bind_eq_some_iff, Option.map_eq_some_iff] at h
    obtain ⟨p, hp, qs, hqs, rfl⟩ := h
    obtain ⟨v, hv, hr⟩ := res1_run (P := P) hs hy hp
    obtain ⟨vs, hvs, h1, h2⟩ := res_list hs hrs hqs
    refine ⟨v :: vs, ?_, by simp [h1], fun j c u hc hu => ?_⟩
    · rw [List.mapM_cons, Sem.run_bind, hv, Result.andThen_ok, Sem.run_bind, hvs]
      simp
    · cases j with
      | zero => simp at hc hu; subst hc; subst hu; exact hr
      | succ j => exact h2 j c u (by simpa using hc) (by simpa using hu)

theorem res_run (hs : Sat0 F β ok e m a w) {fn : Func} {rs : List RX} {p : PV} (hrs : fn.results.toList.mapM (rxOf P) = some rs) (h : resF rs e m = some p) : ∃ v, (results fn a.tmps).run P w = .ok v w ∧ Rep w ok β p v := by
  simp only [resF, Option.map_eq_some_iff] at h
  obtain ⟨ps, hps, rfl⟩ := h
  obtain ⟨vs, hvs, h1, h2⟩ := res_list hs hrs hps
  have key : (results fn a.tmps).run P w = .ok (if h : vs.toArray.size = 1 then vs.toArray[0] else .tuple vs.toArray) w := by
    have hu : results fn a.tmps = (fn.results.toList.toArray.mapM (res1 a.tmps) >>= fun vs => pure (if h : vs.size = 1 then vs[0] else .tuple vs)) := by
      unfold results
      rw [show fn.results.toList.toArray = fn.results from by simp]
      congr 2
    rw [hu, List.mapM_toArray]
    simp only [Sem.run_bind, map_eq_pure_bind, bind_assoc, pure_bind]
    rw [hvs]
    simp
  refine ⟨_, key, ?_⟩
  clear hvs key hps
  rcases ps with _ | ⟨q, _ | ⟨q2, qs⟩⟩
  · rcases vs with _ | ⟨v, vs⟩
    · simpa [tup1] using Rep.tup [] [] rfl (by simp)
    · simp at h1
  · rcases vs with _ | ⟨v, _ | ⟨v2, vs⟩⟩
    · simp at h1
    · simpa [tup1] using h2 0 q v rfl rfl
    · simp at h1
  · rw [dif_neg (by simp [h1])]
    exact .tup _ _ h1 h2

theorem purT_rep (hm : MSat w ok β m) {p q : PV} {v : Value} (h : purT m p = some q) (hr : Rep w ok β p v) : Rep w ok β' q v := by
  have one : purA true m p = some q → Rep w ok β' q v := fun h => (purA_rep hm h hr).1.any
  cases p with
  | tup ps =>
    simp only [purT, Option.map_eq_some_iff] at h
    obtain ⟨qs, hqs, rfl⟩ := h
    cases hr with
    | tup _ vs h1 hr =>
      obtain ⟨g1, g2⟩ := mapM_some hqs
      refine .tup qs vs (by omega) fun j c u hc hu => ?_
      have hj : j < ps.length := by rw [← g1]; exact (List.getElem?_eq_some_iff.1 hc).1
      exact (purA_rep hm (g2 j ps[j] c (by simp [hj]) hc) (hr j ps[j] u (by simp [hj]) hu)).1.any
  | _ => exact one h

/-- What is behind an end. -/
theorem ends_out {β1 : Ids} {ok1 : Nat → Prop} {nx b : Nat} {q r : PV} {m' : Mem} {v : Value} (hs1 : Sat0 F β1 ok1 e m a w) (hd1 : Held F β1 nx) (hb0 : F.b0 = b) (hE : EndsQ q b r m' m) (hrep : Rep w ok1 β1 q v) :
    ∃ (β' : Ids) (ok' : Nat → Prop), Rep w ok' β' r v ∧ MSat w ok' β' m' ∧ Keeps F.w0 F.own0 w ∧ (∀ id, id < b → β' id = F.β0 id) ∧ (∀ id, b + 8 ≤ id → β' id = none) ∧ (∀ k, F.ok0 k → ok' k) ∧ (∀ k, ok' k → k < w.heap.size) ∧
      (∀ k, ok' k → F.ok0 k ∨ F.own0 k ∨ F.w0.heap.size ≤ k) ∧ ∀ k, Owns β' m' k → F.own0 k ∨ F.w0.heap.size ≤ k := by
  subst hb0
  obtain ⟨l, σ, hres, hobj, hinj, hσ⟩ := hE
  obtain ⟨ok2, hs2, hrep2⟩ : ∃ ok2, Sat0 F β1 ok2 e (frz m l) a w ∧ Rep w ok2 β1 q v := by
    obtain ⟨ok2, h2, h3⟩ := hs1.frz' l
    exact ⟨ok2, h2, hrep.mono (fun _ _ => rfl) h3 _ (fun _ _ h => h)⟩
  have hnew : ∀ id, id < F.b0 + 8 → (fun id => if id < F.b0 + 8 then β1 (σ id) else none : Ids) id = β1 (σ id) := fun id hid => by simp [hid]
  have hself : ∀ id, id < F.b0 → β1 (σ id) = F.β0 id := fun id hid => by rw [hσ id hid]; exact hd1.2 id hid
  have hMS : MSat w ok2 (fun id => if id < F.b0 + 8 then β1 (σ id) else none) m' := by
    refine ⟨fun id o ho => ?_, fun i j o o' bb c1 c2 h1 h2 h3 h4 f1 f2 => ?_⟩
    · obtain ⟨g1, g2, g3, g4⟩ := hobj id o ho
      obtain ⟨lc, hlc, hr⟩ := hs2.mem.objs _ _ g1
      exact ⟨lc, by simp [g2, hlc], ren_orep hnew (Nat.le_add_right _ _) hσ hr g3 g4⟩
    · obtain ⟨g1, g2, g3, g4⟩ := hobj i o h1
      obtain ⟨k1, k2, k3, k4⟩ := hobj j o' h2
      simp only [g2, k2, if_true] at h3 h4
      exact hinj i j o o' h1 h2 (hs2.mem.disj _ _ _ _ bb c1 c2 g1 k1 h3 h4 (by rw [ren_fz]; exact f1) (by rw [ren_fz]; exact f2))
  refine ⟨fun id => if id < F.b0 + 8 then β1 (σ id) else none, ok2, ?_, hMS, hs2.keeps, fun id hid => ?_, fun id hid => ?_, hs2.ok0, hs2.okb, hs2.oks, fun k hk => ?_⟩
  · rcases hres with ⟨rfl, hl⟩ | hp
    · exact ren_rep hnew hrep2 hl
    · exact purT_rep hs2.mem hp hrep2
  · simp [show id < F.b0 + 8 by omega, hself id hid]
  · simp [show ¬ id < F.b0 + 8 by omega]
  · obtain ⟨id, o, cap, h1, h2, h3⟩ := hk
    obtain ⟨g1, g2, g3, g4⟩ := hobj id o h1
    simp only [g2, if_true] at h3
    exact hs2.own k ⟨σ id, _, cap, g1, by rw [ren_fz]; exact h2, h3⟩

/-- A mark is taken. -/
theorem Sat0.unmark (hs : Sat0 F β ok e m a w) {d : Deferred} {ds : List Deferred} (hd : a.defers = d :: ds) :
    ∃ D, d.target = .collected D ∧ (Instr.takeDeferred D).run P w = .ok [] (setB w D (.deferred none)) ∧ Sat0 F β ok e m { a with defers := ds } (setB w D (.deferred none)) := by
  have hmk := hs.defers
  rw [hd] at hmk
  obtain ⟨D, h1, h2, h3, h4, h5⟩ := hmk.each d List.mem_cons_self
  have hap := List.pairwise_cons.1 hmk.apart
  have hDl : D < w.heap.size := (Array.getElem?_eq_some_iff.1 h2).1
  have hok : ∀ k, ok k → (setB w D (.deferred none)).heap[k]? = w.heap[k]? := fun k hk => setB_other k fun h => h4 (h ▸ hk)
  refine ⟨D, h1, ?_, ?_⟩
  · simp only [Instr.takeDeferred, Sem.run_bind, run_getObj h2 rfl, Result.andThen_ok, run_setObj _ h2 rfl, Sem.run_pure]
  · refine ⟨hs.size, ⟨fun d' hd' => ?_, hap.2⟩, fun t p ht => ?_, ⟨fun id o ho => ?_, hs.mem.disj⟩, fun k hk => by rw [setB_size]; exact hs.okb k hk, ?_, hs.own, hs.ok0, hs.oks⟩
    · obtain ⟨D', g1, g2, g3, g4, g5⟩ := hmk.each d' (List.mem_cons_of_mem _ hd')
      have hne : D' ≠ D := fun h => hap.1 d' hd' (by rw [h1, g1, h])
      exact ⟨D', g1, by rw [setB_other D' hne]; exact g2, g3, g4, g5⟩
    · obtain ⟨v, hv, hr⟩ := hs.env t p ht
      exact ⟨v, hv, hr.mono hok (fun _ h => h) _ (fun _ _ h => h)⟩
    · obtain ⟨l, hl, hr⟩ := hs.mem.objs id o ho
      refine ⟨l, hl, hr.mono hok (fun _ h => h) (fun _ _ h => h) fun bb cap hll => ⟨?_, fun h => h⟩⟩
      subst hll
      refine setB_other bb fun h => ?_
      subst h
      cases hf : o.fz with
      | true => exact h4 (hr.froz hf)
      | false => exact h5 ⟨id, o, cap, ho, hf, hl⟩
    · refine ⟨hs.keeps.os, hs.keeps.tape, hs.keeps.output, by rw [setB_size]; exact hs.keeps.size, fun b hb hn => ?_, hs.keeps.drawn⟩
      rw [setB_other b (by omega)]
      exact hs.keeps.block b hb hn

/-- The marks are taken, one by one. -/
theorem leaves_marks {fn : Func} {R : Ending → World → Prop} : ∀ (ds : List Deferred) (a : Act) (w : World), a.defers = ds → Sat0 F β ok e m a w →
    (∀ a' w', a'.tmps = a.tmps → Sat0 F β ok e m a' w' → ∃ v, (results fn a'.tmps).run P w' = .ok v w' ∧ R (.returned v) w') → LeavesInM (wf none) 0 P fn a.tmps R ds .returning w
  | [], a, w, _, hs, h => h a w rfl hs
  | d :: ds, a, w, hd, hs, h => by
    obtain ⟨D, h1, h2, h3⟩ := Sat0.unmark (P := P) hs hd
    refine ⟨by simp, .inl ⟨D, _, h1, h2, ?_⟩⟩
    exact leaves_marks ds { a with defers := ds } _ rfl h3 fun a' w' ht hs' => h a' w' ht hs'

/-- **A contract out of code.** -/
theorem VX.of {f : Nat} {fn : Func} {c : Code} {x : XCode} {args : List PV} {m0 : Mem} {b : Nat} {K : PV → Mem → Prop} (hmix : P.follows .mixedOrders = true) (hf : P.funcs[f]? = some fn) (hname : (fn.name == "runtime.NumGoroutine") = false) (hb : fn.body = some c) {rs : List RX} (hrs : fn.results.toList.mapM (rxOf P) = some rs)
    (hx : compC P fn.ntmps c = some x) (hargs : args.length ≤ fn.ntmps) (h : VW P x (PRet (EndsK rs b K)) (fun t => args[t]?) m0 b) : VX P (.f f) args m0 b K := by
  refine ⟨fun vs w => ?_, fun w β ok vs hm hfr hok hr => ?_⟩
  · have hname' : ¬ fn.name = "runtime.NumGoroutine" := by simpa using hname
    simp [callFunc, hf, hname', hb]
  let F : Fr := ⟨fn.ntmps, w, Owns β m0, ok, b, β⟩
  have hs : Sat0 F β ok (fun t => args[t]?) m0 { tmps := vs.toArray ++ Array.replicate (fn.ntmps - vs.toArray.size) undef, defers := [] } w := by
    refine ⟨?_, .nil, fun t p ht => ?_, hm, hok, Keeps.refl _ _, fun k hk => .inl hk, fun k hk => hk, fun k hk => .inl hk⟩
    · have := hr.1
      simp [F]; omega
    · have ht' : t < args.length := (List.getElem?_eq_some_iff.1 ht).1
      have htv : t < vs.length := by rw [hr.1]; exact ht'
      refine ⟨vs[t], ?_, hr.2 t p _ ht (by simp [htv])⟩
      rw [Array.getElem?_append_left (by simpa using htv)]
      simp [htv]
  refine callsIn_wide.1 (callsIn_of_wp_marks (F := wf none) hf hb trivial (wpIn_mono (h none F c β ok _ w hmix (.inl rfl) hx hs hfr ⟨Nat.le_refl _, fun _ _ => rfl⟩) ?_) rfl)
  have main : ∀ (a : Act) (w' : World) e m nx β1 ok1, Sat0 F β1 ok1 e m a w' → Held F β1 nx → EndsK rs b K e m → LeavesInM (wf none) 0 P fn a.tmps (fun e w' => ∃ (v : Value) (r : PV) (m' : Mem) (β' : Ids) (ok' : Nat → Prop), e = .returned v ∧ K r m' ∧ Rep w' ok' β' r v ∧ MSat w' ok' β' m' ∧ Keeps w (Owns β m0) w' ∧
      (∀ id, id < b → β' id = β id) ∧ (∀ id, b + 8 ≤ id → β' id = none) ∧ (∀ k, ok k → ok' k) ∧ (∀ k, ok' k → k < w'.heap.size) ∧
      (∀ k, ok' k → ok k ∨ Owns β m0 k ∨ w.heap.size ≤ k) ∧ ∀ k, Owns β' m' k → Owns β m0 k ∨ w.heap.size ≤ k) a.defers .returning w' := by
    rintro a w' e m nx β1 ok1 hs1 hd1 ⟨r, m', hk, q, hq, hE⟩
    refine leaves_marks a.defers a w' rfl hs1 fun a2 w2 _ hs2 => ?_
    obtain ⟨v, hv, hrep⟩ := res_run hs2 hrs hq
    obtain ⟨β', ok', h1, h2, h3, h4, h5, h6, h7, h8, h9⟩ := ends_out hs2 hd1 rfl hE hrep
    exact ⟨v, hv, v, r, m', β', ok', rfl, hk, h1, h2, h3, h4, h5, h6, h7, h8, h9⟩
  rintro ex a w' ⟨e, m, nx, β1, ok1, hs1, hf1, hd1, hq⟩
  cases ex with
  | normal => exact main a w' e m nx β1 ok1 hs1 hd1 hq
  | ret => exact main a w' e m nx β1 ok1 hs1 hd1 hq
  | exit i => exact hq.elim
  | goto l => exact hq.elim
  | panic ch => exact hq.elim
  | outgrown => exact hq.elim

/-- A function's code, its results, how many slots it has. -/
def codeOf (P : Program) (f : Nat) : Option (XCode × List RX × Nat × Bool) :=
  (P.funcs[f]?).bind fun fn => fn.body.bind fun c => (compC P fn.ntmps c).bind fun x => (fn.results.toList.mapM (rxOf P)).map fun rs => (x, rs, fn.ntmps, fn.name == "runtime.NumGoroutine")

theorem VX.code (hmix : P.follows .mixedOrders = true) {f : Nat} {x : XCode} {rs : List RX} {n : Nat} (hk : codeOf P f = some (x, rs, n, false)) {args : List PV} {m0 : Mem} {b : Nat} {K : PV → Mem → Prop} (hargs : args.length ≤ n)
    (h : VW P x (PRet (EndsK rs b K)) (fun t => args[t]?) m0 b) : VX P (.f f) args m0 b K := by
  simp only [codeOf, Option.bind_eq_some_iff, Option.map_eq_some_iff, Prod.mk.injEq] at hk
  obtain ⟨fn, hf, c, hb, y, hx, rs', hrs, rfl, rfl, rfl, hn⟩ := hk
  exact VX.of hmix hf hn hb hrs hx hargs h
theorem V.code (hmix : P.follows .mixedOrders = true) {f : Nat} {x : XCode} {rs : List RX} {n : Nat} (hk : codeOf P f = some (x, rs, n, false)) {args : List PV} {m0 : Mem} {b : Nat} {r : PV} {m' : Mem} (hargs : args.length ≤ n)
    (h : VW P x (PRet (Ends rs b r m')) (fun t => args[t]?) m0 b) : V P f args m0 b r m' := by
  refine VX.code hmix hk hargs (h.mono fun ex e m nx hh => ?_)
  cases ex with
  | normal => exact ⟨r, m', ⟨rfl, rfl⟩, hh⟩
  | ret => exact ⟨r, m', ⟨rfl, rfl⟩, hh⟩
  | exit i => exact hh

theorem frz_nil' : frz m [] = m := by funext id; simp [frz]
/-- Nothing of memory is left: the result is a value. -/
theorem Ends.val {rs : List RX} {b : Nat} {r : PV} (l : List Nat) (q : PV) (h : resF rs e m = some q) (hp : purT (frz m l) q = some r) : Ends rs b r mt e m :=
  ⟨q, h, l, fun id => id, .inr hp, by simp [mt], by simp [mt], fun _ _ => rfl⟩

/-- One row is left, of the caller's own. -/
theorem Ends.row {rs : List RX} {b id n k T : Nat} {xs : List (List PV)} (h : resF rs e m = some (.osl id n)) (ho : m id = some (.row k xs T false)) : Ends rs b (.osl b n) (upd mt b (some (.row k xs T false))) e m := by
  refine ⟨.osl id n, h, [], fun j => if j = b then id else j, .inl ⟨by simp [PV.ren, renA, ren1], by simp [ltT, PV.lt, lt1]⟩, fun j o hj => ?_, fun i j o o' h1 h2 _ => ?_, fun j hj => by simp [show j ≠ b by omega]⟩
  · by_cases he : j = b
    · subst he
      simp [upd] at hj; subst hj
      simp [frz, ho, Obj.ren, Obj.lt, Obj.fix]
    · simp [upd, he, mt] at hj
  · by_cases he : i = b <;> by_cases he2 : j = b
    · rw [he, he2]
    · simp [upd, he2, mt] at h2
    · simp [upd, he, mt] at h1
    · simp [upd, he, mt] at h1

/-- Numbers of what is new. -/
def sg (b : Nat) (ids : List Nat) : Nat → Nat := fun j => if j < b then j else ids.getD (j - b) j
theorem sg_lt {b : Nat} {ids : List Nat} {j : Nat} (h : j < b) : sg b ids j = j := by simp [sg, h]
theorem sg_0 {b x : Nat} {ids : List Nat} : sg b (x :: ids) b = x := by simp [sg]
theorem sg_1 {b x y : Nat} {ids : List Nat} : sg b (x :: y :: ids) (b + 1) = y := by simp [sg]; omega
theorem sg_2 {b x y z : Nat} {ids : List Nat} : sg b (x :: y :: z :: ids) (b + 2) = z := by simp [sg]; omega
theorem sg_at {b k : Nat} {ids : List Nat} (h : k < ids.length) : sg b ids (b + k) = ids[k] := by simp [sg, h]; omega
/-- An end, where objects are left. -/
theorem EndsQ.ol {q r : PV} {b : Nat} {l : List (Nat × Obj)} (ids : List Nat) (hq : q = r.ren (sg b ids)) (hl : ltT (b + 8) r = true) (hb : ids.all (fun x => decide (b ≤ x)) = true) (hn : ids.Nodup)
    (ho : ∀ x ∈ l, m (sg b ids x.1) = some (x.2.ren (sg b ids)) ∧ x.1 < b + ids.length ∧ x.1 < b + 8 ∧ x.2.lt (b + 8) = true ∧ x.2.fix b = true) : EndsQ q b r (ofL l) m := by
  refine ⟨[], sg b ids, .inl ⟨hq, hl⟩, fun id o h => ?_, fun i j o o' h1 h2 h => ?_, fun id h => sg_lt h⟩
  · have := ho _ (ofL_some h)
    rw [frz_nil']
    exact ⟨this.1, this.2.2⟩
  · have g1 := (ho _ (ofL_some h1)).2.1
    have g2 := (ho _ (ofL_some h2)).2.1
    have big : ∀ k, ¬ k < b → k < b + ids.length → ∃ (hk : k - b < ids.length), sg b ids k = ids[k - b] ∧ b ≤ ids[k - b] := fun k hk1 hk2 => by
      have hk : k - b < ids.length := by omega
      refine ⟨hk, by simp [sg, hk1, hk], ?_⟩
      simpa using List.all_eq_true.1 hb ids[k - b] (List.getElem_mem hk)
    by_cases hi : i < b <;> by_cases hj : j < b
    · rw [sg_lt hi, sg_lt hj] at h; exact h
    · obtain ⟨_, e1, e2⟩ := big j hj g2
      rw [sg_lt hi, e1] at h; omega
    · obtain ⟨_, e1, e2⟩ := big i hi g1
      rw [sg_lt hj, e1] at h; omega
    · obtain ⟨k1, e1, _⟩ := big i hi g1
      obtain ⟨k2, e2, _⟩ := big j hj g2
      rw [e1, e2] at h
      have : i - b = j - b := by
        rcases Nat.lt_trichotomy (i - b) (j - b) with hlt | heq | hlt
        · exact absurd h (List.pairwise_iff_getElem.1 hn _ _ k1 k2 hlt)
        · exact heq
        · exact absurd h.symm (List.pairwise_iff_getElem.1 hn _ _ k2 k1 hlt)
      omega
/-- An end, where objects are left. -/
theorem Ends.ol {rs : List RX} {q r : PV} {b : Nat} {l : List (Nat × Obj)} (ids : List Nat) (h : resF rs e m = some q) (hq : q = r.ren (sg b ids)) (hl : ltT (b + 8) r = true) (hb : ids.all (fun x => decide (b ≤ x)) = true) (hn : ids.Nodup)
    (ho : ∀ x ∈ l, m (sg b ids x.1) = some (x.2.ren (sg b ids)) ∧ x.1 < b + ids.length ∧ x.1 < b + 8 ∧ x.2.lt (b + 8) = true ∧ x.2.fix b = true) : Ends rs b r (ofL l) e m := ⟨q, h, .ol ids hq hl hb hn ho⟩

theorem ren1_id {p : PV} : ren1 (fun j => j) p = p := by cases p <;> rfl
theorem map_id_of {α : Type} {f : α → α} (h : ∀ x, f x = x) : ∀ l : List α, l.map f = l
  | [] => rfl
  | x :: l => by rw [List.map_cons, h, map_id_of h l]
theorem renA_id {p : PV} : renA (fun j => j) p = p := by
  cases p <;> first | rfl | (simp only [renA]; rw [map_id_of (fun _ => ren1_id)])
theorem ren_id {p : PV} : p.ren (fun j => j) = p := by
  cases p
  case tup cs => simp only [PV.ren]; rw [map_id_of (fun _ => renA_id)]
  all_goals (simp only [PV.ren]; exact renA_id)
theorem oren_id {o : Obj} : o.ren (fun j => j) = o := by
  cases o with
  | box cs T => simp only [Obj.ren]; rw [map_id_of (fun _ => renA_id)]
  | map es => simp only [Obj.ren]; rw [map_id_of (fun x => by rw [renA_id])]
  | iter mid n seen last => simp only [Obj.ren]; cases mid <;> rfl
  | row => rfl
  | loop => rfl
/-- An end that leaves the caller's objects alone, of the caller's numbers. -/
theorem EndsQ.keep {q : PV} {b : Nat} {l : List (Nat × Obj)} (hl : ltT (b + 8) q = true) (ho : ∀ x ∈ l, m x.1 = some x.2 ∧ x.1 < b ∧ x.2.lt (b + 8) = true ∧ x.2.fix b = true) : EndsQ q b q (ofL l) m := by
  refine ⟨[], fun j => j, .inl ⟨ren_id.symm, hl⟩, fun id o h => ?_, fun i j o o' _ _ h => h, fun _ _ => rfl⟩
  have := ho _ (ofL_some h)
  rw [frz_nil', oren_id]
  exact ⟨this.1, by have := this.2.1; omega, this.2.2⟩
theorem Ends.keep {rs : List RX} {q : PV} {b : Nat} {l : List (Nat × Obj)} (h : resF rs e m = some q) (hl : ltT (b + 8) q = true) (ho : ∀ x ∈ l, m x.1 = some x.2 ∧ x.1 < b ∧ x.2.lt (b + 8) = true ∧ x.2.fix b = true) : Ends rs b q (ofL l) e m := ⟨q, h, .keep hl ho⟩

theorem frz_nil : frz m [] = m := by funext id; simp [frz]
/-- Values that stay. -/
theorem Ends.v {rs : List RX} {b : Nat} {q r : PV} (h : resF rs e m = some q) (hp : purT m q = some r) : Ends rs b r mt e m := .val [] q h (by rw [frz_nil]; exact hp)

/-- One result, a plain one. -/
theorem Ends.tmp1 {b t : Nat} {r : PV} (h : e t = some r) (hs : r.scalar = true) : Ends [.tmp t] b r mt e m := by
  refine .val [] r (by simp [resF, resL, RX.ev, h, tup1]) ?_
  cases r with
  | bool x => rfl
  | int k n => rfl
  | str s => rfl
  | tup vs =>
    have key : ∀ us : List PV, (us.all fun | .bool _ | .int _ _ | .str _ => true | _ => false) = true → us.mapM (purA true (frz m [])) = some us := by
      intro us
      induction us with
      | nil => intro _; rfl
      | cons v us ih =>
        intro h
        rw [List.all_cons, Bool.and_eq_true] at h
        rw [List.mapM_cons, ih h.2]
        cases v <;> first | rfl | simp at h
    simp [purT, key vs hs]
  | _ => simp [PV.scalar] at hs
/-- One result: a row that is frozen now. -/
theorem Ends.tmpr {b t id n k T : Nat} {xs : List (List PV)} {fz : Bool} (h : e t = some (.osl id n)) (hm : m id = some (.row k xs T fz)) (hn : n = xs.length) : Ends [.tmp t] b (.sl xs) mt e m := by
  refine .val [id] (.osl id n) (by simp [resF, resL, RX.ev, h, tup1]) ?_
  simp [purT, purA, pur, frz, hm, Obj.freeze, hn]
theorem Ends.tmprE {b t id n k T : Nat} {xs : List (List PV)} {fz : Bool} {r : PV} (h : e t = some (.osl id n)) (hm : m id = some (.row k xs T fz)) (hn : n = xs.length) (hr : r = .sl xs) : Ends [.tmp t] b r mt e m := hr ▸ .tmpr h hm hn
theorem Ends.tmpsE {b t : Nat} {xs : List (List PV)} {r : PV} (h : e t = some (.sl xs)) (hr : r = .sl xs) : Ends [.tmp t] b r mt e m :=
  .val [] (.sl xs) (by simp [resF, resL, RX.ev, h, tup1]) (by rw [hr]; rfl)
/-- One result: a list that stays. -/
theorem Ends.tmps {b t : Nat} {xs : List (List PV)} (h : e t = some (.sl xs)) : Ends [.tmp t] b (.sl xs) mt e m :=
  .val [] (.sl xs) (by simp [resF, resL, RX.ev, h, tup1]) rfl

end
end Go.Vx
/- The engine, part 21a: ranges over functions. -/
set_option linter.unusedVariables false
set_option linter.unusedSimpArgs false
namespace Go.Vx
open Go Go.RowKit

def putL (e : Env) : List Nat → List PV → Env
  | t :: ps, p :: qs => putL (upd e t (some p)) ps qs
  | _, _ => e

/-- A round's end. -/
def YPost (k : LoopKey) (L b : Nat) (K : PV → Mem → Prop) : Post
  | .normal, _, m, _ => ∃ pd, m L = some (.loop k .busy pd) ∧ ∃ r m', K r m' ∧ EndsQ (.bool true) b r m' (upd m L (some (.loop k .ready none)))
  | .ret, _, m, _ => ∃ pd, m L = some (.loop k .busy pd) ∧ ∃ r m', K r m' ∧ EndsQ (.bool false) b r m' (upd m L (some (.loop k .done (some none))))
  | .exit i, _, m, _ => ∃ pd, m L = some (.loop k .busy pd) ∧ ∃ r m', K r m' ∧ EndsQ (.bool false) b r m' (upd m L (some (.loop k .done (some (some i)))))

/-- A round's way: the loop's left sides, then its body. -/
def YBody (P : Program) (k : LoopKey) (L b : Nat) (K : PV → Mem → Prop) : Post
  | .normal, e, m, nx => ∃ pd, m L = some (.loop k .ready pd) ∧ VW P k.xb (YPost k L b K) e (upd m L (some (.loop k .busy pd))) nx
  | _, _, _, _ => False

section
variable {P : Program} {F : Fr} {β β' : Ids} {ok : Nat → Prop} {e : Nat → Option PV} {m : Mem} {a : Act} {w : World}

theorem loop_block {L : Nat} {k : LoopKey} {st : LoopState} {pd : Option (Option Nat)} {l cap : Nat} (hm : MSat w ok β m) (hL : m L = some (.loop k st pd)) (hb : β L = some (.at l cap)) :
    ∃ tmps ca cb dl, w.heap[l]? = some (.loop { state := st, pending := jumpOf pd, fn := k.fn, tmps := tmps, params := k.ps.toArray, assign := ca, body := cb, defers := dl }) ∧
      tmps.size = k.n ∧ (∀ t p, k.e t = some p → ∃ v, tmps[t]? = some v ∧ Rep w ok k.β0 p v) ∧ compC k.P k.n ca = some k.xa ∧ compC k.P k.n cb = some k.xb ∧
      (∀ t ∈ k.ps, t < k.n) ∧ (∀ id x, k.β0 id = some x → β id = some x) := by
  obtain ⟨⟨tm, ca, cb, dl, g1, g2, g3, g4, g5, g6, g7, g8⟩, _⟩ := hm.orep hL hb
  exact ⟨tm, ca, cb, dl, g1, g2, g3, g4, g5, g6, g7⟩

/-- A loop's record changes its state. -/
theorem Sat0.loop (hs : Sat0 F β ok e m a w) {L : Nat} {k : LoopKey} {st : LoopState} {pd : Option (Option Nat)} {l cap : Nat} (hL : m L = some (.loop k st pd)) (hb : β L = some (.at l cap)) (st' : LoopState) (pd' : Option (Option Nat))
    {r : Loop} (hr : w.heap[l]? = some (.loop r)) : Sat0 F β ok e (upd m L (some (.loop k st' pd'))) a (setB w l (.loop { r with state := st', pending := jumpOf pd' })) := by
  have hor := hs.mem.orep hL hb
  obtain ⟨⟨tm, ca, cb, dl, g1, g2, g3, g4, g5, g6, g7, g8⟩, g9⟩ := hor
  rw [hr] at g1; injection g1 with g1; injection g1 with g1; subst g1
  have hl : l < w.heap.size := (Array.getElem?_eq_some_iff.1 hr).1
  refine hs.change hL rfl rfl hb rfl rfl rfl setB_size (Nat.le_refl _) (fun k hk => setB_other k hk) fun h1 h2 => ?_
  refine ⟨⟨tm, ca, cb, dl, by rw [setB_same hl], g2, fun t p ht => ?_, g4, g5, g6, g7, g8⟩, g9⟩
  obtain ⟨v, hv, hrv⟩ := g3 t p ht
  have hown : Owns β m l := ⟨L, _, cap, hL, rfl, hb⟩
  refine ⟨v, hv, hrv.mono (fun q hq => setB_other q fun h => ?_) (fun _ h => h) _ (fun _ _ h => h)⟩
  exact hs.mem.not_ok hown (by rw [← h]; exact hq)

theorem putL_none : ∀ {ps : List Nat} {qs : List PV} {e : Env} {t : Nat}, t ∉ ps → putL e ps qs t = e t
  | [], _, _, _, _ => by unfold putL; rfl
  | _ :: _, [], _, _, _ => rfl
  | s :: ps, q :: qs, e, t, h => by
    simp only [List.mem_cons, not_or] at h
    show putL (upd e s (some q)) ps qs t = e t
    rw [putL_none h.2, upd_other _ _ h.1]

theorem putL_rep {n : Nat} : ∀ {ps : List Nat} {qs : List PV} {vs : List Value} {e : Env} {tm : Array Value}, (∀ t ∈ ps, t < n) → tm.size = n → vs.length = qs.length → qs.length = ps.length → (∀ (j : Nat) p v, qs[j]? = some p → vs[j]? = some v → Rep w ok β p v) →
    (∀ t p, e t = some p → ∃ v, tm[t]? = some v ∧ Rep w ok β p v) → ((ps.zip vs).foldl (fun tm x => tm.setIfInBounds x.1 x.2) tm).size = n ∧
    ∀ t p, putL e ps qs t = some p → ∃ v, ((ps.zip vs).foldl (fun tm x => tm.setIfInBounds x.1 x.2) tm)[t]? = some v ∧ Rep w ok β p v
  | [], qs, vs, e, tm, _, h1, _, _, _, h => by
    refine ⟨by simpa using h1, fun t p hp => ?_⟩
    simpa using h t p (by unfold putL at hp; exact hp)
  | s :: ps, q :: qs, v :: vs, e, tm, hn, h1, h2, h3, hr, h => by
    simp only [List.zip_cons_cons, List.foldl_cons]
    refine putL_rep (fun t ht => hn t (List.mem_cons_of_mem _ ht)) (by simpa using h1) (by simpa using h2) (by simpa using h3) (fun j p v h1 h2 => hr (j + 1) p v (by simpa using h1) (by simpa using h2)) fun t p hp => ?_
    by_cases he : t = s
    · subst he
      rw [upd_same] at hp; injection hp with hp; subst hp
      have : t < tm.size := by rw [h1]; exact hn t List.mem_cons_self
      exact ⟨v, by simp [this], hr 0 q v rfl rfl⟩
    · rw [upd_other _ _ he] at hp
      obtain ⟨u, hu, hru⟩ := h t p hp
      exact ⟨u, by simp [Array.getElem?_setIfInBounds_ne (Ne.symm he), hu], hru⟩
  | _ :: _, [], _, _, _, _, _, _, h, _, _ => by simp at h
  | _ :: _, _ :: _, [], _, _, _, _, h, _, _, _ => by simp at h

/-- **A round's contract out of the loop's body.** -/
theorem VL.of (hmix : P.follows .mixedOrders = true) {k : LoopKey} {L b : Nat} {args : List PV} {m0 : Mem} {K : PV → Mem → Prop} {pd : Option (Option Nat)} (hP : k.P = P) (hL : m0 L = some (.loop k .ready pd)) (hlen : args.length = k.ps.length) (hfa : k.xa.flat = true) (hfb : k.xb.flat = true)
    (h : VW P k.xa (YBody P k L b K) (putL k.e k.ps args) m0 b) : VX P (.y L) args m0 b K := by
  refine ⟨trivial, fun w β ok vs hm hfr hok hr => ?_⟩
  obtain ⟨lc, hlc, hor⟩ := hm.objs L _ hL
  cases lc with
  | nil => exact hor.elim
  | «at» l cap =>
    obtain ⟨tm, ca, cb, dl, g1, g2, g3, g4, g5, g6, g7⟩ := loop_block hm hL hlc
    rw [hP] at g4 g5
    refine ⟨l, cap, hlc, k.fn, (k.ps.toArray.zip vs.toArray).foldl (fun tm x => tm.setIfInBounds x.1 x.2) tm, ca, cb, ?_, ?_⟩
    · have hsz : vs.toArray.size = k.ps.toArray.size := by simp; rw [hr.1, hlen]
      simp only [Instr.yield, Instr.getLoop, Sem.run_bind, run_getObj g1 rfl, Result.andThen_ok, Sem.run_pure, hsz, ne_eq, not_true_eq_false, if_false]
    · let F : Fr := ⟨k.n, w, Owns β m0, ok, b, β⟩
      have hz : (k.ps.toArray.zip vs.toArray).foldl (fun tm x => tm.setIfInBounds x.1 x.2) tm = (k.ps.zip vs).foldl (fun tm x => tm.setIfInBounds x.1 x.2) tm := by
        rw [← Array.foldl_toList]; simp
      obtain ⟨p1, p2⟩ := putL_rep (w := w) (ok := ok) (β := β) (vs := vs) (e := k.e) (tm := tm) g6 g2 hr.1 hlen hr.2 (fun t p ht => by obtain ⟨v, hv, hrv⟩ := g3 t p ht; exact ⟨v, hv, hrv.mono (fun _ _ => rfl) (fun _ h => h) _ g7⟩)
      rw [← hz] at p1 p2
      have hs : Sat0 F β ok (putL k.e k.ps args) m0 { tmps := (k.ps.toArray.zip vs.toArray).foldl (fun tm x => tm.setIfInBounds x.1 x.2) tm, defers := [] } w :=
        ⟨p1, .nil, p2, hm, hok, Keeps.refl _ _, fun k hk => .inl hk, fun k hk => hk, fun k hk => .inl hk⟩
      refine roundIn_of_wpIn (F := Fence.wide) trivial ?_
      have h1 := h (some l) F ca β ok _ w hmix (.inr hfa) g4 hs hfr ⟨Nat.le_refl _, fun _ _ => rfl⟩
      refine wpIn_mono (F := wf (some l)) h1 ?_
      rintro ex a1 w1 ⟨e1, m1, nx1, β1, ok1, hs1, hf1, hd1, hq⟩
      cases ex with
      | exit i => exact hq.elim
      | ret => exact hq.elim
      | goto l => exact hq.elim
      | panic ch => exact hq.elim
      | outgrown => exact hq.elim
      | normal =>
        obtain ⟨pd1, hL1, hq⟩ := hq
        have hLb : L < b := by
          rcases Nat.lt_or_ge L b with h | h
          · exact h
          · rw [hfr L h] at hlc; cases hlc
        have hb1 : β1 L = some (.at l cap) := (hd1.2 L hLb).trans hlc
        obtain ⟨tm1, ca1, cb1, dl1, q1, _⟩ := loop_block hs1.mem hL1 hb1
        have hs2 := hs1.loop hL1 hb1 .busy pd1 q1
        refine ⟨setB w1 l (.loop { state := .busy, pending := jumpOf pd1, fn := k.fn, tmps := tm1, params := k.ps.toArray, assign := ca1, body := cb1, defers := dl1 }), ?_, ?_⟩
        · simp only [Instr.beginRound, Instr.getLoop, Sem.run_bind, run_getObj q1 rfl, Result.andThen_ok, Sem.run_pure, run_setObj _ q1 rfl]
        · refine wpIn_mono (F := wf (some l)) (hq (some l) F cb β1 ok1 a1 _ hmix (.inr hfb) g5 hs2 hf1 hd1) ?_
          rintro ex a2 w2 ⟨e2, m2, nx2, β2, ok2, hs3, hf3, hd3, hq⟩
          have hb2 : β2 L = some (.at l cap) := (hd3.2 L hLb).trans hlc
          have fin : ∀ (c : Option Code) (pd' : Option (Option Nat)) (st' : LoopState), c = jumpOf pd' → st' = (if c.isNone then .ready else .done) → (∃ pd, m2 L = some (.loop k .busy pd) ∧ ∃ r m', K r m' ∧ EndsQ (.bool c.isNone) b r m' (upd m2 L (some (.loop k st' pd')))) →
              ∃ v w', (Instr.endRound l c).run P w2 = .ok v w' ∧ ∃ (v0 : Value) (r : PV) (m' : Mem) (β' : Ids) (ok' : Nat → Prop), Ending.returned v = .returned v0 ∧ K r m' ∧ Rep w' ok' β' r v0 ∧ MSat w' ok' β' m' ∧ Keeps w (Owns β m0) w' ∧
                (∀ id, id < b → β' id = β id) ∧ (∀ id, b + 8 ≤ id → β' id = none) ∧ (∀ k, ok k → ok' k) ∧ (∀ k, ok' k → k < w'.heap.size) ∧
                (∀ k, ok' k → ok k ∨ Owns β m0 k ∨ w.heap.size ≤ k) ∧ ∀ k, Owns β' m' k → Owns β m0 k ∨ w.heap.size ≤ k := by
            rintro c pd' st' hc hst ⟨pd2, hL2, r, m', hK, hE⟩
            obtain ⟨tm2, ca2, cb2, dl2, z1, _⟩ := loop_block hs3.mem hL2 hb2
            have hs4 := hs3.loop hL2 hb2 st' pd' z1
            have hE' := ends_out (v := .bool c.isNone) hs4 hd3 rfl hE (.bool _)
            refine ⟨.bool c.isNone, setB w2 l (.loop { state := st', pending := jumpOf pd', fn := k.fn, tmps := tm2, params := k.ps.toArray, assign := ca2, body := cb2, defers := dl2 }), ?_, .bool c.isNone, r, m', ?_⟩
            rotate_left
            · obtain ⟨β', ok', h1, h2, h3, h4, h5, h6, h7, h8, h9⟩ := hE'
              exact ⟨β', ok', rfl, hK, h1, h2, h3, h4, h5, h6, h7, h8, h9⟩
            · simp only [Instr.endRound, Instr.getLoop, Sem.run_bind, run_getObj z1 rfl, Result.andThen_ok, Sem.run_pure, run_setObj _ z1 rfl, hst, hc]
          cases ex with
          | normal => exact fin none none .ready rfl rfl hq
          | ret => exact fin (some .ret) (some none) .done rfl rfl hq
          | exit i => exact fin (some (.exit i)) (some (some i)) .done rfl rfl hq
          | goto l => exact hq.elim
          | panic ch => exact hq.elim
          | outgrown => exact hq.elim

end
end Go.Vx
/- The engine, part 21b: the statement 'for .. range f'. -/
set_option linter.unusedVariables false
set_option linter.unusedSimpArgs false
namespace Go.Vx
open Go Go.RowKit

/-- The objects behind a range over a function. -/
def rangeM (m0 : Mem) (L : Nat) (m1 m : Mem) : Mem := upd (patch m0 (L + 8) m1 m) L none

section
variable {P : Program} {F : Fr} {β β' : Ids} {ok : Nat → Prop} {e : Nat → Option PV} {m : Mem} {a : Act} {w : World} {Q : Post} {nx : Nat}

/-- **A range over a function**: the function is called with the loop's body (number nx), over the objects m0; what it leaves is m1. -/
theorem VW.rangeF {g : XA} {ps : List Nat} {xa xb : XCode} {f : Nat} {caps : List PV} (hg : g.ev e = some (.fn f caps))
    (h : ∀ k : LoopKey, k.P = P → k.e = e → k.ps = ps → k.xa = xa → k.xb = xb → k.top = nx →
      ∃ (qs : List PV) (m0 : Mem) (K : PV → Mem → Prop), Args (nx + 8) m (.yld nx :: caps) (.yld nx :: qs) ∧ (∀ id o, m0 id = some o → m id = some o ∧ o.lt (nx + 8) = true) ∧
        VX P (.f f) (.yld nx :: qs) (upd m0 nx (some (.loop k .ready none))) (nx + 8) K ∧
        ∀ r m1, K r m1 → ∃ k' st pd, m1 nx = some (.loop k' st pd) ∧ st ≠ .busy ∧
          match pd with
          | none => Q .normal e (rangeM m0 nx m1 m) (nx + 16)
          | some none => Q .ret e (rangeM m0 nx m1 m) (nx + 16)
          | some (some i) => Q (.exit i) e (rangeM m0 nx m1 m) (nx + 16)) : VW P (.rangeF g ps xa xb) Q e m nx := by
  intro ro F c β ok a w hm hro hc hs hf hd
  obtain ⟨og, pa, ca, cb, rfl, hog, hpa, hps, hca, hcb⟩ := compC_inv hc
  have hro : ro = none := hro.resolve_right (by simp [XCode.flat])
  subst hro
  have hnxm : m nx = none := by
    cases hid : m nx with
    | none => rfl
    | some ob =>
      obtain ⟨l, hl, _⟩ := hs.mem.objs nx ob hid
      rw [hf nx (Nat.le_refl _)] at hl; cases hl
  refine wpIn_rangeFunc fun fn _ => ?_
  obtain ⟨k, hk⟩ : ∃ k : LoopKey, k = ⟨P, F.n, e, ps, xa, xb, β, nx, fn⟩ := ⟨_, rfl⟩
  obtain ⟨qs, m0, K, hargs, hsub, hv, hend⟩ := h k (by rw [hk]) (by rw [hk]) (by rw [hk]) (by rw [hk]) (by rw [hk]) (by rw [hk])
  -- the record is laid
  obtain ⟨rec, hrec⟩ : ∃ rec : Loop, rec = { state := .ready, pending := none, fn := fn, tmps := a.tmps, params := pa, assign := ca, body := cb, defers := w.heap.size } := ⟨_, rfl⟩
  obtain ⟨w1, hw1⟩ : ∃ w1, w1 = w.alloc (.deferred (some [])) := ⟨_, rfl⟩
  obtain ⟨w2, hw2⟩ : ∃ w2, w2 = w1.alloc (.loop rec) := ⟨_, rfl⟩
  have hsz1 : w1.heap.size = w.heap.size + 1 := by rw [hw1]; simp
  have hsz2 : w2.heap.size = w.heap.size + 2 := by rw [hw2]; simp [hsz1]
  have hold1 : ∀ k, k < w.heap.size → w1.heap[k]? = w.heap[k]? := fun k hk => by rw [hw1]; exact Below.heap_alloc w _ k hk
  have hold2 : ∀ k, k < w1.heap.size → w2.heap[k]? = w1.heap[k]? := fun k hk => by rw [hw2]; exact Below.heap_alloc w1 _ k hk
  have hold : ∀ k, k < w.heap.size → w2.heap[k]? = w.heap[k]? := fun k hk => by rw [hold2 k (by omega), hold1 k hk]
  have hD : w2.heap[w.heap.size]? = some (.deferred (some [])) := by rw [hold2 _ (by omega), hw1]; exact heap_alloc_new w _
  have hL : w2.heap[w.heap.size + 1]? = some (.loop rec) := by rw [hw2, ← hsz1]; exact heap_alloc_new w1 _
  obtain ⟨d0, hd0⟩ : ∃ d0 : Deferred, d0 = { target := .collected w.heap.size, args := #[] } := ⟨_, rfl⟩
  obtain ⟨β1, hβ1⟩ : ∃ β1, β1 = upd β nx (some (.at (w.heap.size + 1) 0)) := ⟨_, rfl⟩
  have hbm : ∀ id x, β id = some x → β1 id = some x := by rw [hβ1]; exact beta_upd (hf nx (Nat.le_refl _))
  have hnokL : ¬ ok (w.heap.size + 1) := fun h => by have := hs.okb _ h; omega
  have hnokD : ¬ ok w.heap.size := fun h => by have := hs.okb _ h; omega
  have hrm : ∀ {β' p v}, Rep w ok β' p v → Rep w2 ok β' p v := fun h => h.mono (fun k hk => hold k (hs.okb k hk)) (fun _ h => h) _ (fun _ _ h => h)
  have hOw : ∀ b, Owns β1 (upd m nx (some (.loop k .ready none))) b → Owns β m b ∨ b = w.heap.size + 1 := by
    rintro b ⟨id, o, cap, h1, h2, h3⟩
    by_cases he : id = nx
    · subst he
      rw [hβ1, upd_same] at h3; injection h3 with h3; injection h3 with h3; exact .inr h3.symm
    · rw [upd_other _ _ he] at h1
      rw [hβ1, upd_other _ _ he] at h3
      exact .inl ⟨id, o, cap, h1, h2, h3⟩
  have hs2 : Sat0 F β1 ok e (upd m nx (some (.loop k .ready none))) { a with defers := d0 :: a.defers } w2 := by
    refine ⟨hs.size, ⟨fun d hd => ?_, ?_⟩, fun t p ht => ?_, ⟨fun id o ho => ?_, fun i1 i2 o1 o2 bb c1 c2 h1 h2 h3 h4 f1 f2 => ?_⟩, fun b hb => by have := hs.okb b hb; omega, ?_, fun b hb => ?_, hs.ok0, hs.oks⟩
    · rcases List.mem_cons.1 hd with rfl | hd
      · refine ⟨w.heap.size, by rw [hd0], hD, hs.keeps.size, hnokD, fun ho => ?_⟩
        rcases hOw _ ho with h | h
        · obtain ⟨id, o, cap, h1, h2, h3⟩ := h
          have := hs.mem.lt h1 h3; omega
        · omega
      · obtain ⟨D, g1, g2, g3, g4, g5⟩ := hs.defers.each d hd
        have hDl : D < w.heap.size := (Array.getElem?_eq_some_iff.1 g2).1
        refine ⟨D, g1, by rw [hold D hDl]; exact g2, g3, g4, fun ho => ?_⟩
        rcases hOw _ ho with h | h
        · exact g5 h
        · omega
    · refine List.pairwise_cons.2 ⟨fun d hd => ?_, hs.defers.apart⟩
      obtain ⟨D, g1, g2, _⟩ := hs.defers.each d hd
      have hDl : D < w.heap.size := (Array.getElem?_eq_some_iff.1 g2).1
      rw [hd0, g1]
      intro h; injection h with h; omega
    · obtain ⟨v, hv, hr⟩ := hs.env t p ht
      exact ⟨v, hv, (hrm hr).mono (fun _ _ => rfl) (fun _ h => h) _ hbm⟩
    · by_cases he : id = nx
      · subst he
        rw [upd_same] at ho; injection ho with ho; subst ho
        refine ⟨.at (w.heap.size + 1) 0, by rw [hβ1, upd_same], ⟨a.tmps, ca, cb, w.heap.size, ?_, ?_, ?_, ?_, ?_, ?_, ?_, ?_⟩, hnokL⟩
        · rw [hL, hrec, hk, ← hpa]; rfl
        · rw [hk]; exact hs.size
        · rw [hk]
          intro t p ht
          obtain ⟨v, hv, hr⟩ := hs.env t p ht
          exact ⟨v, hv, hrm hr⟩
        · rw [hk]; exact hca
        · rw [hk]; exact hcb
        · rw [hk]; exact hps
        · rw [hk]; exact hbm
        · rw [hk]; exact hf
      · rw [upd_other _ _ he] at ho
        obtain ⟨l, hl, hr⟩ := hs.mem.objs id o ho
        refine ⟨l, hbm _ _ hl, hr.mono (fun k hk => hold k (hs.okb k hk)) (fun _ h => h) hbm fun bb cap hll => ?_⟩
        subst hll
        exact ⟨hold bb hr.lt, fun h => h⟩
    · by_cases e1 : i1 = nx <;> by_cases e2 : i2 = nx
      · rw [e1, e2]
      · exfalso
        rw [hβ1, e1, upd_same] at h3; injection h3 with h3; injection h3 with h3
        rw [upd_other _ _ e2] at h2
        rw [hβ1, upd_other _ _ e2] at h4
        have := hs.mem.lt h2 h4; omega
      · exfalso
        rw [hβ1, e2, upd_same] at h4; injection h4 with h4; injection h4 with h4
        rw [upd_other _ _ e1] at h1
        rw [hβ1, upd_other _ _ e1] at h3
        have := hs.mem.lt h1 h3; omega
      · rw [upd_other _ _ e1] at h1
        rw [upd_other _ _ e2] at h2
        rw [hβ1, upd_other _ _ e1] at h3
        rw [hβ1, upd_other _ _ e2] at h4
        exact hs.mem.disj i1 i2 o1 o2 bb c1 c2 h1 h2 h3 h4 f1 f2
    · refine ⟨by rw [hw2, hw1]; exact hs.keeps.os, by rw [hw2, hw1]; exact hs.keeps.tape, by rw [hw2, hw1]; exact hs.keeps.output, by have := hs.keeps.size; omega, fun b hb hn => ?_, by rw [hw2, hw1]; exact hs.keeps.drawn⟩
      rw [hold b (Nat.lt_of_lt_of_le hb hs.keeps.size)]
      exact hs.keeps.block b hb hn
    · rcases hOw b hb with h | h
      · exact hs.own b h
      · have := hs.keeps.size; exact .inr (by omega)
  -- the function
  obtain ⟨us, hul, hur, heval⟩ : ∃ us : List Value, us.length = caps.length ∧ (∀ (j : Nat) c v, caps[j]? = some c → us[j]? = some v → Rep w ok β c v) ∧ a.eval og = .func (.func f) #[] us.toArray := by
    have hr := ev_rep hs hog hg
    generalize hv : a.eval og = v at hr
    cases hr with
    | fn _ _ us hul hur => exact ⟨us, hul, hur, rfl⟩
  have hreps : Reps w2 ok β1 (.yld nx :: caps) (.func (.yield (w.heap.size + 1)) #[] #[] :: us) := by
    refine ⟨by simp [hul], fun j p v hp hv => ?_⟩
    cases j with
    | zero => simp at hp hv; subst hp; subst hv; exact .yld nx _ 0 (by rw [hβ1, upd_same])
    | succ j => exact (hrm (hur j p v (by simpa using hp) (by simpa using hv))).mono (fun _ _ => rfl) (fun _ h => h) _ hbm
  have hm0nx : m0 nx = none := by
    cases h0 : m0 nx with
    | none => rfl
    | some ob => rw [(hsub nx ob h0).1] at hnxm; cases hnxm
  have hidlt : ∀ id o, m id = some o → id < nx := fun id o h => by
    rcases Nat.lt_or_ge id nx with h2 | h2
    · exact h2
    · obtain ⟨l, hl, _⟩ := hs.mem.objs id o h
      rw [hf id h2] at hl; cases hl
  have hmsub : Sub m (upd m nx (some (.loop k .ready none))) := fun id o h => by
    rw [upd_other _ _ (by have := hidlt id o h; omega)]; exact h
  have hcall := v_apply hs2 (b := nx + 8) (fun id h1 _ => by rw [hβ1, upd_other _ _ (by omega)]; exact hf id (by omega)) (mR := upd m nx (some (.loop k .ready none))) (fun _ _ h => h) hreps (hargs.sub hmsub) (m0 := upd m0 nx (some (.loop k .ready none))) (fun id o h => by
    by_cases he : id = nx
    · subst he
      rw [upd_same] at h; injection h with h; subst h
      refine ⟨upd_same _ _ _, by omega, ?_⟩
      simp [Obj.lt, hk]
    · rw [upd_other _ _ he] at h
      obtain ⟨h1, h2⟩ := hsub id o h
      exact ⟨by rw [upd_other _ _ he]; exact h1, by have := hidlt id o h1; omega, h2⟩) hv
  have hround : F.w0.heap.size ≤ w.heap.size := hs.keeps.size
  refine ⟨w.heap.size + 1, [d0], w2, { target := .fn (.func f) us.toArray, args := #[.func (.yield (w.heap.size + 1)) #[] #[]] }, w2, f, (.func (.yield (w.heap.size + 1)) #[] #[] :: us).toArray, w2, ?_, ?_, fun _ _ => trivial, ?_, fun h => (by cases h), ?_⟩
  · simp only [Instr.enterLoop, Sem.run_bind, run_newObj_alloc, Result.andThen_ok, Sem.run_pure, ← hw1, hd0, hrec, hw2, hsz1]
  · have e1 : resolve a.eval (rangeCall og (w.heap.size + 1)) 0 = Deferred.ofValue (a.eval og) #[.func (.yield (w.heap.size + 1)) #[] #[]] := by
      unfold resolve
      simp only [rangeCall, List.map_toArray, List.map_cons, List.map_nil]
      rfl
    rw [e1, heval]
    simp [Deferred.ofValue]
  · have hent := hv.1
    simp only [invoke]
    have := hent (.func (.yield (w.heap.size + 1)) #[] #[] :: us).toArray w2
    simpa using this
  · refine CallsIn.mono (F := wf none) (callsIn_wide.2 hcall) ?_
    rintro e' w3 ⟨v, r, m1, β3, ok3, rfl, hK, hrep, hs3, hfar⟩
    obtain ⟨k', st, pd, hm1, hst, hq⟩ := hend r m1 hK
    have hpm : patch (upd m0 nx (some (.loop k .ready none))) (nx + 8) m1 (upd m nx (some (.loop k .ready none))) nx = some (.loop k' st pd) := by
      simp only [patch, upd_same, Option.isSome_some, true_or, if_true, hm1]
    have hb3 : β3 nx = some (.at (w.heap.size + 1) 0) := by rw [hfar nx (.inl (by omega)), hβ1, upd_same]
    obtain ⟨tm3, ca3, cb3, dl3, z1, _⟩ := loop_block hs3.mem hpm hb3
    obtain ⟨w4, hw4⟩ : ∃ w4, w4 = setB w3 (w.heap.size + 1) (.loop { state := .exhausted, pending := jumpOf pd, fn := k'.fn, tmps := tm3, params := k'.ps.toArray, assign := ca3, body := cb3, defers := dl3 }) := ⟨_, rfl⟩
    have hstb : (st == LoopState.busy) = false := by cases st <;> first | rfl | exact absurd rfl hst
    have hMM : ∀ id, rangeM m0 nx m1 m id = if id = nx then none else patch (upd m0 nx (some (.loop k .ready none))) (nx + 8) m1 (upd m nx (some (.loop k .ready none))) id := fun id => by
      unfold rangeM
      by_cases he : id = nx
      · rw [he, upd_same, if_pos rfl]
      · rw [upd_other _ _ he, if_neg he]
        simp only [patch, upd_other _ _ he]
    have hs4 : Sat0 F β3 ok3 e (rangeM m0 nx m1 m) { a with defers := d0 :: a.defers } w4 := by
      have hown : Owns β3 (patch (upd m0 nx (some (.loop k .ready none))) (nx + 8) m1 (upd m nx (some (.loop k .ready none)))) (w.heap.size + 1) := ⟨nx, _, 0, hpm, rfl, hb3⟩
      have hoth : ∀ q, q < w3.heap.size → ¬ (q = w.heap.size + 1) → w4.heap[q]? = w3.heap[q]? := fun q _ hq => by rw [hw4]; exact setB_other q hq
      have hch : ∀ q, q < w3.heap.size → q = w.heap.size + 1 → Owns β3 (patch (upd m0 nx (some (.loop k .ready none))) (nx + 8) m1 (upd m nx (some (.loop k .ready none)))) q := fun q _ hq => hq ▸ hown
      refine hs3.step (· = w.heap.size + 1) hoth hch (by rw [hw4]; rfl) (by rw [hw4]; rfl) (by rw [hw4]; rfl) (by rw [hw4, setB_size]; exact Nat.le_refl _) (by rw [hw4]; exact Nat.le_refl _) (fun _ _ h => h) ⟨fun id o ho => ?_, fun i1 i2 o1 o2 bb c1 c2 h1 h2 h3 h4 f1 f2 => ?_⟩ ?_
      · rw [hMM] at ho
        split at ho
        · cases ho
        · rename_i he
          obtain ⟨l, hl, hr⟩ := hs3.mem.objs id o ho
          refine ⟨l, hl, hr.mono (hs3.okw hoth hch) (fun _ h => h) (fun _ _ h => h) fun bb cap hll => ?_⟩
          subst hll
          refine ⟨hoth bb hr.lt fun hbb => ?_, fun h => h⟩
          subst hbb
          exact he (hs3.mem.disj' ho hpm hl hb3 rfl)
      · rw [hMM] at h1 h2
        split at h1
        · cases h1
        split at h2
        · cases h2
        exact hs3.mem.disj i1 i2 o1 o2 bb c1 c2 h1 h2 h3 h4 f1 f2
      · rintro bb ⟨id, o, cap, h1, h2, h3⟩
        rw [hMM] at h1
        split at h1
        · cases h1
        exact .inl ⟨id, o, cap, h1, h2, h3⟩
    have hf4 : ∀ id, nx + 16 ≤ id → β3 id = none := fun id h => by rw [hfar id (.inr (by omega)), hβ1, upd_other _ _ (by omega)]; exact hf id (by omega)
    have hd4 : Held F β3 (nx + 16) := ⟨by have := hd.1; omega, fun id h => by
      have h5 := hd.1
      rw [hfar id (.inl (by omega)), hβ1, upd_other _ _ (by omega)]; exact hd.2 id h⟩
    refine ⟨jumpOf pd, w4, ?_, ?_⟩
    · simp only [Instr.endLoop, Instr.getLoop, Sem.run_bind, run_getObj z1 rfl, Result.andThen_ok, Sem.run_pure, hstb, Bool.false_eq_true, if_false, run_setObj _ z1 rfl, hw4]
    · cases pd with
      | none => exact ⟨e, _, _, β3, ok3, hs4, hf4, hd4, hq⟩
      | some j =>
        cases j with
        | none => exact wpIn_ret (F := wf none) ⟨e, _, _, β3, ok3, hs4, hf4, hd4, hq⟩
        | some i => exact wpIn_exit (F := wf none) ⟨e, _, _, β3, ok3, hs4, hf4, hd4, hq⟩

end
end Go.Vx
/- The engine, part 21c: rows that are written no more, as values in cells and slots. -/
set_option linter.unusedVariables false
set_option linter.unusedSimpArgs false
namespace Go.Vx
open Go Go.RowKit

section
variable {P : Program} {Q : Post} {e : Env} {m : Mem} {nx : Nat}
/-- A box's cells, read as values. -/
theorem VW.cells {x : XCode} {id T : Nat} {cs cs' : List PV} (ht : m id = some (.box cs T)) (hl : cs'.length = cs.length) (hc : ∀ (j : Nat) c c', cs[j]? = some c → cs'[j]? = some c' → c' = c ∨ pur true m c = some c')
    (h : VW P x Q e (upd m id (some (.box cs' T))) nx) : VW P x Q e m nx := by
  intro ro F c β ok a w hm hro hcc hs hf hd
  have hown : ∀ b, Owns β (upd m id (some (.box cs' T))) b → Owns β m b := by
    rintro b ⟨i, o, cap, h1, h2, h3⟩
    by_cases hi : i = id
    · subst hi; exact ⟨i, _, cap, ht, rfl, h3⟩
    · rw [upd_other _ _ hi] at h1; exact ⟨i, o, cap, h1, h2, h3⟩
  refine h ro F c β ok a w hm hro hcc ⟨hs.size, hs.defers.step (fun _ => False) (fun _ _ _ => rfl) (fun _ _ h => h.elim) (fun b hb => .inl (hown b hb)) (fun _ h => .inl h), hs.env, ⟨fun i o hi => ?_, fun i i' o o' b c1 c2 h1 h2 h3 h4 f1 f2 => ?_⟩, hs.okb, hs.keeps, fun k hk => hs.own k (hown k hk), hs.ok0, hs.oks⟩ hf hd
  · by_cases hid : i = id
    · subst hid
      rw [upd_same] at hi; injection hi with hi; subst hi
      obtain ⟨l, hl2, hr⟩ := hs.mem.objs i _ ht
      refine ⟨l, hl2, ?_⟩
      cases l with
      | nil => exact hr.elim
      | «at» b cap =>
        obtain ⟨⟨cur, g1, g2, g3, g4⟩, g5⟩ := hr
        have key : ∀ (j : Nat) c', cs'[j]? = some c' → ∃ c v, cs[j]? = some c ∧ cur[j]? = some v ∧ Rep w ok β c' v ∧ c'.one = true := fun j c' hj => by
          have hjl : j < cs.length := by rw [← hl]; exact (List.getElem?_eq_some_iff.1 hj).1
          have hcj : cs[j]? = some cs[j] := by simp [hjl]
          obtain ⟨v, hv, hrv⟩ := g4 j _ hcj
          rcases hc j _ c' hcj hj with rfl | hp
          · exact ⟨_, v, hcj, hv, hrv, g3 _ (List.mem_of_getElem? hcj)⟩
          · have := pur_rep hs.mem hp hrv
            exact ⟨_, v, hcj, hv, this.1.any, this.2⟩
        refine ⟨⟨cur, g1, by rw [hl]; exact g2, fun c hc' => ?_, fun j c hj => ?_⟩, g5⟩
        · obtain ⟨j, hj⟩ := List.mem_iff_getElem?.1 hc'
          obtain ⟨_, _, _, _, _, h⟩ := key j c hj
          exact h
        · obtain ⟨_, v, _, hv, hr, _⟩ := key j c hj
          exact ⟨v, hv, hr⟩
    · rw [upd_other _ _ hid] at hi
      exact hs.mem.objs i o hi
  · by_cases e1 : i = id <;> by_cases e2 : i' = id
    · rw [e1, e2]
    · subst e1; rw [upd_other _ _ e2] at h2; exact hs.mem.disj _ _ _ _ b c1 c2 ht h2 h3 h4 rfl f2
    · subst e2; rw [upd_other _ _ e1] at h1; exact hs.mem.disj _ _ _ _ b c1 c2 h1 ht h3 h4 f1 rfl
    · rw [upd_other _ _ e1] at h1; rw [upd_other _ _ e2] at h2; exact hs.mem.disj _ _ _ _ b c1 c2 h1 h2 h3 h4 f1 f2

/-- A slot, read as a value. -/
theorem VW.slot {x : XCode} {t : Nat} {p q : PV} (ht : e t = some p) (hp : pur true m p = some q) (h : VW P x Q (upd e t (some q)) m nx) : VW P x Q e m nx := by
  intro ro F c β ok a w hm hro hcc hs hf hd
  refine h ro F c β ok a w hm hro hcc ⟨hs.size, hs.defers, fun i p' hi => ?_, hs.mem, hs.okb, hs.keeps, hs.own, hs.ok0, hs.oks⟩ hf hd
  by_cases he : i = t
  · subst he
    rw [upd_same] at hi; injection hi with hi; subst hi
    obtain ⟨v, hv, hr⟩ := hs.env i p ht
    exact ⟨v, hv, (pur_rep hs.mem hp hr).1.any⟩
  · rw [upd_other _ _ he] at hi
    exact hs.env i p' hi
end
end Go.Vx
/- The engine, part 22: steps, for simp. -/
set_option linter.unusedVariables false
set_option linter.unusedSimpArgs false
namespace Go.Vx
open Go Go.RowKit

def goOn (P : Program) (base i : Nat) (l : List XOp) (e : Env) (d : Option Nat) (K : Env → Mem → Prop) (p : PV) (m : Mem) : Prop := vops P base (i + 1) l (putE e d p) m K
def goD (P : Program) (base i : Nat) (so : Bool) (m0 : Mem) (H : List (Nat × Mem × Mem)) (l : List XOp) (e : Env) (d : Option Nat) (K : Env → Mem → Prop) (p : PV) (m : Mem) : Prop := vopsD P base (i + 1) (addH so i m0 m H) l (putE e d p) m K
def goA (P : Program) (base i : Nat) (x : XI) (l : List XOp) (e : Env) (d : Option Nat) (K : Env → Mem → Prop) (m : Mem) (u : Unit) : Prop := vop P (base + 8 * i) true none x e m m (goOn P base i l e d K)
def goAD (P : Program) (base i : Nat) (x : XI) (an : Nat) (bar so : Bool) (H : List (Nat × Mem × Mem)) (l : List XOp) (e : Env) (d : Option Nat) (K : Env → Mem → Prop) (m : Mem) (u : Unit) : Prop := vop P (base + 8 * i) (bar || so) (some base) x e (restrH base an H m) m (goD P base i so m H l e d K)
def goB (P : Program) (base i : Nat) (l : List XOp) (e : Env) (d : Option Nat) (K : Env → Mem → Prop) (m : Mem) (u : Unit) : Prop := vops P base (i + 1) l (putE e d (.tup [])) m K
def goBD (P : Program) (base i : Nat) (so : Bool) (H : List (Nat × Mem × Mem)) (l : List XOp) (e : Env) (d : Option Nat) (K : Env → Mem → Prop) (m : Mem) (u : Unit) : Prop := vopsD P base (i + 1) (addH so i m m H) l (putE e d (.tup [])) m K
/-- A guard. -/
def vg (o : Option PV) (want : Bool) (A B : Unit → Prop) : Prop :=
  match o with
  | some (.bool c) => (c = want → A ()) ∧ (c ≠ want → B ())
  | some (.tup []) => B ()
  | _ => False
def ob (o : Option (PV × Delta)) (m : Mem) (K : PV → Mem → Prop) : Prop :=
  match o with
  | some r => K r.1 (m.upds r.2)
  | none => False
def vc (P : Program) (b f : Nat) (mR m : Mem) (bar nd : Bool) (K : PV → Mem → Prop) (o : Option (List PV)) : Prop :=
  match o with
  | some ps => VCall P b (.f f) ps mR m bar nd K
  | none => False
/-- A call of a function value. -/
def vcv (P : Program) (b : Nat) (mR m : Mem) (bar nd : Bool) (K : PV → Mem → Prop) (f : Option PV) (o : Option (List PV)) : Prop :=
  match f, o with
  | some (.fn g caps), some ps => VCall P b (.f g) (ps ++ caps) mR m bar nd K
  | some (.yld L), some ps => VCall P b (.y L) ps mR m bar nd K
  | _, _ => False
/-- A step of a range over a map. -/
def vnx (nd : Option Nat) (m : Mem) (K : PV → Mem → Prop) (o : Option PV) : Prop :=
  match o with
  | some p => nd = none ∧ nextP p m K
  | none => False
def evs (e : Env) (l : List XA) : Option (List PV) := l.mapM fun x => x.ev e

/-- So many of one; each of one length: words that simp does not take apart. -/
def repl (n : Nat) (z : List PV) : List (List PV) := List.replicate n z
def allLen (k : Nat) (ys : List (List PV)) : Prop := ∀ y ∈ ys, y.length = k
instance {k : Nat} {ys : List (List PV)} : Decidable (allLen k ys) := inferInstanceAs (Decidable (∀ y ∈ ys, y.length = k))
theorem allLen_nil {k : Nat} : allLen k [] = True := by simp [allLen]
theorem allLen_cons {k : Nat} {y : List PV} {ys : List (List PV)} : allLen k (y :: ys) = (y.length = k ∧ allLen k ys) := by simp [allLen]
theorem vopF_mkslice {e : Env} {m : Mem} {b T k bytes : Nat} {z : List PV} {l c : XA} : vopF (.mkslice T k bytes z l c) e m b = (l.ev e).bind fun p => (c.ev e).bind fun q => (idx p).bind fun l => (idx q).bind fun c =>
    if z.length = k ∧ l ≤ c ∧ c * bytes ≤ 281474976710656 ∧ c ≤ maxLen then some (.osl b l, [(b, some (.row k (repl l z) T false))]) else none := rfl
theorem vopF_append {e : Env} {m : Mem} {b T k bytes : Nat} {s x : XA} : vopF (.append T k bytes s x) e m b = (s.ev e).bind fun p => (x.ev e).bind fun q => (elems m q).bind fun ys =>
    match p with
    | .osl id n => match m id with
      | some (.row k' xs T' false) => if k' = k ∧ T' = T ∧ n = xs.length ∧ allLen k ys ∧ (n + ys.length) * bytes ≤ 140737488355328 then
          some (.osl b (n + ys.length), [(id, none), (b, some (.row k (xs ++ ys) T false))]) else none
      | _ => none
    | .nsl => if allLen k ys ∧ ys.length * bytes ≤ 140737488355328 then some (.osl b ys.length, [(b, some (.row k ys T false))]) else none
    | _ => none := rfl

section
variable {P : Program} {base i : Nat} {l : List XOp} {e : Env} {m mR : Mem} {K : Env → Mem → Prop} {Kv : PV → Mem → Prop} {d : Option Nat} {b : Nat} {bar nd : Bool} {no : Option Nat} {p : PV} {an : Nat} {x : XI} {so : Bool} {m0 : Mem} {H : List (Nat × Mem × Mem)}

theorem goOn_eq : goOn P base i l e d K p m = vops P base (i + 1) l (putE e d p) m K := rfl
theorem goD_eq : goD P base i so m0 H l e d K p m = vopsD P base (i + 1) (addH so i m0 m H) l (putE e d p) m K := rfl
theorem addH_no {mm mm' : Mem} : addH false i mm mm' H = H := rfl
theorem addH_yes {mm mm' : Mem} : addH true i mm mm' H = (i, mm, mm') :: H := rfl
theorem goA_eq : goA P base i x l e d K m () = vop P (base + 8 * i) true none x e m m (goOn P base i l e d K) := rfl
theorem goAD_eq : goAD P base i x an bar so H l e d K m () = vop P (base + 8 * i) (bar || so) (some base) x e (restrH base an H m) m (goD P base i so m H l e d K) := rfl
theorem goB_eq : goB P base i l e d K m () = vops P base (i + 1) l (putE e d (.tup [])) m K := rfl
theorem goBD_eq : goBD P base i so H l e d K m () = vopsD P base (i + 1) (addH so i m m H) l (putE e d (.tup [])) m K := rfl
theorem vops_nil : vops P base i [] e m K = K e m := rfl
theorem vopsD_nil : vopsD P base i H [] e m K = K e m := rfl
theorem vops_cons : vops P base i (⟨d, x, none, an, bar, so⟩ :: l) e m K = vop P (base + 8 * i) true none x e m m (goOn P base i l e d K) := rfl
theorem vopsD_cons : vopsD P base i H (⟨d, x, none, an, bar, so⟩ :: l) e m K = vop P (base + 8 * i) (bar || so) (some base) x e (restrH base an H m) m (goD P base i so m H l e d K) := rfl
theorem vg_eq {t : Nat} {want : Bool} {A B : Unit → Prop} : vguard (some (t, want)) e (A ()) (B ()) = vg (e t) want A B := by
  simp only [vguard, vg]
  cases e t with
  | none => rfl
  | some p =>
    cases p with
    | tup vs => cases vs <;> rfl
    | _ => rfl
theorem vops_guard {t : Nat} {want : Bool} : vops P base i (⟨d, x, some (t, want), an, bar, so⟩ :: l) e m K = vg (e t) want (goA P base i x l e d K m) (goB P base i l e d K m) := vg_eq (A := goA P base i x l e d K m) (B := goB P base i l e d K m)
theorem vopsD_guard {t : Nat} {want : Bool} : vopsD P base i H (⟨d, x, some (t, want), an, bar, so⟩ :: l) e m K = vg (e t) want (goAD P base i x an bar so H l e d K m) (goBD P base i so H l e d K m) := vg_eq (A := goAD P base i x an bar so H l e d K m) (B := goBD P base i so H l e d K m)
theorem vg_tt {A B : Unit → Prop} : vg (some (.bool true)) true A B = A () := by simp [vg]
theorem vg_ff {A B : Unit → Prop} : vg (some (.bool false)) false A B = A () := by simp [vg]
theorem vg_tf {A B : Unit → Prop} : vg (some (.bool true)) false A B = B () := by simp [vg]
theorem vg_ft {A B : Unit → Prop} : vg (some (.bool false)) true A B = B () := by simp [vg]
theorem vg_un {want : Bool} {A B : Unit → Prop} : vg (some (.tup [])) want A B = B () := rfl
theorem vg_split {c want : Bool} {A B : Unit → Prop} (h1 : c = want → A ()) (h2 : c ≠ want → B ()) : vg (some (.bool c)) want A B := ⟨h1, h2⟩
theorem ob_some {dl : Delta} : ob (some (p, dl)) m Kv = Kv p (m.upds dl) := rfl
theorem ob_none : ob none m Kv = False := rfl
theorem upds_nil : m.upds [] = m := rfl
theorem upds_cons {id : Nat} {o : Option Obj} {dl : Delta} : m.upds ((id, o) :: dl) = Mem.upds (upd m id o) dl := rfl
theorem putE_some {t : Nat} : putE e (some t) p = upd e t (some p) := rfl
theorem putE_non : putE e none p = e := rfl
theorem evs_nil : evs e [] = some [] := rfl
theorem evs_cons {y : XA} {ys : List XA} : evs e (y :: ys) = (y.ev e).bind fun q => (evs e ys).map (q :: ·) := by
  simp only [evs, List.mapM_cons, Option.bind_eq_bind, Option.pure_def]
  cases y.ev e <;> simp
  cases List.mapM (fun x => XA.ev e x) ys <;> rfl
theorem vc_some {f : Nat} {ps : List PV} : vc P b f mR m bar nd Kv (some ps) = VCall P b (.f f) ps mR m bar nd Kv := rfl
theorem vcv_some {f : Nat} {caps ps : List PV} : vcv P b mR m bar nd Kv (some (.fn f caps)) (some ps) = VCall P b (.f f) (ps ++ caps) mR m bar nd Kv := rfl
theorem vcv_yld {L : Nat} {ps : List PV} : vcv P b mR m bar nd Kv (some (.yld L)) (some ps) = VCall P b (.y L) ps mR m bar nd Kv := rfl
theorem vnx_some : vnx none m Kv (some p) = nextP p m Kv := by simp [vnx]
theorem vop_next {x : XA} : vop P b bar no (.next x) e mR m Kv = vnx no m Kv (x.ev e) := by
  simp only [vop, vnx]
  cases x.ev e <;> simp [obind]
theorem vop_call {f : Nat} {xs : List XA} : vop P b bar no (.call f xs) e mR m Kv = vc P b f mR m bar no.isNone Kv (evs e xs) := by
  simp only [vop, evs]
  cases List.mapM (fun x => XA.ev e x) xs <;> rfl
theorem vop_callv {f : XA} {xs : List XA} : vop P b bar no (.callv f xs) e mR m Kv = vcv P b mR m bar no.isNone Kv (f.ev e) (evs e xs) := by
  simp only [vop, vcv, evs, obind]
  cases f.ev e with
  | none => rfl
  | some p => cases p <;> first | rfl | (cases List.mapM (fun x => XA.ev e x) xs <;> rfl)
theorem vop_mv {x} : vop P b bar no (.mv x) e mR m Kv = ob (vopF (.mv x) e mR b) m Kv := by simp only [vop]; cases vopF _ e mR b <;> rfl
theorem vop_nilrow {T k} : vop P b bar no (.nilrow T k) e mR m Kv = ob (vopF (.nilrow T k) e mR b) m Kv := by simp only [vop]; cases vopF _ e mR b <;> rfl
theorem vop_pick {c x y} : vop P b bar no (.pick c x y) e mR m Kv = ob (vopF (.pick c x y) e mR b) m Kv := by simp only [vop]; cases vopF _ e mR b <;> rfl
theorem vop_alloc {T z} : vop P b bar no (.alloc T z) e mR m Kv = ob (vopF (.alloc T z) e mR b) m Kv := by simp only [vop]; cases vopF _ e mR b <;> rfl
theorem vop_box {T k x} : vop P b bar no (.box T k x) e mR m Kv = ob (vopF (.box T k x) e mR b) m Kv := by simp only [vop]; cases vopF _ e mR b <;> rfl
theorem vop_build {z ps} : vop P b bar no (.build z ps) e mR m Kv = ob (vopF (.build z ps) e mR b) m Kv := by simp only [vop]; cases vopF _ e mR b <;> rfl
theorem vop_mkrow {T k len z ps} : vop P b bar no (.mkrow T k len z ps) e mR m Kv = ob (vopF (.mkrow T k len z ps) e mR b) m Kv := by simp only [vop]; cases vopF _ e mR b <;> rfl
theorem vop_load1 {x} : vop P b bar no (.load1 x) e mR m Kv = ob (vopF (.load1 x) e mR b) m Kv := by simp only [vop]; cases vopF _ e mR b <;> rfl
theorem vop_loadn {n x} : vop P b bar no (.loadn n x) e mR m Kv = ob (vopF (.loadn n x) e mR b) m Kv := by simp only [vop]; cases vopF _ e mR b <;> rfl
theorem vop_store {n x y} : vop P b bar no (.store n x y) e mR m Kv = ob (vopF (.store n x y) e mR b) m Kv := by simp only [vop]; cases vopF _ e mR b <;> rfl
theorem vop_nilck {x} : vop P b bar no (.nilck x) e mR m Kv = ob (vopF (.nilck x) e mR b) m Kv := by simp only [vop]; cases vopF _ e mR b <;> rfl
theorem vop_fieldA {off x} : vop P b bar no (.fieldA off x) e mR m Kv = ob (vopF (.fieldA off x) e mR b) m Kv := by simp only [vop]; cases vopF _ e mR b <;> rfl
theorem vop_indexS {k x i} : vop P b bar no (.indexS k x i) e mR m Kv = ob (vopF (.indexS k x i) e mR b) m Kv := by simp only [vop]; cases vopF _ e mR b <;> rfl
theorem vop_indexA {k len x i} : vop P b bar no (.indexA k len x i) e mR m Kv = ob (vopF (.indexA k len x i) e mR b) m Kv := by simp only [vop]; cases vopF _ e mR b <;> rfl
theorem vop_field1 {off x} : vop P b bar no (.field1 off x) e mR m Kv = ob (vopF (.field1 off x) e mR b) m Kv := by simp only [vop]; cases vopF _ e mR b <;> rfl
theorem vop_fieldn {off n x} : vop P b bar no (.fieldn off n x) e mR m Kv = ob (vopF (.fieldn off n x) e mR b) m Kv := by simp only [vop]; cases vopF _ e mR b <;> rfl
theorem vop_indexT {x i} : vop P b bar no (.indexT x i) e mR m Kv = ob (vopF (.indexT x i) e mR b) m Kv := by simp only [vop]; cases vopF _ e mR b <;> rfl
theorem vop_bin {op x y} : vop P b bar no (.bin op x y) e mR m Kv = ob (vopF (.bin op x y) e mR b) m Kv := by simp only [vop]; cases vopF _ e mR b <;> rfl
theorem vop_eqb {neg x y} : vop P b bar no (.eqb neg x y) e mR m Kv = ob (vopF (.eqb neg x y) e mR b) m Kv := by simp only [vop]; cases vopF _ e mR b <;> rfl
theorem vop_eqp {neg x y} : vop P b bar no (.eqp neg x y) e mR m Kv = ob (vopF (.eqp neg x y) e mR b) m Kv := by simp only [vop]; cases vopF _ e mR b <;> rfl
theorem vop_eqs {neg ks x y} : vop P b bar no (.eqs neg ks x y) e mR m Kv = ob (vopF (.eqs neg ks x y) e mR b) m Kv := by simp only [vop]; cases vopF _ e mR b <;> rfl
theorem vop_not {x} : vop P b bar no (.not x) e mR m Kv = ob (vopF (.not x) e mR b) m Kv := by simp only [vop]; cases vopF _ e mR b <;> rfl
theorem vop_neg {x} : vop P b bar no (.neg x) e mR m Kv = ob (vopF (.neg x) e mR b) m Kv := by simp only [vop]; cases vopF _ e mR b <;> rfl
theorem vop_conv {k x} : vop P b bar no (.conv k x) e mR m Kv = ob (vopF (.conv k x) e mR b) m Kv := by simp only [vop]; cases vopF _ e mR b <;> rfl
theorem vop_sliceT {x lo hi} : vop P b bar no (.sliceT x lo hi) e mR m Kv = ob (vopF (.sliceT x lo hi) e mR b) m Kv := by simp only [vop]; cases vopF _ e mR b <;> rfl
theorem vop_sliceS {k x lo hi} : vop P b bar no (.sliceS k x lo hi) e mR m Kv = ob (vopF (.sliceS k x lo hi) e mR b) m Kv := by simp only [vop]; cases vopF _ e mR b <;> rfl
theorem vop_lenT {x} : vop P b bar no (.lenT x) e mR m Kv = ob (vopF (.lenT x) e mR b) m Kv := by simp only [vop]; cases vopF _ e mR b <;> rfl
theorem vop_lenS {x} : vop P b bar no (.lenS x) e mR m Kv = ob (vopF (.lenS x) e mR b) m Kv := by simp only [vop]; cases vopF _ e mR b <;> rfl
theorem vop_max2 {x y} : vop P b bar no (.max2 x y) e mR m Kv = ob (vopF (.max2 x y) e mR b) m Kv := by simp only [vop]; cases vopF _ e mR b <;> rfl
theorem vop_min2 {x y} : vop P b bar no (.min2 x y) e mR m Kv = ob (vopF (.min2 x y) e mR b) m Kv := by simp only [vop]; cases vopF _ e mR b <;> rfl
theorem vop_append {T k bytes x y} : vop P b bar no (.append T k bytes x y) e mR m Kv = ob (vopF (.append T k bytes x y) e mR b) m Kv := by simp only [vop]; cases vopF _ e mR b <;> rfl
theorem vop_mkslice {T k bytes z x y} : vop P b bar no (.mkslice T k bytes z x y) e mR m Kv = ob (vopF (.mkslice T k bytes z x y) e mR b) m Kv := by simp only [vop]; cases vopF _ e mR b <;> rfl
theorem vop_ext {i x} : vop P b bar no (.ext i x) e mR m Kv = ob (vopF (.ext i x) e mR b) m Kv := by simp only [vop]; cases vopF _ e mR b <;> rfl
theorem vop_mkfn {f cs} : vop P b bar no (.mkfn f cs) e mR m Kv = ob (vopF (.mkfn f cs) e mR b) m Kv := by simp only [vop]; cases vopF _ e mR b <;> rfl
/-- A row of the region's own is appended to. -/
def vlo (no : Option Nat) (o : Option PV) (X : Prop) : Prop := wloc no o ∧ X
theorem vlo_none {o : Option PV} {X : Prop} : vlo none o X = X := by simp [vlo, wloc]
theorem vlo_osl {id n bs : Nat} {X : Prop} : vlo (some bs) (some (.osl id n)) X = (bs ≤ id ∧ X) := rfl
theorem vlo_nsl {bs : Nat} {X : Prop} : vlo (some bs) (some .nsl) X = X := by simp [vlo, wloc]
theorem vop_appendL {T k bytes s y} : vop P b bar no (.appendL T k bytes s y) e mR m Kv = vlo no (s.ev e) (ob (vopF (.append T k bytes s y) e mR b) m Kv) := by
  simp only [vop, vlo]; cases vopF (.append T k bytes s y) e mR b <;> rfl
theorem isNone_none : (none : Option Nat).isNone = true := rfl
theorem isNone_some {n : Nat} : (some n).isNone = false := rfl
theorem vop_mkmap : vop P b bar no (.mkmap) e mR m Kv = ob (vopF (.mkmap) e mR b) m Kv := by simp only [vop]; cases vopF _ e mR b <;> rfl
theorem vop_lookup {g ks z ok x k} : vop P b bar no (.lookup g ks z ok x k) e mR m Kv = ob (vopF (.lookup g ks z ok x k) e mR b) m Kv := by simp only [vop]; cases vopF _ e mR b <;> rfl
theorem vop_mapUpd {g ks x k v} : vop P b bar no (.mapUpd g ks x k v) e mR m Kv = ob (vopF (.mapUpd g ks x k v) e mR b) m Kv := by simp only [vop]; cases vopF _ e mR b <;> rfl
theorem vop_mapEnt {g ks z x k} : vop P b bar no (.mapEnt g ks z x k) e mR m Kv = ob (vopF (.mapEnt g ks z x k) e mR b) m Kv := by simp only [vop]; cases vopF _ e mR b <;> rfl
theorem vop_entSto {x s v} : vop P b bar no (.entSto x s v) e mR m Kv = ob (vopF (.entSto x s v) e mR b) m Kv := by simp only [vop]; cases vopF _ e mR b <;> rfl
theorem vop_lenM {x} : vop P b bar no (.lenM x) e mR m Kv = ob (vopF (.lenM x) e mR b) m Kv := by simp only [vop]; cases vopF _ e mR b <;> rfl
theorem vop_eqm {neg x y} : vop P b bar no (.eqm neg x y) e mR m Kv = ob (vopF (.eqm neg x y) e mR b) m Kv := by simp only [vop]; cases vopF _ e mR b <;> rfl
theorem vop_range {x} : vop P b bar no (.range x) e mR m Kv = ob (vopF (.range x) e mR b) m Kv := by simp only [vop]; cases vopF _ e mR b <;> rfl
theorem vop_entry {x} : vop P b bar no (.entry x) e mR m Kv = ob (vopF (.entry x) e mR b) m Kv := by simp only [vop]; cases vopF _ e mR b <;> rfl
theorem vop_indexV {k len one x i} : vop P b bar no (.indexV k len one x i) e mR m Kv = ob (vopF (.indexV k len one x i) e mR b) m Kv := by simp only [vop]; cases vopF _ e mR b <;> rfl
theorem vop_slice0 {T k x} : vop P b bar no (.slice0 T k x) e mR m Kv = ob (vopF (.slice0 T k x) e mR b) m Kv := by simp only [vop]; cases vopF _ e mR b <;> rfl
theorem vop_slice3 {k x lo hi mx} : vop P b bar no (.slice3 k x lo hi mx) e mR m Kv = ob (vopF (.slice3 k x lo hi mx) e mR b) m Kv := by simp only [vop]; cases vopF _ e mR b <;> rfl

/-- With no soft call ahead all is seen. -/
theorem restrH_nil : restrH base an [] m = restr base an m := by
  funext id
  unfold restrH
  rw [if_pos (show Seen an [] id from fun h hh => by cases hh)]
/-- A soft call that is an ancestor. -/
theorem restrH_anc {j : Nat} {m1 m2 : Mem} (h : an.testBit j = true) : restrH base an ((j, m1, m2) :: H) m = restrH base an H m := by
  funext id
  unfold restrH
  by_cases hc : Seen an H id
  · rw [if_pos hc, if_pos]
    intro x hx
    rcases List.mem_cons.1 hx with rfl | hx
    · exact .inl h
    · exact hc x hx
  · rw [if_neg hc, if_neg]
    exact fun h2 => hc fun x hx => h2 x (List.mem_cons_of_mem _ hx)
/-- What a soft call did not change. -/
theorem restrH_same {j : Nat} {m1 m2 : Mem} {id : Nat} (h : m1 id = m2 id) : restrH base an ((j, m1, m2) :: H) m id = restrH base an H m id := by
  unfold restrH
  by_cases hc : Seen an H id
  · rw [if_pos hc, if_pos]
    intro x hx
    rcases List.mem_cons.1 hx with rfl | hx
    · exact .inr h
    · exact hc x hx
  · rw [if_neg hc, if_neg]
    exact fun h2 => hc fun x hx => h2 x (List.mem_cons_of_mem _ hx)
theorem restr_old {id : Nat} (h : id < base) : restr base an m id = m id := by simp [restr, h]
theorem restr_new {k : Nat} : restr base an m (base + k) = if an.testBit (k / 8) = true then m (base + k) else none := by
  unfold restr
  rw [Nat.add_sub_cancel_left]
  by_cases h : an.testBit (k / 8) = true
  · simp [h]
  · rw [if_neg h, if_neg fun h2 => h2.elim (fun h2 => by omega) fun h2 => h h2]
theorem restr_new0 : restr base an m base = if an.testBit 0 = true then m base else none := by
  have := restr_new (base := base) (an := an) (m := m) (k := 0)
  simpa using this
theorem restr_at2 {a c k : Nat} : restr (a + c) an m (a + k) = if k < c ∨ an.testBit ((k - c) / 8) = true then m (a + k) else none := by
  unfold restr
  rw [Nat.add_sub_add_left]
  by_cases h : k < c
  · rw [if_pos (.inl (by omega)), if_pos (.inl h)]
  · by_cases h2 : an.testBit ((k - c) / 8) = true
    · rw [if_pos (.inr h2), if_pos (.inr h2)]
    · rw [if_neg fun h3 => h3.elim (fun h3 => by omega) h2, if_neg fun h3 => h3.elim h h2]
theorem then_normal {nx : Env → Mem → Nat → Prop} {Q : Post} : Post.then nx Q .normal = nx := rfl
theorem then_exit {nx : Env → Mem → Nat → Prop} {Q : Post} {j : Nat} : Post.then nx Q (.exit j) = Q (.exit j) := rfl
theorem then_ret {nx : Env → Mem → Nat → Prop} {Q : Post} : Post.then nx Q .ret = Q .ret := rfl
theorem block_normal {Q : Post} {j : Nat} : Post.block j Q .normal = Q .normal := rfl
theorem block_exit {Q : Post} {j k : Nat} : Post.block j Q (.exit k) = if k = j then Q .normal else Q (.exit k) := rfl
theorem block_ret {Q : Post} {j : Nat} : Post.block j Q .ret = Q .ret := rfl
theorem pret_normal {R : Env → Mem → Prop} : PRet R .normal = fun e m _ => R e m := rfl
theorem pret_ret {R : Env → Mem → Prop} : PRet R .ret = fun e m _ => R e m := rfl
theorem VC.p0 {f : Nat} {r : PV} (hv : V P f [] mt b r mt)  (hk : Kv r m) : VC P b (.f f) [] bar nd Kv mR m := .pure [] r trivial hv hk
theorem VC.n0 {f : Nat} {r : PV} {ob : Obj} (hv : V P f [] mt b r (upd mt b (some ob)))  (hk : Kv r (upd m b (some ob))) : VC P b (.f f) [] bar nd Kv mR m := .new [] r ob trivial hv hk
theorem VC.p1 {f : Nat} {r : PV} {p0 q0 : PV} (hv : V P f [q0] mt b r mt) (h0 : q0 = p0) (l0 : p0.lt b = true) (hk : Kv r m) : VC P b (.f f) [p0] bar nd Kv mR m := .pure [q0] r ⟨.inl ⟨h0, l0⟩, trivial⟩ hv hk
theorem VC.n1 {f : Nat} {r : PV} {ob : Obj} {p0 q0 : PV} (hv : V P f [q0] mt b r (upd mt b (some ob))) (h0 : q0 = p0) (l0 : p0.lt b = true) (hk : Kv r (upd m b (some ob))) : VC P b (.f f) [p0] bar nd Kv mR m := .new [q0] r ob ⟨.inl ⟨h0, l0⟩, trivial⟩ hv hk
theorem VC.p2 {f : Nat} {r : PV} {p0 p1 q0 q1 : PV} (hv : V P f [q0, q1] mt b r mt) (h0 : q0 = p0) (l0 : p0.lt b = true) (h1 : q1 = p1) (l1 : p1.lt b = true) (hk : Kv r m) : VC P b (.f f) [p0, p1] bar nd Kv mR m := .pure [q0, q1] r ⟨.inl ⟨h0, l0⟩, .inl ⟨h1, l1⟩, trivial⟩ hv hk
theorem VC.n2 {f : Nat} {r : PV} {ob : Obj} {p0 p1 q0 q1 : PV} (hv : V P f [q0, q1] mt b r (upd mt b (some ob))) (h0 : q0 = p0) (l0 : p0.lt b = true) (h1 : q1 = p1) (l1 : p1.lt b = true) (hk : Kv r (upd m b (some ob))) : VC P b (.f f) [p0, p1] bar nd Kv mR m := .new [q0, q1] r ob ⟨.inl ⟨h0, l0⟩, .inl ⟨h1, l1⟩, trivial⟩ hv hk
theorem VC.p3 {f : Nat} {r : PV} {p0 p1 p2 q0 q1 q2 : PV} (hv : V P f [q0, q1, q2] mt b r mt) (h0 : q0 = p0) (l0 : p0.lt b = true) (h1 : q1 = p1) (l1 : p1.lt b = true) (h2 : q2 = p2) (l2 : p2.lt b = true) (hk : Kv r m) : VC P b (.f f) [p0, p1, p2] bar nd Kv mR m := .pure [q0, q1, q2] r ⟨.inl ⟨h0, l0⟩, .inl ⟨h1, l1⟩, .inl ⟨h2, l2⟩, trivial⟩ hv hk
theorem VC.n3 {f : Nat} {r : PV} {ob : Obj} {p0 p1 p2 q0 q1 q2 : PV} (hv : V P f [q0, q1, q2] mt b r (upd mt b (some ob))) (h0 : q0 = p0) (l0 : p0.lt b = true) (h1 : q1 = p1) (l1 : p1.lt b = true) (h2 : q2 = p2) (l2 : p2.lt b = true) (hk : Kv r (upd m b (some ob))) : VC P b (.f f) [p0, p1, p2] bar nd Kv mR m := .new [q0, q1, q2] r ob ⟨.inl ⟨h0, l0⟩, .inl ⟨h1, l1⟩, .inl ⟨h2, l2⟩, trivial⟩ hv hk
theorem VC.p4 {f : Nat} {r : PV} {p0 p1 p2 p3 q0 q1 q2 q3 : PV} (hv : V P f [q0, q1, q2, q3] mt b r mt) (h0 : q0 = p0) (l0 : p0.lt b = true) (h1 : q1 = p1) (l1 : p1.lt b = true) (h2 : q2 = p2) (l2 : p2.lt b = true) (h3 : q3 = p3) (l3 : p3.lt b = true) (hk : Kv r m) : VC P b (.f f) [p0, p1, p2, p3] bar nd Kv mR m := .pure [q0, q1, q2, q3] r ⟨.inl ⟨h0, l0⟩, .inl ⟨h1, l1⟩, .inl ⟨h2, l2⟩, .inl ⟨h3, l3⟩, trivial⟩ hv hk
theorem VC.n4 {f : Nat} {r : PV} {ob : Obj} {p0 p1 p2 p3 q0 q1 q2 q3 : PV} (hv : V P f [q0, q1, q2, q3] mt b r (upd mt b (some ob))) (h0 : q0 = p0) (l0 : p0.lt b = true) (h1 : q1 = p1) (l1 : p1.lt b = true) (h2 : q2 = p2) (l2 : p2.lt b = true) (h3 : q3 = p3) (l3 : p3.lt b = true) (hk : Kv r (upd m b (some ob))) : VC P b (.f f) [p0, p1, p2, p3] bar nd Kv mR m := .new [q0, q1, q2, q3] r ob ⟨.inl ⟨h0, l0⟩, .inl ⟨h1, l1⟩, .inl ⟨h2, l2⟩, .inl ⟨h3, l3⟩, trivial⟩ hv hk
theorem VC.p5 {f : Nat} {r : PV} {p0 p1 p2 p3 p4 q0 q1 q2 q3 q4 : PV} (hv : V P f [q0, q1, q2, q3, q4] mt b r mt) (h0 : q0 = p0) (l0 : p0.lt b = true) (h1 : q1 = p1) (l1 : p1.lt b = true) (h2 : q2 = p2) (l2 : p2.lt b = true) (h3 : q3 = p3) (l3 : p3.lt b = true) (h4 : q4 = p4) (l4 : p4.lt b = true) (hk : Kv r m) : VC P b (.f f) [p0, p1, p2, p3, p4] bar nd Kv mR m := .pure [q0, q1, q2, q3, q4] r ⟨.inl ⟨h0, l0⟩, .inl ⟨h1, l1⟩, .inl ⟨h2, l2⟩, .inl ⟨h3, l3⟩, .inl ⟨h4, l4⟩, trivial⟩ hv hk
theorem VC.n5 {f : Nat} {r : PV} {ob : Obj} {p0 p1 p2 p3 p4 q0 q1 q2 q3 q4 : PV} (hv : V P f [q0, q1, q2, q3, q4] mt b r (upd mt b (some ob))) (h0 : q0 = p0) (l0 : p0.lt b = true) (h1 : q1 = p1) (l1 : p1.lt b = true) (h2 : q2 = p2) (l2 : p2.lt b = true) (h3 : q3 = p3) (l3 : p3.lt b = true) (h4 : q4 = p4) (l4 : p4.lt b = true) (hk : Kv r (upd m b (some ob))) : VC P b (.f f) [p0, p1, p2, p3, p4] bar nd Kv mR m := .new [q0, q1, q2, q3, q4] r ob ⟨.inl ⟨h0, l0⟩, .inl ⟨h1, l1⟩, .inl ⟨h2, l2⟩, .inl ⟨h3, l3⟩, .inl ⟨h4, l4⟩, trivial⟩ hv hk
theorem imp_nt {c : Bool} {X : Prop} (h : c = false → X) : (!c) = true → X := fun h2 => h (by simpa using h2)
theorem imp_nf {c : Bool} {X : Prop} (h : c = true → X) : (!c) = false → X := fun h2 => h (by simpa using h2)
theorem imp_dt {p : Prop} [Decidable p] {X : Prop} (h : p → X) : decide p = true → X := fun h2 => h (by simpa using h2)
theorem imp_df {p : Prop} [Decidable p] {X : Prop} (h : ¬ p → X) : decide p = false → X := fun h2 => h (by simpa using h2)
theorem vg_t {c : Bool} {A B : Unit → Prop} (h1 : c = true → A ()) (h2 : c = false → B ()) : vg (some (.bool c)) true A B := ⟨h1, fun h => h2 (by simpa using h)⟩
theorem vg_f {c : Bool} {A B : Unit → Prop} (h1 : c = true → B ()) (h2 : c = false → A ()) : vg (some (.bool c)) false A B := ⟨h2, fun h => h1 (by simpa using h)⟩
theorem frz_one {id k T : Nat} {xs : List (List PV)} {fz : Bool} (h : m id = some (.row k xs T fz)) : frz m [id] = upd m id (some (.row k xs T true)) := by
  funext j
  by_cases he : j = id
  · subst he; simp [frz, upd, h, Obj.freeze]
  · simp [frz, upd, he]
/-- Ahead of a call a row is frozen. -/
theorem VC.fz {f : Nat} {ps : List PV} {id k T : Nat} {xs : List (List PV)} {fz : Bool} (hb : bar = true) (hR : mR id = some (.row k xs T fz)) (hm : m id = some (.row k xs T fz))
    (h : VC P b (.f f) ps bar nd Kv (upd mR id (some (.row k xs T true))) (upd m id (some (.row k xs T true)))) : VC P b (.f f) ps bar nd Kv mR m :=
  .frz hb [id] (by simp [hR, hm]) (by rw [frz_one hR, frz_one hm]; exact h)
/-- One argument: an own row, which is frozen. -/
theorem VC.o1 {f n : Nat} {r : PV} {id k T : Nat} {xs ys : List (List PV)} {fz : Bool} (hb : bar = true) (hR : mR id = some (.row k xs T fz)) (hm : m id = some (.row k xs T fz)) (hv : V P f [.sl ys] mt b r mt) (hn : n = xs.length) (he : ys = xs)
    (hk : Kv r (upd m id (some (.row k xs T true)))) : VC P b (.f f) [.osl id n] bar nd Kv mR m :=
  .fz hb hR hm (.pure [.sl ys] r ⟨.inr (by subst hn; subst he; simp [purA, pur, upd]), trivial⟩ hv hk)
/-- What a number that lies below the next one is not. -/
theorem below_ne {id nx : Nat} (h : id < nx) : (∀ k, (id = nx + k) = False) ∧ (∀ k, (nx + k = id) = False) ∧ (id = nx) = False ∧ (nx = id) = False ∧ (∀ k, (id < nx + k) = True) :=
  ⟨fun k => by simp; omega, fun k => by simp; omega, by simp; omega, by simp; omega, fun k => by simp; omega⟩
end
end Go.Vx
/- The engine, part 23: what is below a number; new numbers: words for simp. Printed by a program (gen_lt.py). -/
set_option linter.unusedVariables false
namespace Go.Vx
open Go Go.RowKit

theorem Plt_bool {b : Nat} (x : Bool) : PV.lt b (.bool x) = true := rfl
theorem lt1_bool {b : Nat} (x : Bool) : lt1 b (.bool x) = true := rfl
theorem ltA_bool {b : Nat} (x : Bool) : ltA b (.bool x) = true := rfl
theorem ltT_bool {b : Nat} (x : Bool) : ltT b (.bool x) = true := rfl
theorem ren1_bool {σ : Nat → Nat} (x : Bool) : ren1 σ (.bool x) = (.bool x) := rfl
theorem renA_bool {σ : Nat → Nat} (x : Bool) : renA σ (.bool x) = (.bool x) := rfl
theorem Pren_bool {σ : Nat → Nat} (x : Bool) : PV.ren σ (.bool x) = (.bool x) := rfl
theorem nt_bool (x : Bool) : PV.nt (.bool x) = true := rfl
theorem one_bool (x : Bool) : PV.one (.bool x) = true := rfl
theorem Plt_int {b : Nat} (k : IntKind) (n : Int) : PV.lt b (.int k n) = true := rfl
theorem lt1_int {b : Nat} (k : IntKind) (n : Int) : lt1 b (.int k n) = true := rfl
theorem ltA_int {b : Nat} (k : IntKind) (n : Int) : ltA b (.int k n) = true := rfl
theorem ltT_int {b : Nat} (k : IntKind) (n : Int) : ltT b (.int k n) = true := rfl
theorem ren1_int {σ : Nat → Nat} (k : IntKind) (n : Int) : ren1 σ (.int k n) = (.int k n) := rfl
theorem renA_int {σ : Nat → Nat} (k : IntKind) (n : Int) : renA σ (.int k n) = (.int k n) := rfl
theorem Pren_int {σ : Nat → Nat} (k : IntKind) (n : Int) : PV.ren σ (.int k n) = (.int k n) := rfl
theorem nt_int (k : IntKind) (n : Int) : PV.nt (.int k n) = true := rfl
theorem one_int (k : IntKind) (n : Int) : PV.one (.int k n) = true := rfl
theorem Plt_str {b : Nat} (s : List UInt8) : PV.lt b (.str s) = true := rfl
theorem lt1_str {b : Nat} (s : List UInt8) : lt1 b (.str s) = true := rfl
theorem ltA_str {b : Nat} (s : List UInt8) : ltA b (.str s) = true := rfl
theorem ltT_str {b : Nat} (s : List UInt8) : ltT b (.str s) = true := rfl
theorem ren1_str {σ : Nat → Nat} (s : List UInt8) : ren1 σ (.str s) = (.str s) := rfl
theorem renA_str {σ : Nat → Nat} (s : List UInt8) : renA σ (.str s) = (.str s) := rfl
theorem Pren_str {σ : Nat → Nat} (s : List UInt8) : PV.ren σ (.str s) = (.str s) := rfl
theorem nt_str (s : List UInt8) : PV.nt (.str s) = true := rfl
theorem one_str (s : List UInt8) : PV.one (.str s) = true := rfl
theorem Plt_nilp {b : Nat}  : PV.lt b .nilp = true := rfl
theorem lt1_nilp {b : Nat}  : lt1 b .nilp = true := rfl
theorem ltA_nilp {b : Nat}  : ltA b .nilp = true := rfl
theorem ltT_nilp {b : Nat}  : ltT b .nilp = true := rfl
theorem ren1_nilp {σ : Nat → Nat}  : ren1 σ .nilp = .nilp := rfl
theorem renA_nilp {σ : Nat → Nat}  : renA σ .nilp = .nilp := rfl
theorem Pren_nilp {σ : Nat → Nat}  : PV.ren σ .nilp = .nilp := rfl
theorem nt_nilp  : PV.nt .nilp = true := rfl
theorem one_nilp  : PV.one .nilp = true := rfl
theorem Plt_nilm {b : Nat}  : PV.lt b .nilm = true := rfl
theorem lt1_nilm {b : Nat}  : lt1 b .nilm = true := rfl
theorem ltA_nilm {b : Nat}  : ltA b .nilm = true := rfl
theorem ltT_nilm {b : Nat}  : ltT b .nilm = true := rfl
theorem ren1_nilm {σ : Nat → Nat}  : ren1 σ .nilm = .nilm := rfl
theorem renA_nilm {σ : Nat → Nat}  : renA σ .nilm = .nilm := rfl
theorem Pren_nilm {σ : Nat → Nat}  : PV.ren σ .nilm = .nilm := rfl
theorem nt_nilm  : PV.nt .nilm = true := rfl
theorem one_nilm  : PV.one .nilm = true := rfl
theorem Plt_nilf {b : Nat}  : PV.lt b .nilf = true := rfl
theorem lt1_nilf {b : Nat}  : lt1 b .nilf = true := rfl
theorem ltA_nilf {b : Nat}  : ltA b .nilf = true := rfl
theorem ltT_nilf {b : Nat}  : ltT b .nilf = true := rfl
theorem ren1_nilf {σ : Nat → Nat}  : ren1 σ .nilf = .nilf := rfl
theorem renA_nilf {σ : Nat → Nat}  : renA σ .nilf = .nilf := rfl
theorem Pren_nilf {σ : Nat → Nat}  : PV.ren σ .nilf = .nilf := rfl
theorem nt_nilf  : PV.nt .nilf = true := rfl
theorem one_nilf  : PV.one .nilf = true := rfl
theorem Plt_ptr {b : Nat} (i k j l : Nat) : PV.lt b (.ptr i k j l) = decide (i < b) := rfl
theorem lt1_ptr {b : Nat} (i k j l : Nat) : lt1 b (.ptr i k j l) = decide (i < b) := rfl
theorem ltA_ptr {b : Nat} (i k j l : Nat) : ltA b (.ptr i k j l) = decide (i < b) := rfl
theorem ltT_ptr {b : Nat} (i k j l : Nat) : ltT b (.ptr i k j l) = decide (i < b) := rfl
theorem ren1_ptr {σ : Nat → Nat} (i k j l : Nat) : ren1 σ (.ptr i k j l) = (.ptr (σ i) k j l) := rfl
theorem renA_ptr {σ : Nat → Nat} (i k j l : Nat) : renA σ (.ptr i k j l) = (.ptr (σ i) k j l) := rfl
theorem Pren_ptr {σ : Nat → Nat} (i k j l : Nat) : PV.ren σ (.ptr i k j l) = (.ptr (σ i) k j l) := rfl
theorem nt_ptr (i k j l : Nat) : PV.nt (.ptr i k j l) = true := rfl
theorem one_ptr (i k j l : Nat) : PV.one (.ptr i k j l) = true := rfl
theorem Plt_cptr {b : Nat} (cs : List PV) : PV.lt b (.cptr cs) = true := rfl
theorem lt1_cptr {b : Nat} (cs : List PV) : lt1 b (.cptr cs) = true := rfl
theorem ltA_cptr {b : Nat} (cs : List PV) : ltA b (.cptr cs) = true := rfl
theorem ltT_cptr {b : Nat} (cs : List PV) : ltT b (.cptr cs) = true := rfl
theorem ren1_cptr {σ : Nat → Nat} (cs : List PV) : ren1 σ (.cptr cs) = (.cptr cs) := rfl
theorem renA_cptr {σ : Nat → Nat} (cs : List PV) : renA σ (.cptr cs) = (.cptr cs) := rfl
theorem Pren_cptr {σ : Nat → Nat} (cs : List PV) : PV.ren σ (.cptr cs) = (.cptr cs) := rfl
theorem nt_cptr (cs : List PV) : PV.nt (.cptr cs) = true := rfl
theorem one_cptr (cs : List PV) : PV.one (.cptr cs) = true := rfl
theorem Plt_sl {b : Nat} (xs : List (List PV)) : PV.lt b (.sl xs) = true := rfl
theorem lt1_sl {b : Nat} (xs : List (List PV)) : lt1 b (.sl xs) = true := rfl
theorem ltA_sl {b : Nat} (xs : List (List PV)) : ltA b (.sl xs) = true := rfl
theorem ltT_sl {b : Nat} (xs : List (List PV)) : ltT b (.sl xs) = true := rfl
theorem ren1_sl {σ : Nat → Nat} (xs : List (List PV)) : ren1 σ (.sl xs) = (.sl xs) := rfl
theorem renA_sl {σ : Nat → Nat} (xs : List (List PV)) : renA σ (.sl xs) = (.sl xs) := rfl
theorem Pren_sl {σ : Nat → Nat} (xs : List (List PV)) : PV.ren σ (.sl xs) = (.sl xs) := rfl
theorem nt_sl (xs : List (List PV)) : PV.nt (.sl xs) = true := rfl
theorem one_sl (xs : List (List PV)) : PV.one (.sl xs) = true := rfl
theorem Plt_osl {b : Nat} (i n : Nat) : PV.lt b (.osl i n) = decide (i < b) := rfl
theorem lt1_osl {b : Nat} (i n : Nat) : lt1 b (.osl i n) = decide (i < b) := rfl
theorem ltA_osl {b : Nat} (i n : Nat) : ltA b (.osl i n) = decide (i < b) := rfl
theorem ltT_osl {b : Nat} (i n : Nat) : ltT b (.osl i n) = decide (i < b) := rfl
theorem ren1_osl {σ : Nat → Nat} (i n : Nat) : ren1 σ (.osl i n) = (.osl (σ i) n) := rfl
theorem renA_osl {σ : Nat → Nat} (i n : Nat) : renA σ (.osl i n) = (.osl (σ i) n) := rfl
theorem Pren_osl {σ : Nat → Nat} (i n : Nat) : PV.ren σ (.osl i n) = (.osl (σ i) n) := rfl
theorem nt_osl (i n : Nat) : PV.nt (.osl i n) = true := rfl
theorem one_osl (i n : Nat) : PV.one (.osl i n) = true := rfl
theorem Plt_map {b : Nat} (i : Nat) : PV.lt b (.map i) = decide (i < b) := rfl
theorem lt1_map {b : Nat} (i : Nat) : lt1 b (.map i) = decide (i < b) := rfl
theorem ltA_map {b : Nat} (i : Nat) : ltA b (.map i) = decide (i < b) := rfl
theorem ltT_map {b : Nat} (i : Nat) : ltT b (.map i) = decide (i < b) := rfl
theorem ren1_map {σ : Nat → Nat} (i : Nat) : ren1 σ (.map i) = (.map (σ i)) := rfl
theorem renA_map {σ : Nat → Nat} (i : Nat) : renA σ (.map i) = (.map (σ i)) := rfl
theorem Pren_map {σ : Nat → Nat} (i : Nat) : PV.ren σ (.map i) = (.map (σ i)) := rfl
theorem nt_map (i : Nat) : PV.nt (.map i) = true := rfl
theorem one_map (i : Nat) : PV.one (.map i) = true := rfl
theorem Plt_yld {b : Nat} (i : Nat) : PV.lt b (.yld i) = decide (i < b) := rfl
theorem lt1_yld {b : Nat} (i : Nat) : lt1 b (.yld i) = decide (i < b) := rfl
theorem ltA_yld {b : Nat} (i : Nat) : ltA b (.yld i) = decide (i < b) := rfl
theorem ltT_yld {b : Nat} (i : Nat) : ltT b (.yld i) = decide (i < b) := rfl
theorem ren1_yld {σ : Nat → Nat} (i : Nat) : ren1 σ (.yld i) = (.yld (σ i)) := rfl
theorem renA_yld {σ : Nat → Nat} (i : Nat) : renA σ (.yld i) = (.yld (σ i)) := rfl
theorem Pren_yld {σ : Nat → Nat} (i : Nat) : PV.ren σ (.yld i) = (.yld (σ i)) := rfl
theorem nt_yld (i : Nat) : PV.nt (.yld i) = true := rfl
theorem one_yld (i : Nat) : PV.one (.yld i) = true := rfl
theorem Plt_nsl {b : Nat}  : PV.lt b .nsl = true := rfl
theorem lt1_nsl {b : Nat}  : lt1 b .nsl = true := rfl
theorem ltA_nsl {b : Nat}  : ltA b .nsl = true := rfl
theorem ltT_nsl {b : Nat}  : ltT b .nsl = true := rfl
theorem ren1_nsl {σ : Nat → Nat}  : ren1 σ .nsl = .nsl := rfl
theorem renA_nsl {σ : Nat → Nat}  : renA σ .nsl = .nsl := rfl
theorem Pren_nsl {σ : Nat → Nat}  : PV.ren σ .nsl = .nsl := rfl
theorem nt_nsl  : PV.nt .nsl = true := rfl
theorem one_nsl  : PV.one .nsl = true := rfl
theorem Plt_agg {b : Nat} (cs : List PV) : PV.lt b (.agg cs) = cs.all (lt1 b) := rfl
theorem ltA_agg {b : Nat} (cs : List PV) : ltA b (.agg cs) = cs.all (lt1 b) := rfl
theorem ltT_agg {b : Nat} (cs : List PV) : ltT b (.agg cs) = cs.all (lt1 b) := rfl
theorem renA_agg {σ : Nat → Nat} (cs : List PV) : renA σ (.agg cs) = (.agg (cs.map (ren1 σ))) := rfl
theorem Pren_agg {σ : Nat → Nat} (cs : List PV) : PV.ren σ (.agg cs) = (.agg (cs.map (ren1 σ))) := rfl
theorem Plt_fn {b : Nat} (f : Nat) (cs : List PV) : PV.lt b (.fn f cs) = cs.all (lt1 b) := rfl
theorem ltA_fn {b : Nat} (f : Nat) (cs : List PV) : ltA b (.fn f cs) = cs.all (lt1 b) := rfl
theorem ltT_fn {b : Nat} (f : Nat) (cs : List PV) : ltT b (.fn f cs) = cs.all (lt1 b) := rfl
theorem renA_fn {σ : Nat → Nat} (f : Nat) (cs : List PV) : renA σ (.fn f cs) = (.fn f (cs.map (ren1 σ))) := rfl
theorem Pren_fn {σ : Nat → Nat} (f : Nat) (cs : List PV) : PV.ren σ (.fn f cs) = (.fn f (cs.map (ren1 σ))) := rfl
theorem lt1_fn {b : Nat} (f : Nat) (cs : List PV) : lt1 b (.fn f cs) = cs.isEmpty := rfl
theorem ltT_tup {b : Nat} (cs : List PV) : ltT b (.tup cs) = cs.all (ltA b) := rfl
theorem Plt_tup {b : Nat} (cs : List PV) : PV.lt b (.tup cs) = cs.all (lt1 b) := rfl
theorem Pren_tup {σ : Nat → Nat} (cs : List PV) : PV.ren σ (.tup cs) = .tup (cs.map (renA σ)) := rfl
theorem olt_row {b : Nat} {k : Nat} {xs : List (List PV)} {T : Nat} {fz : Bool} : Obj.lt b (.row k xs T fz) = true := rfl
theorem ofix_row {b : Nat} {k : Nat} {xs : List (List PV)} {T : Nat} {fz : Bool} : Obj.fix b (.row k xs T fz) = true := rfl
theorem oren_row {σ : Nat → Nat} {k : Nat} {xs : List (List PV)} {T : Nat} {fz : Bool} : Obj.ren σ (.row k xs T fz) = (.row k xs T fz) := rfl
theorem olt_box {b : Nat} {cs : List PV} {T : Nat} : Obj.lt b (.box cs T) = cs.all (PV.lt b) := rfl
theorem ofix_box {b : Nat} {cs : List PV} {T : Nat} : Obj.fix b (.box cs T) = true := rfl
theorem oren_box {σ : Nat → Nat} {cs : List PV} {T : Nat} : Obj.ren σ (.box cs T) = (.box (cs.map (renA σ)) T) := rfl
theorem olt_map {b : Nat} {es : List (PV × PV)} : Obj.lt b (.map es) = (es.all fun e => e.2.lt b) := rfl
theorem ofix_map {b : Nat} {es : List (PV × PV)} : Obj.fix b (.map es) = (es.all fun e => match e.2 with | .tup _ => false | _ => true) := rfl
theorem oren_map {σ : Nat → Nat} {es : List (PV × PV)} : Obj.ren σ (.map es) = (.map (es.map fun e => (e.1, renA σ e.2))) := rfl
theorem olt_loop {b : Nat} {k : LoopKey} {st : LoopState} {pd : Option (Option Nat)} : Obj.lt b (.loop k st pd) = decide (k.top ≤ b) := rfl
theorem ofix_loop {b : Nat} {k : LoopKey} {st : LoopState} {pd : Option (Option Nat)} : Obj.fix b (.loop k st pd) = decide (k.top ≤ b) := rfl
theorem oren_loop {σ : Nat → Nat} {k : LoopKey} {st : LoopState} {pd : Option (Option Nat)} : Obj.ren σ (.loop k st pd) = (.loop k st pd) := rfl

theorem ltS : type_of% (And.intro (And.intro (And.intro (And.intro (And.intro (And.intro @Plt_bool @lt1_bool) (And.intro @ltA_bool (And.intro @ltT_bool @nt_bool))) (And.intro (And.intro @one_bool (And.intro @Plt_int @lt1_int)) (And.intro @ltA_int (And.intro @ltT_int @nt_int)))) (And.intro (And.intro (And.intro @one_int (And.intro @Plt_str @lt1_str)) (And.intro @ltA_str (And.intro @ltT_str @nt_str))) (And.intro (And.intro @one_str (And.intro @Plt_nilp @lt1_nilp)) (And.intro @ltA_nilp (And.intro @ltT_nilp @nt_nilp))))) (And.intro (And.intro (And.intro (And.intro @one_nilp (And.intro @Plt_nilm @lt1_nilm)) (And.intro @ltA_nilm (And.intro @ltT_nilm @nt_nilm))) (And.intro (And.intro @one_nilm (And.intro @Plt_nilf @lt1_nilf)) (And.intro @ltA_nilf (And.intro @ltT_nilf @nt_nilf)))) (And.intro (And.intro (And.intro @one_nilf (And.intro @Plt_ptr @lt1_ptr)) (And.intro @ltA_ptr (And.intro @ltT_ptr @nt_ptr))) (And.intro (And.intro @one_ptr (And.intro @Plt_cptr @lt1_cptr)) (And.intro @ltA_cptr (And.intro @ltT_cptr @nt_cptr)))))) (And.intro (And.intro (And.intro (And.intro (And.intro @one_cptr (And.intro @Plt_sl @lt1_sl)) (And.intro @ltA_sl (And.intro @ltT_sl @nt_sl))) (And.intro (And.intro @one_sl (And.intro @Plt_osl @lt1_osl)) (And.intro @ltA_osl (And.intro @ltT_osl @nt_osl)))) (And.intro (And.intro (And.intro @one_osl (And.intro @Plt_map @lt1_map)) (And.intro @ltA_map (And.intro @ltT_map @nt_map))) (And.intro (And.intro @one_map (And.intro @Plt_yld @lt1_yld)) (And.intro @ltA_yld (And.intro @ltT_yld @nt_yld))))) (And.intro (And.intro (And.intro (And.intro @one_yld (And.intro @Plt_nsl @lt1_nsl)) (And.intro @ltA_nsl (And.intro @ltT_nsl @nt_nsl))) (And.intro (And.intro @one_nsl (And.intro @Plt_agg @ltA_agg)) (And.intro @ltT_agg (And.intro @Plt_fn @ltA_fn)))) (And.intro (And.intro (And.intro @ltT_fn (And.intro @lt1_fn @ltT_tup)) (And.intro @Plt_tup (And.intro @olt_row @ofix_row))) (And.intro (And.intro @olt_box (And.intro @ofix_box @olt_map)) (And.intro @ofix_map (And.intro @olt_loop @ofix_loop))))))) := (And.intro (And.intro (And.intro (And.intro (And.intro (And.intro @Plt_bool @lt1_bool) (And.intro @ltA_bool (And.intro @ltT_bool @nt_bool))) (And.intro (And.intro @one_bool (And.intro @Plt_int @lt1_int)) (And.intro @ltA_int (And.intro @ltT_int @nt_int)))) (And.intro (And.intro (And.intro @one_int (And.intro @Plt_str @lt1_str)) (And.intro @ltA_str (And.intro @ltT_str @nt_str))) (And.intro (And.intro @one_str (And.intro @Plt_nilp @lt1_nilp)) (And.intro @ltA_nilp (And.intro @ltT_nilp @nt_nilp))))) (And.intro (And.intro (And.intro (And.intro @one_nilp (And.intro @Plt_nilm @lt1_nilm)) (And.intro @ltA_nilm (And.intro @ltT_nilm @nt_nilm))) (And.intro (And.intro @one_nilm (And.intro @Plt_nilf @lt1_nilf)) (And.intro @ltA_nilf (And.intro @ltT_nilf @nt_nilf)))) (And.intro (And.intro (And.intro @one_nilf (And.intro @Plt_ptr @lt1_ptr)) (And.intro @ltA_ptr (And.intro @ltT_ptr @nt_ptr))) (And.intro (And.intro @one_ptr (And.intro @Plt_cptr @lt1_cptr)) (And.intro @ltA_cptr (And.intro @ltT_cptr @nt_cptr)))))) (And.intro (And.intro (And.intro (And.intro (And.intro @one_cptr (And.intro @Plt_sl @lt1_sl)) (And.intro @ltA_sl (And.intro @ltT_sl @nt_sl))) (And.intro (And.intro @one_sl (And.intro @Plt_osl @lt1_osl)) (And.intro @ltA_osl (And.intro @ltT_osl @nt_osl)))) (And.intro (And.intro (And.intro @one_osl (And.intro @Plt_map @lt1_map)) (And.intro @ltA_map (And.intro @ltT_map @nt_map))) (And.intro (And.intro @one_map (And.intro @Plt_yld @lt1_yld)) (And.intro @ltA_yld (And.intro @ltT_yld @nt_yld))))) (And.intro (And.intro (And.intro (And.intro @one_yld (And.intro @Plt_nsl @lt1_nsl)) (And.intro @ltA_nsl (And.intro @ltT_nsl @nt_nsl))) (And.intro (And.intro @one_nsl (And.intro @Plt_agg @ltA_agg)) (And.intro @ltT_agg (And.intro @Plt_fn @ltA_fn)))) (And.intro (And.intro (And.intro @ltT_fn (And.intro @lt1_fn @ltT_tup)) (And.intro @Plt_tup (And.intro @olt_row @ofix_row))) (And.intro (And.intro @olt_box (And.intro @ofix_box @olt_map)) (And.intro @ofix_map (And.intro @olt_loop @ofix_loop)))))))
theorem renS : type_of% (And.intro (And.intro (And.intro (And.intro (And.intro @ren1_bool (And.intro @renA_bool @Pren_bool)) (And.intro @ren1_int (And.intro @renA_int @Pren_int))) (And.intro (And.intro @ren1_str (And.intro @renA_str @Pren_str)) (And.intro @ren1_nilp (And.intro @renA_nilp @Pren_nilp)))) (And.intro (And.intro (And.intro @ren1_nilm (And.intro @renA_nilm @Pren_nilm)) (And.intro @ren1_nilf (And.intro @renA_nilf @Pren_nilf))) (And.intro (And.intro @ren1_ptr (And.intro @renA_ptr @Pren_ptr)) (And.intro @ren1_cptr (And.intro @renA_cptr @Pren_cptr))))) (And.intro (And.intro (And.intro (And.intro @ren1_sl (And.intro @renA_sl @Pren_sl)) (And.intro @ren1_osl (And.intro @renA_osl @Pren_osl))) (And.intro (And.intro @ren1_map (And.intro @renA_map @Pren_map)) (And.intro @ren1_yld (And.intro @renA_yld @Pren_yld)))) (And.intro (And.intro (And.intro @ren1_nsl (And.intro @renA_nsl @Pren_nsl)) (And.intro @renA_agg (And.intro @Pren_agg @renA_fn))) (And.intro (And.intro @Pren_fn (And.intro @Pren_tup @oren_row)) (And.intro @oren_box (And.intro @oren_map @oren_loop)))))) := (And.intro (And.intro (And.intro (And.intro (And.intro @ren1_bool (And.intro @renA_bool @Pren_bool)) (And.intro @ren1_int (And.intro @renA_int @Pren_int))) (And.intro (And.intro @ren1_str (And.intro @renA_str @Pren_str)) (And.intro @ren1_nilp (And.intro @renA_nilp @Pren_nilp)))) (And.intro (And.intro (And.intro @ren1_nilm (And.intro @renA_nilm @Pren_nilm)) (And.intro @ren1_nilf (And.intro @renA_nilf @Pren_nilf))) (And.intro (And.intro @ren1_ptr (And.intro @renA_ptr @Pren_ptr)) (And.intro @ren1_cptr (And.intro @renA_cptr @Pren_cptr))))) (And.intro (And.intro (And.intro (And.intro @ren1_sl (And.intro @renA_sl @Pren_sl)) (And.intro @ren1_osl (And.intro @renA_osl @Pren_osl))) (And.intro (And.intro @ren1_map (And.intro @renA_map @Pren_map)) (And.intro @ren1_yld (And.intro @renA_yld @Pren_yld)))) (And.intro (And.intro (And.intro @ren1_nsl (And.intro @renA_nsl @Pren_nsl)) (And.intro @renA_agg (And.intro @Pren_agg @renA_fn))) (And.intro (And.intro @Pren_fn (And.intro @Pren_tup @oren_row)) (And.intro @oren_box (And.intro @oren_map @oren_loop))))))

theorem lt8 (b : Nat) : (b < b + 8) = True := by simp
/-- One cell's worth, of numbers below b. -/
def lt1s (b : Nat) (p : PV) : Bool := p.one && p.lt b
theorem lt1_mono {b b' : Nat} {q : PV} (hb : b ≤ b') (h : lt1 b q = true) : lt1 b' q = true := by
  cases q <;> simp only [lt1, decide_eq_true_eq] at h ⊢ <;> first | omega | exact h | trivial
theorem plt_mono {b b' : Nat} {p : PV} (hb : b ≤ b') (h2 : p.lt b = true) : p.lt b' = true := by
  cases p with
  | fn f cs => simp only [PV.lt, List.all_eq_true] at h2 ⊢; exact fun x hx => lt1_mono hb (h2 x hx)
  | agg cs => simp only [PV.lt, List.all_eq_true] at h2 ⊢; exact fun x hx => lt1_mono hb (h2 x hx)
  | tup cs => simp only [PV.lt, List.all_eq_true] at h2 ⊢; exact fun x hx => lt1_mono hb (h2 x hx)
  | _ => simp only [PV.lt] at h2 ⊢; exact lt1_mono hb h2
theorem lt1s_mono {b k : Nat} {p : PV} (h : lt1s b p = true) : p.lt (b + k) = true ∧ p.one = true ∧ lt1s (b + k) p = true := by
  unfold lt1s at h ⊢
  simp only [Bool.and_eq_true] at h ⊢
  have := plt_mono (Nat.le_add_right b k) h.2
  exact ⟨this, h.1, h.1, this⟩
theorem ren1_lt {b : Nat} {σ : Nat → Nat} (hσ : ∀ id, id < b → σ id = id) {p : PV} (h : lt1 b p = true) : ren1 σ p = p := by
  cases p <;> simp only [lt1, decide_eq_true_eq] at h <;> first | rfl | (simp only [ren1]; rw [hσ _ h])
theorem map_lt {b : Nat} {σ : Nat → Nat} (hσ : ∀ id, id < b → σ id = id) : ∀ {cs : List PV}, cs.all (lt1 b) = true → cs.map (ren1 σ) = cs
  | [], _ => rfl
  | c :: cs, h => by
    simp only [List.all_cons, Bool.and_eq_true] at h
    rw [List.map_cons, ren1_lt hσ h.1, map_lt hσ h.2]
theorem renA_lt {b : Nat} {σ : Nat → Nat} (hσ : ∀ id, id < b → σ id = id) {p : PV} (h : p.lt b = true) : renA σ p = p := by
  cases p with
  | fn f cs => simp only [renA]; rw [map_lt hσ h]
  | agg cs => simp only [renA]; rw [map_lt hσ h]
  | tup cs => rfl
  | _ => simp only [PV.lt] at h; simp only [renA]; exact ren1_lt hσ h
/-- What is known of a cell of numbers below b. -/
theorem cell_facts {b : Nat} {p : PV} (h : lt1s b p = true) : (∀ ids, renA (sg b ids) p = p) ∧ (∀ k, p.lt (b + k) = true) ∧ p.lt b = true ∧ p.one = true :=
  ⟨fun ids => renA_lt (fun id h => sg_lt h) (by have := lt1s_mono (k := 0) h; simpa using this.1), fun k => (lt1s_mono h).1, by have := lt1s_mono (k := 0) h; simpa using this.1, (lt1s_mono (k := 0) h).2.1⟩

end Go.Vx
/- The engine, part 24: all steps in one bundle, for simp. -/
set_option linter.unusedVariables false
namespace Go.Vx
open Go Go.RowKit

theorem eng : type_of% (And.intro (And.intro (And.intro (And.intro (And.intro (And.intro (And.intro (And.intro (@vops_cons) (@vops_nil)) (And.intro (@vops_guard) (@vopsD_cons))) (And.intro (And.intro (@vopsD_nil) (@vopsD_guard)) (And.intro (@goOn_eq) (And.intro (@goD_eq) (@goA_eq))))) (And.intro (And.intro (And.intro (@goAD_eq) (@goB_eq)) (And.intro (@goBD_eq) (And.intro (@vg_tt) (@vg_ff)))) (And.intro (And.intro (@vg_tf) (@vg_ft)) (And.intro (@vg_un) (And.intro (@ob_some) (@upds_cons)))))) (And.intro (And.intro (And.intro (And.intro (@upds_nil) (@putE_some)) (And.intro (@putE_non) (@evs_nil))) (And.intro (And.intro (@evs_cons) (@vc_some)) (And.intro (@vcv_some) (And.intro (@vop_call) (@vop_callv))))) (And.intro (And.intro (And.intro (@restr_old) (@restr_new)) (And.intro (@restr_new0) (And.intro (@restr_at2) (@vop_mv)))) (And.intro (And.intro (@vop_nilrow) (@vop_pick)) (And.intro (@vop_alloc) (And.intro (@vop_box) (@vop_build))))))) (And.intro (And.intro (And.intro (And.intro (And.intro (@vop_mkrow) (@vop_load1)) (And.intro (@vop_loadn) (@vop_store))) (And.intro (And.intro (@vop_nilck) (@vop_fieldA)) (And.intro (@vop_indexS) (And.intro (@vop_indexA) (@vop_field1))))) (And.intro (And.intro (And.intro (@vop_fieldn) (@vop_indexT)) (And.intro (@vop_bin) (And.intro (@vop_eqb) (@vop_eqp)))) (And.intro (And.intro (@vop_eqs) (@vop_not)) (And.intro (@vop_neg) (And.intro (@vop_conv) (@vop_sliceT)))))) (And.intro (And.intro (And.intro (And.intro (@vop_sliceS) (@vop_lenT)) (And.intro (@vop_lenS) (@vop_max2))) (And.intro (And.intro (@vop_min2) (@vop_append)) (And.intro (@vop_mkslice) (And.intro (@vop_ext) (@vop_mkfn))))) (And.intro (And.intro (And.intro (@then_normal) (@then_exit)) (And.intro (@then_ret) (And.intro (@block_normal) (@block_exit)))) (And.intro (And.intro (@block_ret) (@pret_normal)) (And.intro (@pret_ret) (And.intro (@vopF.eq_1) (@vopF.eq_2)))))))) (And.intro (And.intro (And.intro (And.intro (And.intro (And.intro (@vopF.eq_3) (@vopF.eq_4)) (And.intro (@vopF.eq_5) (@vopF.eq_6))) (And.intro (And.intro (@vopF.eq_7) (@vopF.eq_8)) (And.intro (@vopF.eq_9) (And.intro (@vopF.eq_10) (@vopF.eq_11))))) (And.intro (And.intro (And.intro (@vopF.eq_12) (@vopF.eq_13)) (And.intro (@vopF.eq_14) (And.intro (@vopF.eq_15) (@vopF.eq_16)))) (And.intro (And.intro (@vopF.eq_17) (@vopF.eq_18)) (And.intro (@vopF.eq_19) (And.intro (@vopF.eq_20) (@vopF.eq_21)))))) (And.intro (And.intro (And.intro (And.intro (@vopF.eq_22) (@vopF.eq_23)) (And.intro (@vopF.eq_24) (@vopF.eq_25))) (And.intro (And.intro (@vopF.eq_26) (@vopF.eq_27)) (And.intro (@vopF.eq_28) (And.intro (@vopF.eq_29) (@vopF.eq_30))))) (And.intro (And.intro (And.intro (@allLen_nil) (@allLen_cons)) (And.intro (@vopF_append) (And.intro (@vopF_mkslice) (@XA.ev.eq_1)))) (And.intro (And.intro (@XA.ev.eq_2) (@binF.eq_1)) (And.intro (@binF.eq_2) (And.intro (@binF.eq_3) (@binF.eq_4))))))) (And.intro (And.intro (And.intro (And.intro (And.intro (@binF.eq_5) (@intOp.eq_1)) (And.intro (@intOp.eq_2) (@intOp.eq_3))) (And.intro (And.intro (@intOp.eq_4) (@intOp.eq_5)) (And.intro (@intOp.eq_6) (And.intro (@intOp.eq_7) (@intOp.eq_8))))) (And.intro (And.intro (And.intro (@intOp.eq_9) (@intOp.eq_10)) (And.intro (@intOp.eq_11) (And.intro (@intOp.eq_12) (@intOp.eq_13)))) (And.intro (And.intro (@intOp.eq_14) (@intOp.eq_15)) (And.intro (@intOp.eq_16) (And.intro (@shOp.eq_1) (@shOp.eq_2)))))) (And.intro (And.intro (And.intro (And.intro (@shOp.eq_3) (@strOp.eq_1)) (And.intro (@strOp.eq_2) (And.intro (@strOp.eq_3) (@strOp.eq_4)))) (And.intro (And.intro (@strOp.eq_5) (@strOp.eq_6)) (And.intro (@strOp.eq_7) (And.intro (@strOp.eq_8) (@rd.eq_1))))) (And.intro (And.intro (And.intro (@rd.eq_2) (@rd.eq_3)) (And.intro (@head1.eq_1) (And.intro (@head1.eq_2) (@fillP.eq_1)))) (And.intro (And.intro (@fillP.eq_2) (@fillR.eq_1)) (And.intro (@fillR.eq_2) (And.intro (@splice.eq_1) (@idx.eq_1))))))))) (And.intro (And.intro (And.intro (And.intro (And.intro (And.intro (And.intro (@idx.eq_2) (@idxo.eq_1)) (And.intro (@idxo.eq_2) (@vopEqs.eq_1))) (And.intro (And.intro (@vopEqs.eq_2) (@eqCells.eq_1)) (And.intro (@eqCells.eq_2) (And.intro (@eqCells.eq_3) (@eq1.eq_1))))) (And.intro (And.intro (And.intro (@eq1.eq_2) (@eq1.eq_3)) (And.intro (@eq1.eq_4) (And.intro (@purA.eq_1) (@purA.eq_2)))) (And.intro (And.intro (@PV.cells.eq_1) (@PV.cells.eq_2)) (And.intro (@PV.nt.eq_1) (And.intro (@PV.nt.eq_2) (@PV.one.eq_1)))))) (And.intro (And.intro (And.intro (And.intro (@PV.one.eq_2) (@PV.one.eq_3)) (And.intro (@Obj.fz.eq_1) (@Obj.fz.eq_2))) (And.intro (And.intro (@upd_at) (@Option.bind_some.{0,0})) (And.intro (@Option.map_some.{0,0}) (And.intro (@List.getElem?_cons_zero.{0}) (@List.getElem?_cons_succ.{0}))))) (And.intro (And.intro (And.intro (@List.length_cons.{0}) (@List.length_nil.{0})) (And.intro (@List.take_succ_cons.{0}) (And.intro (@List.take_zero.{0}) (@List.take_nil.{0})))) (And.intro (And.intro (@List.drop_succ_cons.{0}) (@List.drop_zero.{0})) (And.intro (@List.drop_nil.{0}) (And.intro (@List.nil_append.{0}) (@List.cons_append.{0}))))))) (And.intro (And.intro (And.intro (And.intro (And.intro (@List.append_nil.{0}) (@List.set_cons_zero.{0})) (And.intro (@List.set_cons_succ.{0}) (@List.replicate_succ.{0}))) (And.intro (And.intro (@List.replicate_zero.{0}) (@List.mapM_nil.{0,0,0})) (And.intro (@List.mapM_cons.{0,0,0}) (And.intro (@List.map_cons.{0,0}) (@List.map_nil.{0,0}))))) (And.intro (And.intro (And.intro (@and_self) (@and_true)) (And.intro (@true_and) (And.intro (@ne_eq.{1}) (@not_true_eq_false)))) (And.intro (And.intro (@not_false_eq_true) (@Bool.not_true)) (And.intro (@Bool.not_false) (And.intro (@false_and) (@and_false)))))) (And.intro (And.intro (And.intro (And.intro (@false_or) (@or_false)) (And.intro (@true_or) (@or_true))) (And.intro (And.intro (@Nat.zero_add) (@Nat.add_zero)) (And.intro (@Nat.add_assoc) (And.intro (@Nat.add_lt_add_iff_left) (@Nat.add_left_cancel_iff))))) (And.intro (And.intro (And.intro (@Nat.mul_zero) (@Bool.false_eq_true)) (And.intro (@Bool.true_and) (And.intro (@Bool.and_true) (@Bool.false_and)))) (And.intro (And.intro (@Bool.and_false) (@Bool.true_or)) (And.intro (@Bool.or_true) (And.intro (@Bool.false_or) (@Bool.or_false)))))))) (And.intro (And.intro (And.intro (And.intro (And.intro (And.intro (@List.getElem?_nil.{0}) (@decide_true)) (And.intro (@decide_false) (@Nat.le_refl))) (And.intro (And.intro (@Nat.lt_irrefl) (@Nat.left_eq_add)) (And.intro (@Nat.add_eq_left) (And.intro (@Nat.lt_add_right_iff_pos) (@Option.pure_def.{0}))))) (And.intro (And.intro (And.intro (@Option.bind_eq_bind.{0}) (@eq_self.{1})) (And.intro (@Nat.testBit_eq_decide_div_mod_eq) (And.intro (@vcv_yld) (@vnx_some)))) (And.intro (And.intro (@vop_next) (@vop_mkmap)) (And.intro (@vop_lookup) (And.intro (@vop_mapUpd) (@vop_mapEnt)))))) (And.intro (And.intro (And.intro (And.intro (@vop_entSto) (@vop_lenM)) (And.intro (@vop_eqm) (@vop_range))) (And.intro (And.intro (@vop_entry) (@vop_indexV)) (And.intro (@vop_slice0) (And.intro (@vop_slice3) (@vopF.eq_33))))) (And.intro (And.intro (And.intro (@vopF.eq_34) (@vopF.eq_35)) (And.intro (@vopF.eq_36) (And.intro (@vopF.eq_37) (@vopF.eq_38)))) (And.intro (And.intro (@vopF.eq_39) (@vopF.eq_40)) (And.intro (@vopF.eq_41) (And.intro (@vopF.eq_42) (@vopF.eq_43))))))) (And.intro (And.intro (And.intro (And.intro (And.intro (@vopF.eq_44) (@vopF.eq_45)) (And.intro (@vopF.eq_46) (@elems.eq_1))) (And.intro (And.intro (@elems.eq_2) (@elems.eq_3)) (And.intro (@pur.eq_1) (And.intro (@pur.eq_2) (@pur.eq_3))))) (And.intro (And.intro (And.intro (@pur.eq_4) (@pur.eq_5)) (And.intro (@pur.eq_6) (And.intro (@pur.eq_7) (@pur.eq_8)))) (And.intro (And.intro (@pur.eq_9) (@mes.eq_1)) (And.intro (@mes.eq_2) (And.intro (@mval.eq_1) (@mval.eq_2)))))) (And.intro (And.intro (And.intro (And.intro (@mput.eq_1) (@mput.eq_2)) (And.intro (@mstamp.eq_1) (And.intro (@mstamp.eq_2) (@vopLook.eq_1)))) (And.intro (And.intro (@nextP.eq_1) (@vlo_none)) (And.intro (@vlo_osl) (And.intro (@vlo_nsl) (@vop_appendL))))) (And.intro (And.intro (And.intro (@addH_no) (@addH_yes)) (And.intro (@restrH_nil) (And.intro (@restrH_anc) (@restrH_same)))) (And.intro (And.intro (@isNone_none) (@isNone_some)) (And.intro (@swap.eq_1) (And.intro (@Option.isSome_none.{0}) (@Option.isSome_some.{0})))))))))) := (And.intro (And.intro (And.intro (And.intro (And.intro (And.intro (And.intro (And.intro (@vops_cons) (@vops_nil)) (And.intro (@vops_guard) (@vopsD_cons))) (And.intro (And.intro (@vopsD_nil) (@vopsD_guard)) (And.intro (@goOn_eq) (And.intro (@goD_eq) (@goA_eq))))) (And.intro (And.intro (And.intro (@goAD_eq) (@goB_eq)) (And.intro (@goBD_eq) (And.intro (@vg_tt) (@vg_ff)))) (And.intro (And.intro (@vg_tf) (@vg_ft)) (And.intro (@vg_un) (And.intro (@ob_some) (@upds_cons)))))) (And.intro (And.intro (And.intro (And.intro (@upds_nil) (@putE_some)) (And.intro (@putE_non) (@evs_nil))) (And.intro (And.intro (@evs_cons) (@vc_some)) (And.intro (@vcv_some) (And.intro (@vop_call) (@vop_callv))))) (And.intro (And.intro (And.intro (@restr_old) (@restr_new)) (And.intro (@restr_new0) (And.intro (@restr_at2) (@vop_mv)))) (And.intro (And.intro (@vop_nilrow) (@vop_pick)) (And.intro (@vop_alloc) (And.intro (@vop_box) (@vop_build))))))) (And.intro (And.intro (And.intro (And.intro (And.intro (@vop_mkrow) (@vop_load1)) (And.intro (@vop_loadn) (@vop_store))) (And.intro (And.intro (@vop_nilck) (@vop_fieldA)) (And.intro (@vop_indexS) (And.intro (@vop_indexA) (@vop_field1))))) (And.intro (And.intro (And.intro (@vop_fieldn) (@vop_indexT)) (And.intro (@vop_bin) (And.intro (@vop_eqb) (@vop_eqp)))) (And.intro (And.intro (@vop_eqs) (@vop_not)) (And.intro (@vop_neg) (And.intro (@vop_conv) (@vop_sliceT)))))) (And.intro (And.intro (And.intro (And.intro (@vop_sliceS) (@vop_lenT)) (And.intro (@vop_lenS) (@vop_max2))) (And.intro (And.intro (@vop_min2) (@vop_append)) (And.intro (@vop_mkslice) (And.intro (@vop_ext) (@vop_mkfn))))) (And.intro (And.intro (And.intro (@then_normal) (@then_exit)) (And.intro (@then_ret) (And.intro (@block_normal) (@block_exit)))) (And.intro (And.intro (@block_ret) (@pret_normal)) (And.intro (@pret_ret) (And.intro (@vopF.eq_1) (@vopF.eq_2)))))))) (And.intro (And.intro (And.intro (And.intro (And.intro (And.intro (@vopF.eq_3) (@vopF.eq_4)) (And.intro (@vopF.eq_5) (@vopF.eq_6))) (And.intro (And.intro (@vopF.eq_7) (@vopF.eq_8)) (And.intro (@vopF.eq_9) (And.intro (@vopF.eq_10) (@vopF.eq_11))))) (And.intro (And.intro (And.intro (@vopF.eq_12) (@vopF.eq_13)) (And.intro (@vopF.eq_14) (And.intro (@vopF.eq_15) (@vopF.eq_16)))) (And.intro (And.intro (@vopF.eq_17) (@vopF.eq_18)) (And.intro (@vopF.eq_19) (And.intro (@vopF.eq_20) (@vopF.eq_21)))))) (And.intro (And.intro (And.intro (And.intro (@vopF.eq_22) (@vopF.eq_23)) (And.intro (@vopF.eq_24) (@vopF.eq_25))) (And.intro (And.intro (@vopF.eq_26) (@vopF.eq_27)) (And.intro (@vopF.eq_28) (And.intro (@vopF.eq_29) (@vopF.eq_30))))) (And.intro (And.intro (And.intro (@allLen_nil) (@allLen_cons)) (And.intro (@vopF_append) (And.intro (@vopF_mkslice) (@XA.ev.eq_1)))) (And.intro (And.intro (@XA.ev.eq_2) (@binF.eq_1)) (And.intro (@binF.eq_2) (And.intro (@binF.eq_3) (@binF.eq_4))))))) (And.intro (And.intro (And.intro (And.intro (And.intro (@binF.eq_5) (@intOp.eq_1)) (And.intro (@intOp.eq_2) (@intOp.eq_3))) (And.intro (And.intro (@intOp.eq_4) (@intOp.eq_5)) (And.intro (@intOp.eq_6) (And.intro (@intOp.eq_7) (@intOp.eq_8))))) (And.intro (And.intro (And.intro (@intOp.eq_9) (@intOp.eq_10)) (And.intro (@intOp.eq_11) (And.intro (@intOp.eq_12) (@intOp.eq_13)))) (And.intro (And.intro (@intOp.eq_14) (@intOp.eq_15)) (And.intro (@intOp.eq_16) (And.intro (@shOp.eq_1) (@shOp.eq_2)))))) (And.intro (And.intro (And.intro (And.intro (@shOp.eq_3) (@strOp.eq_1)) (And.intro (@strOp.eq_2) (And.intro (@strOp.eq_3) (@strOp.eq_4)))) (And.intro (And.intro (@strOp.eq_5) (@strOp.eq_6)) (And.intro (@strOp.eq_7) (And.intro (@strOp.eq_8) (@rd.eq_1))))) (And.intro (And.intro (And.intro (@rd.eq_2) (@rd.eq_3)) (And.intro (@head1.eq_1) (And.intro (@head1.eq_2) (@fillP.eq_1)))) (And.intro (And.intro (@fillP.eq_2) (@fillR.eq_1)) (And.intro (@fillR.eq_2) (And.intro (@splice.eq_1) (@idx.eq_1))))))))) (And.intro (And.intro (And.intro (And.intro (And.intro (And.intro (And.intro (@idx.eq_2) (@idxo.eq_1)) (And.intro (@idxo.eq_2) (@vopEqs.eq_1))) (And.intro (And.intro (@vopEqs.eq_2) (@eqCells.eq_1)) (And.intro (@eqCells.eq_2) (And.intro (@eqCells.eq_3) (@eq1.eq_1))))) (And.intro (And.intro (And.intro (@eq1.eq_2) (@eq1.eq_3)) (And.intro (@eq1.eq_4) (And.intro (@purA.eq_1) (@purA.eq_2)))) (And.intro (And.intro (@PV.cells.eq_1) (@PV.cells.eq_2)) (And.intro (@PV.nt.eq_1) (And.intro (@PV.nt.eq_2) (@PV.one.eq_1)))))) (And.intro (And.intro (And.intro (And.intro (@PV.one.eq_2) (@PV.one.eq_3)) (And.intro (@Obj.fz.eq_1) (@Obj.fz.eq_2))) (And.intro (And.intro (@upd_at) (@Option.bind_some.{0,0})) (And.intro (@Option.map_some.{0,0}) (And.intro (@List.getElem?_cons_zero.{0}) (@List.getElem?_cons_succ.{0}))))) (And.intro (And.intro (And.intro (@List.length_cons.{0}) (@List.length_nil.{0})) (And.intro (@List.take_succ_cons.{0}) (And.intro (@List.take_zero.{0}) (@List.take_nil.{0})))) (And.intro (And.intro (@List.drop_succ_cons.{0}) (@List.drop_zero.{0})) (And.intro (@List.drop_nil.{0}) (And.intro (@List.nil_append.{0}) (@List.cons_append.{0}))))))) (And.intro (And.intro (And.intro (And.intro (And.intro (@List.append_nil.{0}) (@List.set_cons_zero.{0})) (And.intro (@List.set_cons_succ.{0}) (@List.replicate_succ.{0}))) (And.intro (And.intro (@List.replicate_zero.{0}) (@List.mapM_nil.{0,0,0})) (And.intro (@List.mapM_cons.{0,0,0}) (And.intro (@List.map_cons.{0,0}) (@List.map_nil.{0,0}))))) (And.intro (And.intro (And.intro (@and_self) (@and_true)) (And.intro (@true_and) (And.intro (@ne_eq.{1}) (@not_true_eq_false)))) (And.intro (And.intro (@not_false_eq_true) (@Bool.not_true)) (And.intro (@Bool.not_false) (And.intro (@false_and) (@and_false)))))) (And.intro (And.intro (And.intro (And.intro (@false_or) (@or_false)) (And.intro (@true_or) (@or_true))) (And.intro (And.intro (@Nat.zero_add) (@Nat.add_zero)) (And.intro (@Nat.add_assoc) (And.intro (@Nat.add_lt_add_iff_left) (@Nat.add_left_cancel_iff))))) (And.intro (And.intro (And.intro (@Nat.mul_zero) (@Bool.false_eq_true)) (And.intro (@Bool.true_and) (And.intro (@Bool.and_true) (@Bool.false_and)))) (And.intro (And.intro (@Bool.and_false) (@Bool.true_or)) (And.intro (@Bool.or_true) (And.intro (@Bool.false_or) (@Bool.or_false)))))))) (And.intro (And.intro (And.intro (And.intro (And.intro (And.intro (@List.getElem?_nil.{0}) (@decide_true)) (And.intro (@decide_false) (@Nat.le_refl))) (And.intro (And.intro (@Nat.lt_irrefl) (@Nat.left_eq_add)) (And.intro (@Nat.add_eq_left) (And.intro (@Nat.lt_add_right_iff_pos) (@Option.pure_def.{0}))))) (And.intro (And.intro (And.intro (@Option.bind_eq_bind.{0}) (@eq_self.{1})) (And.intro (@Nat.testBit_eq_decide_div_mod_eq) (And.intro (@vcv_yld) (@vnx_some)))) (And.intro (And.intro (@vop_next) (@vop_mkmap)) (And.intro (@vop_lookup) (And.intro (@vop_mapUpd) (@vop_mapEnt)))))) (And.intro (And.intro (And.intro (And.intro (@vop_entSto) (@vop_lenM)) (And.intro (@vop_eqm) (@vop_range))) (And.intro (And.intro (@vop_entry) (@vop_indexV)) (And.intro (@vop_slice0) (And.intro (@vop_slice3) (@vopF.eq_33))))) (And.intro (And.intro (And.intro (@vopF.eq_34) (@vopF.eq_35)) (And.intro (@vopF.eq_36) (And.intro (@vopF.eq_37) (@vopF.eq_38)))) (And.intro (And.intro (@vopF.eq_39) (@vopF.eq_40)) (And.intro (@vopF.eq_41) (And.intro (@vopF.eq_42) (@vopF.eq_43))))))) (And.intro (And.intro (And.intro (And.intro (And.intro (@vopF.eq_44) (@vopF.eq_45)) (And.intro (@vopF.eq_46) (@elems.eq_1))) (And.intro (And.intro (@elems.eq_2) (@elems.eq_3)) (And.intro (@pur.eq_1) (And.intro (@pur.eq_2) (@pur.eq_3))))) (And.intro (And.intro (And.intro (@pur.eq_4) (@pur.eq_5)) (And.intro (@pur.eq_6) (And.intro (@pur.eq_7) (@pur.eq_8)))) (And.intro (And.intro (@pur.eq_9) (@mes.eq_1)) (And.intro (@mes.eq_2) (And.intro (@mval.eq_1) (@mval.eq_2)))))) (And.intro (And.intro (And.intro (And.intro (@mput.eq_1) (@mput.eq_2)) (And.intro (@mstamp.eq_1) (And.intro (@mstamp.eq_2) (@vopLook.eq_1)))) (And.intro (And.intro (@nextP.eq_1) (@vlo_none)) (And.intro (@vlo_osl) (And.intro (@vlo_nsl) (@vop_appendL))))) (And.intro (And.intro (And.intro (@addH_no) (@addH_yes)) (And.intro (@restrH_nil) (And.intro (@restrH_anc) (@restrH_same)))) (And.intro (And.intro (@isNone_none) (@isNone_some)) (And.intro (@swap.eq_1) (And.intro (@Option.isSome_none.{0}) (@Option.isSome_some.{0}))))))))))

end Go.Vx
/- The engine, part 22b: steps of a walk whose simp stands in a default, so that the texts stay short. -/
set_option linter.unusedVariables false
set_option linter.unusedSimpArgs false
namespace Go.Vx
open Go Go.RowKit

/-- What simp closes. -/
theorem cx {X : Prop} (e : X := by (simp -implicitDefEqProofs only [eng, reduceIte, reduceCtorEq, Nat.reduceAdd, Nat.reduceMul, Nat.reduceSub, Nat.reduceEqDiff, Nat.reduceLeDiff, Nat.reduceLT, Nat.reduceDiv, Nat.reduceMod, Int.reduceLE, Int.reduceLT, Int.reduceEq, Int.reduceNeg, Int.reduceAdd, Int.reduceSub, Int.reduceToNat, Nat.reducePow, Int.ofNat_zero, Int.natCast_one, Int.cast_ofNat_Int, *]; first | done | fail "open")) : X := e
/-- What simp closes. -/
theorem cy {X : Prop} (e : X := by (simp -implicitDefEqProofs only [eng, reduceIte, reduceCtorEq, Nat.reduceAdd, Nat.reduceMul, Nat.reduceSub, Nat.reduceEqDiff, Nat.reduceLeDiff, Nat.reduceLT, Nat.reduceDiv, Nat.reduceMod, Int.reduceLE, Int.reduceLT, Int.reduceEq, Int.reduceNeg, Int.reduceAdd, Int.reduceSub, Int.reduceToNat, Nat.reducePow, Int.ofNat_zero, Int.natCast_one, Int.cast_ofNat_Int]; first | done | fail "open")) : X := e
/-- What simp closes. -/
theorem cxL {X : Prop} (e : X := by (simp -implicitDefEqProofs only [ltS, lt8, List.all_cons, List.all_nil, eng, reduceIte, reduceCtorEq, Nat.reduceAdd, Nat.reduceMul, Nat.reduceSub, Nat.reduceEqDiff, Nat.reduceLeDiff, Nat.reduceLT, Nat.reduceDiv, Nat.reduceMod, Int.reduceLE, Int.reduceLT, Int.reduceEq, Int.reduceNeg, Int.reduceAdd, Int.reduceSub, Int.reduceToNat, Nat.reducePow, Int.ofNat_zero, Int.natCast_one, Int.cast_ofNat_Int, *]; first | done | fail "open")) : X := e
/-- What simp closes. -/
theorem cxR {X : Prop} (e : X := by (simp -implicitDefEqProofs only [eng, reduceIte, reduceCtorEq, Nat.reduceAdd, Nat.reduceMul, Nat.reduceSub, Nat.reduceEqDiff, Nat.reduceLeDiff, Nat.reduceLT, Nat.reduceDiv, Nat.reduceMod, Int.reduceLE, Int.reduceLT, Int.reduceEq, Int.reduceNeg, Int.reduceAdd, Int.reduceSub, Int.reduceToNat, Nat.reducePow, Int.ofNat_zero, Int.natCast_one, Int.cast_ofNat_Int, resF, resL, RX.ev, tup1, purT, *]; first | done | fail "open")) : X := e
/-- What simp and rfl close. -/
theorem ex {A : Type} {x y : A} (e : x = y := by (simp -implicitDefEqProofs only [eng, reduceIte, reduceCtorEq, Nat.reduceAdd, Nat.reduceMul, Nat.reduceSub, Nat.reduceEqDiff, Nat.reduceLeDiff, Nat.reduceLT, Nat.reduceDiv, Nat.reduceMod, Int.reduceLE, Int.reduceLT, Int.reduceEq, Int.reduceNeg, Int.reduceAdd, Int.reduceSub, Int.reduceToNat, Nat.reducePow, Int.ofNat_zero, Int.natCast_one, Int.cast_ofNat_Int, *] <;> rfl; first | done | fail "open")) : x = y := e
/-- What simp and rfl close. -/
theorem ey {A : Type} {x y : A} (e : x = y := by (simp -implicitDefEqProofs only [eng, reduceIte, reduceCtorEq, Nat.reduceAdd, Nat.reduceMul, Nat.reduceSub, Nat.reduceEqDiff, Nat.reduceLeDiff, Nat.reduceLT, Nat.reduceDiv, Nat.reduceMod, Int.reduceLE, Int.reduceLT, Int.reduceEq, Int.reduceNeg, Int.reduceAdd, Int.reduceSub, Int.reduceToNat, Nat.reducePow, Int.ofNat_zero, Int.natCast_one, Int.cast_ofNat_Int] <;> rfl; first | done | fail "open")) : x = y := e
/-- What simp and rfl close. -/
theorem exR {A : Type} {x y : A} (e : x = y := by (simp -implicitDefEqProofs only [eng, reduceIte, reduceCtorEq, Nat.reduceAdd, Nat.reduceMul, Nat.reduceSub, Nat.reduceEqDiff, Nat.reduceLeDiff, Nat.reduceLT, Nat.reduceDiv, Nat.reduceMod, Int.reduceLE, Int.reduceLT, Int.reduceEq, Int.reduceNeg, Int.reduceAdd, Int.reduceSub, Int.reduceToNat, Nat.reducePow, Int.ofNat_zero, Int.natCast_one, Int.cast_ofNat_Int, resF, resL, RX.ev, tup1, purT, *] <;> rfl; first | done | fail "open")) : x = y := e
/-- What simp turns a goal into. -/
theorem sx {X Y : Prop} (h : Y) (e : X = Y := by (simp -implicitDefEqProofs only [eng, reduceIte, reduceCtorEq, Nat.reduceAdd, Nat.reduceMul, Nat.reduceSub, Nat.reduceEqDiff, Nat.reduceLeDiff, Nat.reduceLT, Nat.reduceDiv, Nat.reduceMod, Int.reduceLE, Int.reduceLT, Int.reduceEq, Int.reduceNeg, Int.reduceAdd, Int.reduceSub, Int.reduceToNat, Nat.reducePow, Int.ofNat_zero, Int.natCast_one, Int.cast_ofNat_Int, *]; rfl; first | done | fail "open")) : X := e.mpr h
/-- What simp turns a goal into. -/
theorem sy {X Y : Prop} (h : Y) (e : X = Y := by (simp -implicitDefEqProofs only [eng, reduceIte, reduceCtorEq, Nat.reduceAdd, Nat.reduceMul, Nat.reduceSub, Nat.reduceEqDiff, Nat.reduceLeDiff, Nat.reduceLT, Nat.reduceDiv, Nat.reduceMod, Int.reduceLE, Int.reduceLT, Int.reduceEq, Int.reduceNeg, Int.reduceAdd, Int.reduceSub, Int.reduceToNat, Nat.reducePow, Int.ofNat_zero, Int.natCast_one, Int.cast_ofNat_Int]; rfl; first | done | fail "open")) : X := e.mpr h
end Go.Vx
/- The engine, part 25: what arguments read as. -/
set_option linter.unusedVariables false
set_option linter.unusedSimpArgs false
namespace Go.Vx
open Go Go.RowKit

/-- What a cell may hold. -/
inductive CT where
  | bool
  | int (k : IntKind)
  | str
  | sl (cs : List CT)

def cellsFs (rec : TypeId → Option (List CT)) : Nat → List Field → Option (List CT)
  | _, [] => some []
  | off, f :: fs => if f.offset = off then (rec f.type).bind fun c => (cellsFs rec (off + c.length) fs).map (c ++ ·) else none
/-- A type's cells. -/
def cellsTy (P : Program) : Nat → TypeId → Option (List CT)
  | 0, _ => none
  | n + 1, t =>
    ((match P.underlying t with
      | some .bool => some [.bool]
      | some (.int k) => some [.int k]
      | some .string => some [.str]
      | some (.slice e) => (cellsTy P n e).bind fun c => if 0 < c.length then some [.sl c] else none
      | some (.struct fs) => cellsFs (cellsTy P n) 0 fs.toList
      | some (.array len e) => (cellsTy P n e).map fun c => (List.replicate len c).flatten
      | _ => none) : Option (List CT)).bind fun c => if c.length = P.cellsOf t then some c else none

/-- N: how long a text or a slice may be. -/
inductive HasCT (N : Nat) : CT → PV → Prop
  | bool (b) : HasCT N .bool (.bool b)
  | int (k n) (h : (Lit.int k n).wf = true) : HasCT N (.int k) (.int k n)
  | str (s : List UInt8) (h : s.length ≤ N) : HasCT N .str (.str s)
  | sl (cs : List CT) (xs : List (List PV)) (hl : xs.length ≤ N) (h1 : ∀ x ∈ xs, x.length = cs.length) (h : ∀ x ∈ xs, ∀ (j : Nat) c p, cs[j]? = some c → x[j]? = some p → HasCT N c p) : HasCT N (.sl cs) (.sl xs)

theorem HasCT.one {N : Nat} {c : CT} {p : PV} (h : HasCT N c p) : p.one = true := by cases h <;> rfl

/-- What a reading says of lengths. -/
structure Small {H : Type} (sm : DataW H → Prop) (N : Nat) : Prop where
  str : ∀ s : List UInt8, s.length ≤ maxLen → sm (.lit (.string s)) → s.length ≤ N
  sl : ∀ xs ys, sm (.slice xs ys) → (xs.length ≤ maxLen → xs.length ≤ N) ∧ ∀ x ∈ xs, sm x
  agg : ∀ xs, sm (.agg xs) → ∀ x ∈ xs, sm x
theorem Small.any {H : Type} : Small (H := H) (fun _ => True) maxLen := ⟨fun _ h _ => h, fun _ _ _ => ⟨id, fun _ _ => trivial⟩, fun _ _ _ _ => trivial⟩

/-- Cells that hold what they may. -/
def Held1 (N : Nat) (W : World) (ts : List CT) (cs : List Value) : Prop :=
  cs.length = ts.length ∧ ∀ (j : Nat) v c, cs[j]? = some v → ts[j]? = some c → ∃ q, HasCT N c q ∧ Rep W (fun b => b < W.heap.size) noIds q v

theorem held_list {N : Nat} {W : World} {ts : List CT} {cs : List Value} (h : Held1 N W ts cs) : ∃ qs : List PV, qs.length = ts.length ∧ (∀ (j : Nat) c q, ts[j]? = some c → qs[j]? = some q → HasCT N c q) ∧ ∀ (j : Nat) q v, qs[j]? = some q → cs[j]? = some v → Rep W (fun b => b < W.heap.size) noIds q v := by
  obtain ⟨hl, hh⟩ := h
  obtain ⟨qs, hq, hR⟩ := exists_list (n := ts.length) (R := fun j q => ∀ v c, cs[j]? = some v → ts[j]? = some c → HasCT N c q ∧ Rep W (fun b => b < W.heap.size) noIds q v) (fun j hj => by
    have hj2 : j < cs.length := by omega
    obtain ⟨q, h1, h2⟩ := hh j cs[j] ts[j] (by simp [hj2]) (by simp [hj])
    refine ⟨q, fun v c hv hc => ?_⟩
    simp [hj2] at hv
    simp [hj] at hc
    subst hv; subst hc
    exact ⟨h1, h2⟩)
  refine ⟨qs, hq, fun j c q hc hqj => ?_, fun j q v hqj hv => ?_⟩
  · have hj : j < ts.length := (List.getElem?_eq_some_iff.1 hc).1
    have hj2 : j < cs.length := by omega
    exact (hR j q hqj cs[j] c (by simp [hj2]) hc).1
  · have hj2 : j < cs.length := (List.getElem?_eq_some_iff.1 hv).1
    have hj : j < ts.length := by omega
    exact (hR j q hqj v ts[j] hv (by simp [hj])).2

section
variable {H : Type} {enc : TypeId × Value → H} {P : Program} {W : World} {sp : Nat → Bool} {held : Bool} {N : Nat} {sm : DataW H → Prop}

theorem held_fs {n : Nat} {cs : List Value} (rec : TypeId → Option (List CT)) (hlen : ∀ t c, rec t = some c → c.length = P.cellsOf t)
    (ih : ∀ t ds d ps c, DataW.trod enc P W 0 sp held n t ds = some (d, ps) → sm d → rec t = some c → Held1 N W c ds) :
    ∀ (fs : List Field) (off : Nat) (c : List CT) xs, cellsFs rec off fs = some c → (fs.mapM fun f => DataW.trod enc P W 0 sp held n f.type ((cs.drop f.offset).take (P.cellsOf f.type))) = some xs → (∀ x ∈ xs, sm x.1) → off + c.length ≤ cs.length → Held1 N W c ((cs.drop off).take c.length)
  | [], off, c, xs, h1, _, _, _ => by
    simp [cellsFs] at h1; subst h1
    exact ⟨by simp, by simp⟩
  | f :: fs, off, c, xs, h1, h2, hsm, h3 => by
    simp only [cellsFs] at h1
    split at h1
    case isFalse => cases h1
    rename_i ho
    simp only [Option.bind_eq_some_iff, Option.map_eq_some_iff] at h1
    obtain ⟨c1, hc1, c2, hc2, rfl⟩ := h1
    simp only [List.mapM_cons, Option.bind_eq_bind, Option.bind_eq_some_iff, Option.pure_def, Option.some.injEq] at h2
    obtain ⟨x, hx, ys, hys, rfl⟩ := h2
    simp only [List.length_append] at h3
    have g1 := ih f.type _ x.1 x.2 c1 hx (hsm x List.mem_cons_self) hc1
    have g2 := held_fs rec hlen ih fs (off + c1.length) c2 ys hc2 hys (fun y hy => hsm y (List.mem_cons_of_mem _ hy)) (by omega)
    rw [ho, ← hlen _ _ hc1] at g1
    have hsplit : (cs.drop off).take (c1 ++ c2).length = (cs.drop off).take c1.length ++ (cs.drop (off + c1.length)).take c2.length := by
      rw [List.length_append, List.take_add, List.drop_drop]
    rw [hsplit]
    refine ⟨by simp [g1.1, g2.1], fun j v ct hv hc => ?_⟩
    by_cases hj : j < c1.length
    · rw [List.getElem?_append_left (by rw [g1.1]; exact hj)] at hv
      rw [List.getElem?_append_left hj] at hc
      exact g1.2 j v ct hv hc
    · rw [List.getElem?_append_right (by rw [g1.1]; omega), g1.1] at hv
      rw [List.getElem?_append_right (by omega)] at hc
      exact g2.2 _ v ct hv hc

theorem range_some {α : Type} {f : Nat → Option α} {n : Nat} {xs : List α} (h : (List.range n).mapM f = some xs) : xs.length = n ∧ ∀ (i : Nat) x, xs[i]? = some x → f i = some x := by
  obtain ⟨h1, h2⟩ := mapM_some h
  refine ⟨by simpa using h1, fun i x hx => ?_⟩
  have hi : i < n := by have := (List.getElem?_eq_some_iff.1 hx).1; simp at h1; omega
  exact h2 i i x (by simp [hi]) hx

theorem rep_flat {α : Type} {c : List α} {len j : Nat} {u : α} (h : (List.replicate len c).flatten[j]? = some u) : c[j % c.length]? = some u ∧ j / c.length < len ∧ 0 < c.length := by
  have hk : ∀ x ∈ List.replicate len c, x.length = c.length := fun x hx => by rw [(List.mem_replicate.1 hx).2]
  obtain ⟨i, q, y, h3, hq, h1, h2⟩ := flat_inv hk h
  have hi : i < len := by have := (List.getElem?_eq_some_iff.1 h1).1; simpa using this
  have hy : y = c := by simp [hi] at h1; exact h1.symm
  subst hy
  have hpos : 0 < y.length := by omega
  refine ⟨?_, ?_, hpos⟩
  · rw [h3, Nat.mul_comm, Nat.mul_add_mod, Nat.mod_eq_of_lt hq]; exact h2
  · rw [h3, Nat.mul_comm, Nat.mul_add_div hpos, Nat.div_eq_of_lt hq]; omega

/-- **What an argument reads as.** -/
theorem trod_held (hsm : Small sm N) : ∀ (n : Nat) (t : TypeId) (cs : List Value) (d : DataW H) (ps : List MemPlace) (m : Nat) (c : List CT), DataW.trod enc P W 0 sp held n t cs = some (d, ps) → sm d → cellsTy P m t = some c → Held1 N W c cs ∧ c.length = P.cellsOf t := by
  intro n
  induction n with
  | zero => intro t cs d ps m c h; simp [DataW.trod] at h
  | succ n ih =>
    intro t cs d ps m c h hd hc
    cases m with
    | zero => simp [cellsTy] at hc
    | succ m =>
    have hlen : ∀ t c, cellsTy P m t = some c → c.length = P.cellsOf t := fun t c h => by
      cases m with
      | zero => simp [cellsTy] at h
      | succ m =>
        simp only [cellsTy, Option.bind_eq_some_iff] at h
        obtain ⟨c', _, h⟩ := h
        split at h
        · rename_i hl; injection h with h; subst h; exact hl
        · cases h
    simp only [cellsTy, Option.bind_eq_some_iff] at hc
    obtain ⟨c', hc', hc⟩ := hc
    split at hc
    case isFalse => cases hc
    rename_i hcl
    injection hc with hc; subst hc
    refine ⟨?_, hcl⟩
    have single : ∀ (ct : CT) (v : Value), (∃ q, HasCT N ct q ∧ Rep W (fun b => b < W.heap.size) noIds q v) → Held1 N W [ct] [v] := fun ct v hq => by
      refine ⟨rfl, fun j v' c hv hc => ?_⟩
      cases j with
      | zero => simp at hv hc; subst hv; subst hc; exact hq
      | succ j => simp at hv
    cases hu : P.underlying t with
    | none => rw [hu] at hc'; cases hc'
    | some ty =>
    rw [hu] at hc'
    cases ty with
    | bool =>
      simp at hc'; subst hc'
      unfold DataW.trod at h
      rw [hu] at h
      split at h <;> simp_all
      exact single _ _ _ (.bool _) (.bool _)
    | int k =>
      simp at hc'; subst hc'
      unfold DataW.trod at h
      rw [hu] at h
      split at h <;> simp_all
      obtain ⟨⟨rfl, hwf⟩, _, _⟩ := h
      exact single _ _ _ (.int _ _ hwf) (.int _ _)
    | string =>
      simp at hc'; subst hc'
      have h2 : ∃ s, cs = [.string s] ∧ s.size ≤ maxLen ∧ d = .lit (.string s.data.toList) := by
        clear single
        rcases cs with _ | ⟨v, _ | ⟨v2, r⟩⟩
        · simp [DataW.trod, hu] at h
        · cases v <;> simp [DataW.trod, hu] at h
          rename_i s
          exact ⟨s, rfl, h.1, h.2.1.symm⟩
        · simp [DataW.trod, hu] at h
      obtain ⟨s, rfl, hs, rfl⟩ := h2
      refine single _ _ ⟨.str s.data.toList, .str _ (hsm.str _ (by simpa using hs) hd), ?_⟩
      have := Rep.str (w := W) (ok := fun b => b < W.heap.size) (β := noIds) s.data.toList
      simpa using this
    | struct fs =>
      have h2 : cs.length = P.cellsOf t ∧ ∃ xs, (fs.toList.mapM fun f => DataW.trod enc P W 0 sp held n f.type ((cs.drop f.offset).take (P.cellsOf f.type))) = some xs ∧ d = .agg (xs.map (·.1)) := by
        clear single
        simp only [DataW.trod, hu] at h
        split at h
        · rename_i h1
          simp only [Option.map_eq_some_iff] at h
          obtain ⟨xs, h2, h3⟩ := h
          injection h3 with h3 _
          exact ⟨h1, xs, h2, h3.symm⟩
        · cases h
      obtain ⟨hl, xs, hxs, rfl⟩ := h2
      have hds : ∀ x ∈ xs, sm x.1 := fun x hx => hsm.agg _ hd _ (List.mem_map_of_mem hx)
      have := held_fs (n := n) (cellsTy P m) hlen (fun t ds d ps c h1 h2 h3 => (ih t ds d ps m c h1 h2 h3).1) fs.toList 0 c' xs hc' hxs hds (by omega)
      simpa [hcl, ← hl] using this
    | array len e =>
      simp only [Option.map_eq_some_iff] at hc'
      obtain ⟨c, hce, rfl⟩ := hc'
      have h2 : cs.length = P.cellsOf t ∧ ∃ xs, ((List.range len).mapM fun i => DataW.trod enc P W 0 sp held n e ((cs.drop (i * P.cellsOf e)).take (P.cellsOf e))) = some xs ∧ d = .agg (xs.map (·.1)) := by
        clear single
        simp only [DataW.trod, hu] at h
        split at h
        · rename_i h1
          simp only [Option.map_eq_some_iff] at h
          obtain ⟨xs, h2, h3⟩ := h
          injection h3 with h3 _
          exact ⟨h1, xs, h2, h3.symm⟩
        · cases h
      obtain ⟨hl, xs, hxs, rfl⟩ := h2
      have hds : ∀ x ∈ xs, sm x.1 := fun x hx => hsm.agg _ hd _ (List.mem_map_of_mem hx)
      obtain ⟨hx1, hx2⟩ := range_some hxs
      refine ⟨by omega, fun j v ct hv hc => ?_⟩
      obtain ⟨g1, g2, g3⟩ := rep_flat hc
      have hi : (xs[j / c.length]?).isSome = true := by simp [hx1, g2]
      obtain ⟨x, hx⟩ := Option.isSome_iff_exists.1 hi
      have hk := ih e _ x.1 x.2 m c (hx2 _ x hx) (hds x (List.mem_of_getElem? hx)) hce
      refine hk.1.2 (j % c.length) v ct ?_ g1
      rw [← hk.2, List.getElem?_take, if_pos (Nat.mod_lt _ g3), List.getElem?_drop, Nat.mul_comm, Nat.div_add_mod]
      exact hv
    | slice e =>
      simp only [Option.bind_eq_some_iff] at hc'
      obtain ⟨c, hce, hc'⟩ := hc'
      split at hc'
      case isFalse => cases hc'
      rename_i hpos
      injection hc' with hc'; subst hc'
      have hke : c.length = P.cellsOf e := hlen _ _ hce
      have h2 : cs = [.slice none 0 0] ∨ ∃ A len cap, cs = [.slice (some A) len cap] ∧ len ≤ cap ∧ cap ≤ maxLen ∧ ∃ xs, ((List.range len).mapM fun i => (W.cells? 0 (A.add (i * P.cellsOf e)) (P.cellsOf e)).bind (DataW.trod enc P W 0 sp held n e)) = some xs ∧ ∃ ys, d = .slice (xs.map (·.1)) ys := by
        clear single
        rcases cs with _ | ⟨v, _ | ⟨v2, r⟩⟩
        · simp [DataW.trod, hu] at h
        · cases v
          case slice A len cap =>
            cases A with
            | none =>
              cases len with
              | zero =>
                cases cap with
                | zero => exact .inl rfl
                | succ cap => simp [DataW.trod, hu] at h
              | succ len => simp [DataW.trod, hu] at h
            | some A =>
              simp only [DataW.trod, hu] at h
              split at h
              · rename_i hle
                simp only [Option.bind_eq_some_iff] at h
                obtain ⟨xs, hxs, h3⟩ := h
                simp only [Option.map_eq_some_iff] at h3
                obtain ⟨rest, _, h3⟩ := h3
                injection h3 with h3 _
                exact .inr ⟨A, len, cap, rfl, hle.2.1, hle.2.2, xs, hxs, _, h3.symm⟩
              · cases h
          all_goals simp [DataW.trod, hu] at h
        · simp [DataW.trod, hu] at h
      rcases h2 with rfl | ⟨A, len, cap, rfl, hle, hcm, xs, hxs, zs, rfl⟩
      · exact single _ _ ⟨.sl [], .sl _ [] (by simp) (by simp) (by simp), .sl0 none 0 (by simp)⟩
      · obtain ⟨hx1, hx2⟩ := range_some hxs
        obtain ⟨hdl, hds⟩ := hsm.sl _ _ hd
        have hel : ∀ i, i < len → ∃ ds, W.cells? 0 (A.add (i * c.length)) c.length = some ds ∧ Held1 N W c ds := fun i hi => by
          have hs : (xs[i]?).isSome = true := by simp [hx1, hi]
          obtain ⟨x, hx⟩ := Option.isSome_iff_exists.1 hs
          have := hx2 i x hx
          simp only [Option.bind_eq_some_iff] at this
          obtain ⟨ds, h1, h2⟩ := this
          rw [hke]
          exact ⟨ds, h1, (ih e ds x.1 x.2 m c h2 (hds _ (List.mem_map_of_mem (List.mem_of_getElem? hx))) hce).1⟩
        have hcell : ∀ i, i < len → ∃ ds, Held1 N W c ds ∧ ∀ (q : Nat) v, ds[q]? = some v → W.cell? (A.add (i * c.length + q)) = some v := fun i hi => by
          obtain ⟨ds, h1, h2⟩ := hel i hi
          refine ⟨ds, h2, fun q v hv => ?_⟩
          unfold World.cells? at h1
          rw [if_pos (Nat.zero_le _)] at h1
          have := (range_some h1).2 q v hv
          rwa [add_add] at this
        obtain ⟨ys, hyl, hy⟩ := exists_list (n := len) (R := fun i (y : List PV) => y.length = c.length ∧ (∀ (j : Nat) ct q, c[j]? = some ct → y[j]? = some q → HasCT N ct q) ∧
            ∀ (j : Nat) q, y[j]? = some q → ∃ v, W.cell? (A.add (i * c.length + j)) = some v ∧ Rep W (fun b => b < W.heap.size) noIds q v) (fun i hi => by
          obtain ⟨ds, h1, h2⟩ := hcell i hi
          obtain ⟨qs, g1, g2, g3⟩ := held_list h1
          refine ⟨qs, g1, g2, fun j q hq => ?_⟩
          have hjl : j < ds.length := by rw [h1.1, ← g1]; exact (List.getElem?_eq_some_iff.1 hq).1
          exact ⟨ds[j], h2 j _ (by simp [hjl]), g3 j q _ hq (by simp [hjl])⟩)
        have hmem : ∀ y ∈ ys, ∃ i, ys[i]? = some y := fun y hy => List.getElem?_of_mem hy
        have hyk : ∀ y ∈ ys, y.length = c.length := fun y hym => by obtain ⟨i, hi⟩ := hmem y hym; exact (hy i y hi).1
        have hct : HasCT N (.sl c) (.sl ys) := .sl c ys (by have := hdl (by simp; omega); simp at this; omega) hyk fun y hym j ct q h1 h2 => by obtain ⟨i, hi⟩ := hmem y hym; exact (hy i y hi).2.1 j ct q h1 h2
        refine single _ _ ⟨.sl ys, hct, ?_⟩
        by_cases hy0 : ys = []
        · subst hy0
          have : len = 0 := by simpa using hyl.symm
          subst this
          exact .sl0 (some A) cap hcm
        · have hflat : ∀ (j : Nat) q, ys.flatten[j]? = some q → ∃ v, W.cell? (A.add j) = some v ∧ Rep W (fun b => b < W.heap.size) noIds q v := fun j q hq => by
            obtain ⟨i, r, y, h3, hr, h1, h2⟩ := flat_inv hyk hq
            rw [h3]
            exact (hy i y h1).2.2 r q h2
          have hlen0 : 0 < ys.flatten.length := by
            rw [flat_len hyk]
            exact Nat.mul_pos (List.length_pos_iff.2 hy0) hpos
          obtain ⟨v0, hv0, _⟩ := hflat 0 ys.flatten[0] (by simp [hlen0])
          have hA0 : A.add 0 = A := by simp [Addr.add]
          rw [hA0] at hv0
          have hspot : A.spot = none ∧ A.block < W.heap.size := by
            unfold World.cell? at hv0
            split at hv0
            · rename_i hb
              split at hv0
              · cases hv0
              · rename_i hs
                exact ⟨by simpa using hs, (Array.getElem?_eq_some_iff.1 hb).1⟩
            · cases hv0
          rw [← hyl]
          refine .sl c.length ys A cap (fun j => (W.cell? (A.add j)).getD undef) hy0 (by omega) hcm hyk hspot.1 hspot.2 (fun q hq => ?_) (fun j q hq => ?_) fun j q hq => ?_
          · obtain ⟨y, hym, hqy⟩ := List.mem_flatten.1 hq
            obtain ⟨i, hi⟩ := hmem y hym
            obtain ⟨r, hr⟩ := List.getElem?_of_mem hqy
            have hrl : r < c.length := by rw [← (hy i y hi).1]; exact (List.getElem?_eq_some_iff.1 hr).1
            exact ((hy i y hi).2.1 r c[r] q (by simp [hrl]) hr).one
          · obtain ⟨v, hv, _⟩ := hflat j q hq
            simp [hv]
          · obtain ⟨v, hv, hr⟩ := hflat j q hq
            simpa [hv] using hr
    | _ => simp at hc'

end
end Go.Vx
/- The engine, part 26: a law's row. -/
set_option linter.unusedVariables false
set_option linter.unusedSimpArgs false
namespace Go.Vx
open Go Go.RowKit Go.ChangeShapes Go.WideShapes

/-- What an argument is. -/
def Fits (N : Nat) (c : List CT) (g : Bool) (q : PV) : Prop :=
  if g then ∃ qs, q = .agg qs ∧ qs.length = c.length ∧ ∀ (j : Nat) ct p, c[j]? = some ct → qs[j]? = some p → HasCT N ct p else ∃ ct, c = [ct] ∧ HasCT N ct q

theorem arg_repN {H : Type} {enc : TypeId × Value → H} {P : Program} {W : World} {sp : Nat → Bool} {held : Bool} {r : Reach} {b : Nat} {t : TypeId} {v : Value} {d : DataW H} {ps : List MemPlace} (m : Nat) {c : List CT} {g : Bool} {N : Nat} {sm : DataW H → Prop} (hsm : Small sm N) (hd : sm d)
    (hc : cellsTy P m t = some c) (hg : tyAgg P t = some g) (hok : Value.okWide P W r b t v) (h : DataW.Trod enc P W 0 sp held t v d ps) : ∃ q, Fits N c g q ∧ Rep W (fun b => b < W.heap.size) noIds q v := by
  obtain ⟨fuel, hf⟩ := h
  obtain ⟨hh, hcl⟩ := trod_held hsm fuel t _ d ps m c hf hd hc
  unfold tyAgg at hg
  unfold Value.okWide at hok
  cases hu : P.underlying t with
  | none => rw [hu] at hg; cases hg
  | some ty =>
  rw [hu] at hg hok
  have plain : g = false → Cell.okWide P W r b t v → (∀ cs, v ≠ .agg cs) → c.length = 1 → ∃ q, Fits N c g q ∧ Rep W (fun b => b < W.heap.size) noIds q v := by
    rintro rfl _ hna hc1
    have hv : v.cells.toList = [v] := by cases v <;> first | rfl | exact absurd rfl (hna _)
    rw [hv] at hh
    match c, hc1 with
    | [ct], _ =>
      obtain ⟨q, h1, h2⟩ := hh.2 0 v ct rfl rfl
      exact ⟨q, ⟨ct, rfl, h1⟩, h2⟩
  have agg : g = true → (∃ cs, v = .agg cs) → ∃ q, Fits N c g q ∧ Rep W (fun b => b < W.heap.size) noIds q v := by
    rintro rfl ⟨cs, rfl⟩
    obtain ⟨qs, h1, h2, h3⟩ := held_list hh
    refine ⟨.agg qs, ⟨qs, rfl, h1, h2⟩, ?_⟩
    have hl : cs.toList.length = qs.length := by rw [h1]; exact hh.1
    have := Rep.agg (w := W) (ok := fun b => b < W.heap.size) (β := noIds) qs cs.toList hl (fun q hq => by
      obtain ⟨j, hj⟩ := List.getElem?_of_mem hq
      have hjl : j < c.length := by rw [← h1]; exact (List.getElem?_eq_some_iff.1 hj).1
      exact (h2 j c[j] q (by simp [hjl]) hj).one) h3
    simpa using this
  cases m with
  | zero => simp [cellsTy] at hc
  | succ m =>
  simp only [cellsTy, Option.bind_eq_some_iff] at hc
  obtain ⟨c', hc', hcc⟩ := hc
  split at hcc
  case isFalse => cases hcc
  injection hcc with hcc; subst hcc
  rw [hu] at hc'
  cases ty with
  | struct fs => exact agg (by simpa using hg.symm) (by obtain ⟨cs, h, _⟩ := hok; exact ⟨cs, h⟩)
  | array n e => exact agg (by simpa using hg.symm) (by obtain ⟨cs, h, _⟩ := hok; exact ⟨cs, h⟩)
  | bool =>
    simp at hc'
    exact plain (by simpa using hg.symm) hok (fun cs hv => by subst hv; simp [Cell.okWide, hu, Cell.ok] at hok) (by rw [← hc']; rfl)
  | int k =>
    simp at hc'
    exact plain (by simpa using hg.symm) hok (fun cs hv => by subst hv; simp [Cell.okWide, hu, Cell.ok] at hok) (by rw [← hc']; rfl)
  | string =>
    simp at hc'
    exact plain (by simpa using hg.symm) hok (fun cs hv => by subst hv; simp [Cell.okWide, hu, Cell.ok] at hok) (by rw [← hc']; rfl)
  | slice e =>
    simp only [Option.bind_eq_some_iff] at hc'
    obtain ⟨c1, _, hc'⟩ := hc'
    split at hc'
    case isFalse => cases hc'
    injection hc' with hc'
    exact plain (by simpa using hg.symm) hok (fun cs hv => by subst hv; simp [Cell.okWide, hu, Cell.ok] at hok) (by rw [← hc']; rfl)
  | _ => simp at hc'

theorem arg_rep {H : Type} {enc : TypeId × Value → H} {P : Program} {W : World} {sp : Nat → Bool} {held : Bool} {r : Reach} {b : Nat} {t : TypeId} {v : Value} {d : DataW H} {ps : List MemPlace} (m : Nat) {c : List CT} {g : Bool}
    (hc : cellsTy P m t = some c) (hg : tyAgg P t = some g) (hok : Value.okWide P W r b t v) (h : DataW.Trod enc P W 0 sp held t v d ps) : ∃ q, Fits maxLen c g q ∧ Rep W (fun b => b < W.heap.size) noIds q v :=
  arg_repN m Small.any trivial hc hg hok h

theorem law_calls {P : Program} {f : Nat} {W : World} {vs : List Value} {qs : List PV} (hV : V P f qs mt 0 (.bool true) mt) (hr : Reps W (fun b => b < W.heap.size) noIds qs vs) :
    Calls P f vs.toArray W fun e W' => e = .returned (.bool true) ∧ Below W.heap.size W W' := by
  refine (hV.2 W noIds _ vs ⟨by simp [mt], by simp [mt]⟩ (by simp [noIds]) (fun k hk => hk) hr).mono (β' := noIds) (fun _ _ h => h) ?_
  rintro e W' ⟨v, _, _, β', ok', rfl, ⟨rfl, rfl⟩, hrep, _, hk, _⟩
  cases hrep
  refine ⟨rfl, ?_⟩
  have hno : ∀ b, ¬ Owns noIds mt b := fun b => by rintro ⟨id, o, cap, h, _⟩; cases h
  exact ⟨hk.os, hk.tape, hk.output, hk.size, fun i hi => hk.block i hi (hno i)⟩

end Go.Vx
/- The engine, part 23: an own row that a library function puts in order, by the shelf's contract. -/
set_option linter.unusedVariables false
set_option linter.unusedSimpArgs false
namespace Go.Vx
open Go Go.RowKit Go.Shelf Go.Lib Go.Sort Go.Proofs

/-- Elements of one plain cell. -/
structure Plain1 {α : Type} (encP : α → PV) (enc : α → Value) : Prop where
  one : ∀ x, (encP x).one = true
  rep : ∀ (w : World) (ok : Nat → Prop) (β : Ids) x, Rep w ok β (encP x) (enc x)
  unq : ∀ (w : World) (ok : Nat → Prop) (β : Ids) x v, Rep w ok β (encP x) v → v = enc x

abbrev row1 {α : Type} (encP : α → PV) (xs : List α) : List (List PV) := xs.map fun x => [encP x]
theorem row1_flat {α : Type} {encP : α → PV} : ∀ (xs : List α), (row1 encP xs).flatten = xs.map encP
  | [] => rfl
  | x :: xs => by show encP x :: (row1 encP xs).flatten = _; rw [row1_flat xs]; rfl

section
variable {P : Program} {α : Type} [Inhabited α]

/-- **An own row of plain elements that a call puts in order** (ys instead of xs). -/
theorem V.rowPut {encP : α → PV} {enc : α → Value} (hp : Plain1 encP enc) {f : Nat} (he : EntersX P (.f f)) (xs ys : List α) (hyl : ys.length = xs.length)
    (h0 : xs = [] → ∀ p cap w, Calls P f #[.slice p 0 cap] w fun e w' => e = .returned (.tuple #[]) ∧ w' = w)
    (hcall : xs ≠ [] → ∀ bl cap w, Holds enc w bl 0 xs.toArray → bl < w.heap.size → Calls P f #[.slice (some ⟨bl, 0, none⟩) xs.length cap] w fun e w' => e = .returned (.tuple #[]) ∧ ∃ n os, w' = grow (putRow enc (Sort.ahead w n) bl 0 ys.toArray) os)
    {id b T : Nat} (hid : id < b) :
    V P f [.osl id xs.length] (upd mt id (some (.row 1 (row1 encP xs) T false))) b (.tup []) (upd mt id (some (.row 1 (row1 encP ys) T false))) := by
  refine ⟨he, fun w β ok vs hm hf hok hr => ?_⟩
  have hlen := hr.1
  match vs, hlen with
  | [v1], _ =>
  have r1 := hr.2 0 _ v1 rfl rfl
  have hmid : (upd mt id (some (.row 1 (row1 encP xs) T false))) id = some (.row 1 (row1 encP xs) T false) := upd_same _ _ _
  have only : ∀ (X : Obj) i o, upd mt id (some X) i = some o → i = id ∧ o = X := fun X i o h => by
    by_cases he : i = id
    · subst he; simp [upd] at h; exact ⟨rfl, h.symm⟩
    · simp [upd, he, mt] at h
  obtain ⟨l, hl, hor⟩ := hm.objs id _ hmid
  by_cases hx0 : xs = []
  · have hy0 : ys = [] := List.eq_nil_of_length_eq_zero (by rw [hyl, hx0]; rfl)
    have h1 : ∃ p cap, v1 = .slice p 0 cap := by
      subst hx0
      cases r1 with
      | osl0 _ h => exact ⟨_, _, rfl⟩
      | osl _ _ bl cap h hn => exact ⟨_, _, rfl⟩
    obtain ⟨p, cap, rfl⟩ := h1
    refine (show Calls P f #[.slice p 0 cap] w _ from (h0 hx0 p cap w).mono ?_)
    rintro e w' ⟨rfl, rfl⟩
    exact ⟨_, _, _, β, ok, rfl, ⟨rfl, rfl⟩, .tup [] [] rfl (by simp), by rw [hy0, ← hx0]; exact hm, Keeps.refl _ _, fun _ _ => rfl, fun i hi => hf i (by omega), fun _ h => h, hok, fun _ h => .inl h, fun k h => .inl (by rw [hy0, ← hx0] at h; exact h)⟩
  have hne : 0 < xs.length := List.length_pos_iff.2 hx0
  obtain ⟨bl, cap, rfl, hbl, hn⟩ : ∃ bl cap, v1 = .slice (some ⟨bl, 0, none⟩) xs.length cap ∧ β id = some (.at bl cap) ∧ xs.length ≤ cap := by
    generalize hq : xs.length = q at r1 hne
    cases r1 with
    | osl0 _ h => omega
    | osl _ _ bl cap h hn => exact ⟨bl, cap, rfl, h, hn⟩
  rw [hbl] at hl; injection hl with hl; subst hl
  obtain ⟨⟨cur, g1, g2, g3, g4, g5, g6, g7⟩, g8, g9⟩ := hor
  rw [row1_flat] at g6 g7
  have hblk : bl < w.heap.size := (Array.getElem?_eq_some_iff.1 g1).1
  have hH : Holds enc w bl 0 xs.toArray := by
    intro j hj
    simp at hj
    obtain ⟨v, hv, hrep⟩ := g7 j (encP xs[j]) (by simp [hj])
    have hu := hp.unq _ _ _ _ _ hrep
    have e1 : (xs.toArray)[j]! = xs[j] := by rw [getElem!_pos _ _ (by simpa using hj)]; simp
    rw [Nat.zero_add, e1, ← hu]
    exact ⟨by rw [cell_of g1, hv], frozen_of g1 j⟩
  refine (show Calls P f #[.slice (some ⟨bl, 0, none⟩) xs.length cap] w _ from (hcall hx0 bl cap w hH hblk).mono ?_)
  rintro e w' ⟨rfl, n, os, rfl⟩
  have hheap : ∀ i, i < w.heap.size → (grow (putRow enc (Sort.ahead w n) bl 0 ys.toArray) os).heap[i]? = (w.heap.modify bl (onCells (putCells enc 0 ys.toArray)))[i]? := fun i hi => by
    simp only [grow, putRow, mapBlock, Sort.ahead]
    rw [Array.getElem?_append_left (by simpa using hi)]
  have hother : ∀ i, i < w.heap.size → i ≠ bl → (grow (putRow enc (Sort.ahead w n) bl 0 ys.toArray) os).heap[i]? = w.heap[i]? := fun i hi hne => by
    rw [hheap i hi, Array.getElem?_modify, if_neg (Ne.symm hne)]
  have hsize : w.heap.size ≤ (grow (putRow enc (Sort.ahead w n) bl 0 ys.toArray) os).heap.size := by simp [grow, putRow, mapBlock, Sort.ahead]
  have hnew : (grow (putRow enc (Sort.ahead w n) bl 0 ys.toArray) os).heap[bl]? = some (.cells (putCells enc 0 ys.toArray cur) T (0, 0)) := by
    rw [hheap bl hblk, Array.getElem?_modify, if_pos rfl, g1]; rfl
  refine ⟨_, _, _, β, ok, rfl, ⟨rfl, rfl⟩, .tup [] [] rfl (by simp), ⟨fun i o ho => ?_, fun i j o o' bb c1 c2 h1 h2 _ _ _ _ => ?_⟩, ⟨rfl, rfl, rfl, hsize, fun i hi hno => hother i hi fun he => hno ?_, ?_⟩, fun _ _ => rfl, fun i hi => hf i (by omega), fun _ h => h, fun i hi => Nat.lt_of_lt_of_le (hok i hi) hsize, fun _ h => .inl h, fun i hi => .inl ?_⟩
  · obtain ⟨rfl, rfl⟩ := only _ i o ho
    refine ⟨_, hbl, ⟨_, hnew, by simp [putCells, g2], by simpa [hyl] using hn, g4, ?_, ?_, fun j c hj => ?_⟩, by simp, g9⟩
    · intro y hy
      obtain ⟨x, _, rfl⟩ := List.mem_map.1 hy
      rfl
    · intro c hc
      rw [row1_flat] at hc
      obtain ⟨x, _, rfl⟩ := List.mem_map.1 hc
      exact hp.one x
    · rw [row1_flat] at hj
      simp only [List.getElem?_map, Option.map_eq_some_iff] at hj
      obtain ⟨x, hx, rfl⟩ := hj
      have hjl : j < ys.length := (List.getElem?_eq_some_iff.1 hx).1
      have hjc : j < cur.size := by rw [g2, Nat.mul_one]; omega
      refine ⟨enc x, ?_, hp.rep _ _ _ x⟩
      simp only [putCells, Array.getElem?_mapIdx, Array.getElem?_eq_getElem hjc, Option.map_some, Nat.zero_le, true_and, Nat.zero_add, List.size_toArray, hjl, if_true, Nat.sub_zero]
      have : ys.toArray[j]! = x := by rw [getElem!_pos _ _ (by simpa using hjl)]; simpa [hjl] using hx
      rw [this]
  · exact (only _ i o h1).1.trans (only _ j o' h2).1.symm
  · subst he; exact ⟨id, _, cap, hmid, rfl, hbl⟩
  · simp [grow, putRow, mapBlock, Sort.ahead]
  · obtain ⟨i', o, cap', h1, h2, h3⟩ := hi
    obtain ⟨rfl, rfl⟩ := only _ i' o h1
    exact ⟨i', _, cap', hmid, rfl, h3⟩

theorem plain_int : Plain1 (fun z : Int => PV.int .i64 z) (Value.int .i64) := ⟨fun _ => rfl, fun _ _ _ z => .int _ _, fun _ _ _ x v h => by cases h; rfl⟩
theorem plain_str : Plain1 PV.str encStr := ⟨fun _ => rfl, fun _ _ _ z => .str _, fun _ _ _ x v h => by cases h; rfl⟩

/-- slices.Sort over an own row of numbers. -/
theorem V.sortInt {ρ : Ren} (L : Lays.n189 P ρ) (he : EntersX P (.f (ρ.f 189))) (xs : List Int) (hsz : xs.length < 4611686018427387904) {id b T : Nat} (hid : id < b) :
    V P (ρ.f 189) [.osl id xs.length] (upd mt id (some (.row 1 (row1 (fun z : Int => PV.int .i64 z) xs) T false))) b (.tup []) (upd mt id (some (.row 1 (row1 (fun z : Int => PV.int .i64 z) (xs.mergeSort fun x y => decide (x ≤ y))) T false))) :=
  V.rowPut plain_int he xs _ (List.length_mergeSort _) (fun _ p cap w => Any.slices_Sort_int_none L p cap w) (fun _ bl cap w hH hb => Any.slices_Sort_int L bl 0 cap xs w hH hb hsz) hid
/-- slices.Sort over an own row of texts. -/
theorem V.sortStr {ρ : Ren} (L : Lays.n190 P ρ) (he : EntersX P (.f (ρ.f 190))) (xs : List (List UInt8)) (hsz : xs.length < 4611686018427387904) {id b T : Nat} (hid : id < b) :
    V P (ρ.f 190) [.osl id xs.length] (upd mt id (some (.row 1 (row1 PV.str xs) T false))) b (.tup []) (upd mt id (some (.row 1 (row1 PV.str (xs.mergeSort fun x y => decide (x ≤ y))) T false))) :=
  V.rowPut plain_str he xs _ (List.length_mergeSort _) (fun _ p cap w => Any.slices_Sort_string_none L p cap w) (fun _ bl cap w hH hb => Any.slices_Sort_string L bl 0 cap xs w hH hb hsz) hid

end
end Go.Vx
/- The engine, part 23b: slices.SortFunc at plain structs, by the shelf's contract. -/
set_option linter.unusedVariables false
set_option linter.unusedSimpArgs false
namespace Go.Vx
open Go Go.RowKit Go.Shelf Go.Lib Go.Sort Go.Proofs

/-- Elements whose cells are plain: bools, numbers, strings. -/
structure Plain {α : Type} (encP : α → List PV) (enc : α → List Value) (k : Nat) : Prop where
  lenP : ∀ x, (encP x).length = k
  len : ∀ x, (enc x).length = k
  one : ∀ x, ∀ c ∈ encP x, c.one = true
  oneV : ∀ x, ∀ v ∈ enc x, v.oneCell' = true
  rep : ∀ (w : World) (ok : Nat → Prop) (β : Ids) x (j : Nat) c v, (encP x)[j]? = some c → (enc x)[j]? = some v → Rep w ok β c v
  unq : ∀ (w : World) (ok : Nat → Prop) (β : Ids) x (j : Nat) c v, (encP x)[j]? = some c → Rep w ok β c v → (enc x)[j]? = some v

theorem keeps_grow {W w' : World} {own : Nat → Prop} (h : Keeps W own w') (hn : ∀ b, ¬ own b) : ∃ q os', w' = grow (W.drewN q) os' := by
  refine ⟨w'.drawn - W.drawn, w'.heap.extract W.heap.size w'.heap.size, ?_⟩
  have h1 : w'.heap = W.heap ++ w'.heap.extract W.heap.size w'.heap.size := by
    apply Array.ext_getElem?
    intro i
    rw [Array.getElem?_append]
    split
    · rename_i hi; exact h.block i hi (hn i)
    · rename_i hi
      rw [Array.getElem?_extract]
      by_cases h2 : i < w'.heap.size
      · rw [if_pos (by omega)]; congr 1; omega
      · rw [if_neg (by omega), Array.getElem?_eq_none (by omega)]
  obtain ⟨hh, ht, hd, ho, hout⟩ := w'
  obtain ⟨Wh, Wt, Wd, Wo, Wout⟩ := W
  have e1 := h.os; have e2 := h.tape; have e3 := h.output; have e4 := h.drawn
  simp only at e1 e2 e3 e4 h1
  subst e1; subst e2; subst e3
  simp only [grow, World.drewN, World.mk.injEq, true_and, and_true]
  exact ⟨h1, by omega⟩

theorem flat_eq {α : Type} {encP : α → List PV} {enc : α → List Value} {k : Nat} (hp : Plain encP enc k) (xs : List α) {j : Nat} {c : PV} (h : (xs.map encP).flatten[j]? = some c) :
    ∃ x, xs[j / k]? = some x ∧ (encP x)[j % k]? = some c ∧ j / k < xs.length ∧ j % k < k := by
  have hk : ∀ y ∈ xs.map encP, y.length = k := by
    intro y hy
    obtain ⟨x, _, rfl⟩ := List.mem_map.1 hy
    exact hp.lenP x
  obtain ⟨i, q, y, h3, hq, h1, h2⟩ := flat_inv hk h
  simp only [List.getElem?_map, Option.map_eq_some_iff] at h1
  obtain ⟨x, hx, rfl⟩ := h1
  have e1 : j / k = i := by rw [h3, Nat.mul_comm i k, Nat.mul_add_div (by omega), Nat.div_eq_of_lt hq, Nat.add_zero]
  have e2 : j % k = q := by rw [h3, Nat.mul_comm i k, Nat.mul_add_mod, Nat.mod_eq_of_lt hq]
  exact ⟨x, by rw [e1]; exact hx, by rw [e2]; exact h2, by rw [e1]; exact (List.getElem?_eq_some_iff.1 hx).1, by rw [e2]; exact hq⟩

section
variable {P : Program} {ρ : Ren} {α : Type} [Inhabited α]

theorem cmp_lays {encP : α → List PV} {enc : α → List Value} {k : Nat} (hp : Plain encP enc k) {g : Nat} {cf : α → α → Int} (hg : ∀ x y b, V P g [.agg (encP x), .agg (encP y)] mt b (.int .i64 (cf x y)) mt) (blk off size : Nat) (w : World) :
    CmpLays P g #[] enc k cf blk off size w := by
  intro m os dk _ x y
  have hr : ∀ x : α, Rep (sortWorldK enc k w blk off m dk os) (fun _ => False) noIds (.agg (encP x)) (.agg (enc x).toArray) := fun x =>
    .agg _ _ (by rw [hp.len, hp.lenP]) (hp.one x) fun j c v hc hv => hp.rep _ _ _ x j c v hc hv
  have := (hg x y 0).2 (sortWorldK enc k w blk off m dk os) noIds (fun _ => False) [.agg (enc x).toArray, .agg (enc y).toArray] ⟨by simp [mt], by simp [mt]⟩ (by simp [noIds]) (by simp)
    ⟨rfl, fun j p v h1 h2 => by
      match j with
      | 0 => simp at h1 h2; subst h1; subst h2; exact hr x
      | 1 => simp at h1 h2; subst h1; subst h2; exact hr y
      | j + 2 => simp at h1⟩
  refine (show Calls P g #[.agg (enc x).toArray, .agg (enc y).toArray] _ _ from this).mono ?_
  rintro e w' ⟨v, r, m', β', ok', rfl, ⟨rfl, rfl⟩, hrep, _, hk, _⟩
  cases hrep
  exact ⟨rfl, keeps_grow hk fun b => by rintro ⟨id, o, cap, h, _⟩; cases h⟩

/-- **slices.SortFunc over an own row of plain structs**, where cmp parts whatever two that are not one. -/
theorem V.sortFunc (L : SlLaysF0.n6 P ρ) {k : Nat} (hk0 : 0 < k) (aE : ∀ w, (isAgg (ρ.t 24)).run P w = .ok true w) (zE : ∀ w, (Go.sizeOf (ρ.t 24)).run P w = .ok k w) {encP : α → List PV} {enc : α → List Value} (hp : Plain encP enc k) {cf : α → α → Int} (hO : SWO (ltOf cf))
    (hT : ∀ x y, (ltOf cf) x y = false → (ltOf cf) y x = false → x = y) {g : Nat} (hg : ∀ x y b, V P g [.agg (encP x), .agg (encP y)] mt b (.int .i64 (cf x y)) mt) (xs : List α) (hsz : xs.length < 4611686018427387904) {id b T : Nat} (hid : id < b) :
    V P (ρ.f 6) [.osl id xs.length, .fn g []] (upd mt id (some (.row k (xs.map encP) T false))) b (.tup []) (upd mt id (some (.row k ((xs.mergeSort fun x y => !(ltOf cf) y x).map encP) T false))) := by
  refine ⟨L.f6.enters rfl, fun w β ok vs hm hf hok hr => ?_⟩
  have hlen := hr.1
  match vs, hlen with
  | [v1, v2], _ =>
  have r1 := hr.2 0 _ v1 rfl rfl
  have r2 := hr.2 1 _ v2 rfl rfl
  have hmid : (upd mt id (some (.row k (xs.map encP) T false))) id = some (.row k (xs.map encP) T false) := upd_same _ _ _
  have only : ∀ (X : Obj) i o, upd mt id (some X) i = some o → i = id ∧ o = X := fun X i o h => by
    by_cases he : i = id
    · subst he; simp [upd] at h; exact ⟨rfl, h.symm⟩
    · simp [upd, he, mt] at h
  cases r2 with
  | fn _ _ us hul _ =>
  have hus : us = [] := List.eq_nil_of_length_eq_zero (by simpa using hul)
  subst hus
  obtain ⟨l, hl, hor⟩ := hm.objs id _ hmid
  by_cases hx0 : xs = []
  · have h1 : ∃ p cap, v1 = .slice p 0 cap := by
      subst hx0
      cases r1 with
      | osl0 _ h => exact ⟨_, _, rfl⟩
      | osl _ _ bl cap h hn => exact ⟨_, _, rfl⟩
    obtain ⟨p, cap, rfl⟩ := h1
    refine (show Calls P (ρ.f 6) #[.slice p 0 cap, .func (.func g) #[] #[]] w _ from (AnyF.slices_SortFunc_none L p cap (.func (.func g) #[] #[]) w).mono ?_)
    rintro e w' ⟨rfl, rfl⟩
    have hm' : MSat w' ok β (upd mt id (some (.row k ((xs.mergeSort fun x y => !(ltOf cf) y x).map encP) T false))) := by subst hx0; simpa using hm
    exact ⟨_, _, _, β, ok, rfl, ⟨rfl, rfl⟩, .tup [] [] rfl (by simp), hm', Keeps.refl _ _, fun _ _ => rfl, fun i hi => hf i (by omega), fun _ h => h, hok, fun _ h => .inl h, fun q h => .inl (by subst hx0; simpa using h)⟩
  have hne : 0 < xs.length := List.length_pos_iff.2 hx0
  obtain ⟨bl, cap, rfl, hbl, hn⟩ : ∃ bl cap, v1 = .slice (some ⟨bl, 0, none⟩) xs.length cap ∧ β id = some (.at bl cap) ∧ xs.length ≤ cap := by
    generalize hq : xs.length = q at r1 hne
    cases r1 with
    | osl0 _ h => omega
    | osl _ _ bl cap h hn => exact ⟨bl, cap, rfl, h, hn⟩
  rw [hbl] at hl; injection hl with hl; subst hl
  obtain ⟨⟨cur, g1, g2, g3, g4, g5, g6, g7⟩, g8, g9⟩ := hor
  have hflen : (xs.map encP).flatten.length = xs.length * k := by rw [flat_len g5]; simp
  have hblk : bl < w.heap.size := (Array.getElem?_eq_some_iff.1 g1).1
  have hcurv : ∀ t, t < xs.length * k → ∃ v, cur[t]? = some v ∧ v = (flatK enc k xs.toArray)[t]! := fun t ht => by
    have hg : (xs.map encP).flatten[t]? = some (xs.map encP).flatten[t] := by simp [hflen, ht]
    obtain ⟨x, h1, h2, h3, h4⟩ := flat_eq hp xs hg
    obtain ⟨v, hv, hrep⟩ := g7 t _ hg
    have hu := hp.unq _ _ _ x _ _ _ h2 hrep
    refine ⟨v, hv, ?_⟩
    rw [get_flatK _ _ _ _ (by simpa using ht)]
    have : xs.toArray[t / k]! = x := by rw [getElem!_pos _ _ (by simpa using h3)]; simpa [h3] using h1
    rw [this, getElem!_pos _ _ (by rw [hp.len]; exact h4)]
    exact ((List.getElem?_eq_some_iff.1 hu).2).symm
  have hH : HoldsK enc k w bl 0 xs.toArray := by
    intro j hj
    simp at hj
    obtain ⟨v, hv, hve⟩ := hcurv j hj
    rw [Nat.zero_add]
    exact ⟨by rw [cell_of g1, hv, hve]; rfl, frozen_of g1 j⟩
  have hcall := AnyQ.slices_SortFunc_total L k aE zE enc hp.len hp.oneV cf hO g #[] bl 0 cap xs.toArray w (hg (default : α) default 0).1 (cmp_lays hp hg bl 0 xs.toArray.size w) hH hblk (by simpa using hsz) hT
  rw [show xs.toArray.size = xs.length from by simp] at hcall
  refine (show Calls P (ρ.f 6) #[.slice (some ⟨bl, 0, none⟩) xs.length cap, .func (.func g) #[] #[]] w _ from hcall.mono ?_)
  rintro e w' ⟨rfl, n, os, rfl⟩
  simp only [List.toList_toArray]
  generalize hys : (xs.mergeSort fun x y => !(ltOf cf) y x) = ys
  have hyl : ys.length = xs.length := by rw [← hys]; exact List.length_mergeSort _
  have hheap : ∀ i, i < w.heap.size → (sortWorldK enc k w bl 0 n ys.toArray os).heap[i]? = (w.heap.modify bl (onCells (putCells (fun v : Value => v) 0 (flatK enc k ys.toArray))))[i]? := fun i hi => by
    simp only [sortWorldK, grow, putRowK, putRow, mapBlock, Sort.ahead]
    rw [Array.getElem?_append_left (by simpa using hi)]
    rfl
  have hother : ∀ i, i < w.heap.size → i ≠ bl → (sortWorldK enc k w bl 0 n ys.toArray os).heap[i]? = w.heap[i]? := fun i hi hne => by
    rw [hheap i hi, Array.getElem?_modify, if_neg (Ne.symm hne)]
  have hsize : w.heap.size ≤ (sortWorldK enc k w bl 0 n ys.toArray os).heap.size := by simp [sortWorldK, grow, putRowK, putRow, mapBlock, Sort.ahead]
  have hnew : (sortWorldK enc k w bl 0 n ys.toArray os).heap[bl]? = some (.cells (putCells (fun v : Value => v) 0 (flatK enc k ys.toArray) cur) T (0, 0)) := by
    rw [hheap bl hblk, Array.getElem?_modify, if_pos rfl, g1]; rfl
  refine ⟨_, _, _, β, ok, rfl, ⟨rfl, rfl⟩, .tup [] [] rfl (by simp), ⟨fun i o ho => ?_, fun i j o o' bb c1 c2 h1 h2 _ _ _ _ => ?_⟩, ⟨rfl, rfl, rfl, hsize, fun i hi hno => hother i hi fun he => hno ?_, ?_⟩, fun _ _ => rfl, fun i hi => hf i (by omega), fun _ h => h, fun i hi => Nat.lt_of_lt_of_le (hok i hi) hsize, fun _ h => .inl h, fun i hi => .inl ?_⟩
  · obtain ⟨rfl, rfl⟩ := only _ i o ho
    refine ⟨_, hbl, ⟨_, hnew, by simp [putCells, g2], by simpa [hyl] using hn, g4, ?_, ?_, fun j c hj => ?_⟩, by simp, g9⟩
    · intro y hy
      obtain ⟨x, _, rfl⟩ := List.mem_map.1 hy
      exact hp.lenP x
    · intro c hc
      obtain ⟨y, hy, hcy⟩ := List.mem_flatten.1 hc
      obtain ⟨x, _, rfl⟩ := List.mem_map.1 hy
      exact hp.one x c hcy
    · obtain ⟨x, h1, h2, h3, h4⟩ := flat_eq hp ys hj
      have hjl : j < ys.length * k := by
        have : j < (ys.map encP).flatten.length := (List.getElem?_eq_some_iff.1 hj).1
        rw [flat_len (k := k) (by intro y hy; obtain ⟨x, _, rfl⟩ := List.mem_map.1 hy; exact hp.lenP x)] at this
        simpa using this
      have hjc : j < cur.size := by rw [g2]; exact Nat.lt_of_lt_of_le hjl (Nat.mul_le_mul_right k (by omega))
      have hv : (enc x)[j % k]? = some ((enc x)[j % k]'(by rw [hp.len]; exact h4)) := by simp
      refine ⟨_, ?_, hp.rep _ _ _ x _ _ _ h2 hv⟩
      simp only [putCells, Array.getElem?_mapIdx, Array.getElem?_eq_getElem hjc, Option.map_some, Nat.zero_le, true_and, Nat.zero_add, size_flatK, List.size_toArray, hjl, if_true, Nat.sub_zero]
      rw [get_flatK _ _ _ _ (by simpa using hjl)]
      have : ys.toArray[j / k]! = x := by rw [getElem!_pos _ _ (by simpa using h3)]; simpa [h3] using h1
      rw [this, getElem!_pos _ _ (by rw [hp.len]; exact h4)]
  · exact (only _ i o h1).1.trans (only _ j o' h2).1.symm
  · subst he; exact ⟨id, _, cap, hmid, rfl, hbl⟩
  · simp [sortWorldK, grow, putRowK, putRow, mapBlock, Sort.ahead]
  · obtain ⟨i', o, cap', h1, h2, h3⟩ := hi
    obtain ⟨rfl, rfl⟩ := only _ i' o h1
    exact ⟨i', _, cap', hmid, rfl, h3⟩

end
end Go.Vx
/- The engine, part 23c: slices.Compact over an own row of numbers. -/
set_option linter.unusedVariables false
set_option linter.unusedSimpArgs false
namespace Go.Vx
open Go Go.RowKit Go.Shelf Go.Lib Go.Sort Go.Proofs

section
variable {P : Program} {α : Type} [Inhabited α]

/-- **An own row of plain elements that a call changes and cuts** (ys instead of xs; what comes back is as long as n says). -/
theorem V.rowCut {encP : α → PV} {enc : α → Value} (hp : Plain1 encP enc) {f : Nat} (he : EntersX P (.f f)) (xs ys : List α) (n : Nat) (hyl : ys.length = xs.length) (hn : n ≤ xs.length)
    (h0 : xs = [] → ∀ p cap w, Calls P f #[.slice p 0 cap] w fun e w' => e = .returned (.slice p 0 cap) ∧ w' = w)
    (hcall : xs ≠ [] → ∀ bl cap w, Holds enc w bl 0 xs.toArray → bl < w.heap.size → xs.length ≤ cap → Calls P f #[.slice (some ⟨bl, 0, none⟩) xs.length cap] w fun e w' => e = .returned (.slice (some ⟨bl, 0, none⟩) n cap) ∧ ∃ q, w' = putRow enc (Sort.ahead w q) bl 0 ys.toArray)
    {id b T : Nat} (hid : id < b) :
    V P f [.osl id xs.length] (upd mt id (some (.row 1 (row1 encP xs) T false))) b (.osl id n) (upd mt id (some (.row 1 (row1 encP ys) T false))) := by
  refine ⟨he, fun w β ok vs hm hf hok hr => ?_⟩
  have hlen := hr.1
  match vs, hlen with
  | [v1], _ =>
  have r1 := hr.2 0 _ v1 rfl rfl
  have hmid : (upd mt id (some (.row 1 (row1 encP xs) T false))) id = some (.row 1 (row1 encP xs) T false) := upd_same _ _ _
  have only : ∀ (X : Obj) i o, upd mt id (some X) i = some o → i = id ∧ o = X := fun X i o h => by
    by_cases he : i = id
    · subst he; simp [upd] at h; exact ⟨rfl, h.symm⟩
    · simp [upd, he, mt] at h
  obtain ⟨l, hl, hor⟩ := hm.objs id _ hmid
  by_cases hx0 : xs = []
  · have hy0 : ys = [] := List.eq_nil_of_length_eq_zero (by rw [hyl, hx0]; rfl)
    have hn0 : n = 0 := by rw [hx0] at hn; simpa using hn
    have h1 : ∃ p cap, v1 = .slice p 0 cap := by
      subst hx0
      cases r1 with
      | osl0 _ h => exact ⟨_, _, rfl⟩
      | osl _ _ bl cap h hn => exact ⟨_, _, rfl⟩
    obtain ⟨p, cap, rfl⟩ := h1
    refine (show Calls P f #[.slice p 0 cap] w _ from (h0 hx0 p cap w).mono ?_)
    rintro e w' ⟨rfl, rfl⟩
    exact ⟨_, _, _, β, ok, rfl, ⟨rfl, rfl⟩, by rw [hn0]; rw [hx0] at r1; exact r1, by rw [hy0, ← hx0]; exact hm, Keeps.refl _ _, fun _ _ => rfl, fun i hi => hf i (by omega), fun _ h => h, hok, fun _ h => .inl h, fun k h => .inl (by rw [hy0, ← hx0] at h; exact h)⟩
  have hne : 0 < xs.length := List.length_pos_iff.2 hx0
  obtain ⟨bl, cap, rfl, hbl, hnc⟩ : ∃ bl cap, v1 = .slice (some ⟨bl, 0, none⟩) xs.length cap ∧ β id = some (.at bl cap) ∧ xs.length ≤ cap := by
    generalize hq : xs.length = q at r1 hne
    cases r1 with
    | osl0 _ h => omega
    | osl _ _ bl cap h hn => exact ⟨bl, cap, rfl, h, hn⟩
  rw [hbl] at hl; injection hl with hl; subst hl
  obtain ⟨⟨cur, g1, g2, g3, g4, g5, g6, g7⟩, g8, g9⟩ := hor
  rw [row1_flat] at g6 g7
  have hblk : bl < w.heap.size := (Array.getElem?_eq_some_iff.1 g1).1
  have hH : Holds enc w bl 0 xs.toArray := by
    intro j hj
    simp at hj
    obtain ⟨v, hv, hrep⟩ := g7 j (encP xs[j]) (by simp [hj])
    have hu := hp.unq _ _ _ _ _ hrep
    have e1 : (xs.toArray)[j]! = xs[j] := by rw [getElem!_pos _ _ (by simpa using hj)]; simp
    rw [Nat.zero_add, e1, ← hu]
    exact ⟨by rw [cell_of g1, hv], frozen_of g1 j⟩
  refine (show Calls P f #[.slice (some ⟨bl, 0, none⟩) xs.length cap] w _ from (hcall hx0 bl cap w hH hblk hnc).mono ?_)
  rintro e w' ⟨rfl, q, rfl⟩
  have hheap : ∀ i, i < w.heap.size → (putRow enc (Sort.ahead w q) bl 0 ys.toArray).heap[i]? = (w.heap.modify bl (onCells (putCells enc 0 ys.toArray)))[i]? := fun i hi => by
    simp only [putRow, mapBlock, Sort.ahead]
  have hother : ∀ i, i < w.heap.size → i ≠ bl → (putRow enc (Sort.ahead w q) bl 0 ys.toArray).heap[i]? = w.heap[i]? := fun i hi hne => by
    rw [hheap i hi, Array.getElem?_modify, if_neg (Ne.symm hne)]
  have hsize : w.heap.size ≤ (putRow enc (Sort.ahead w q) bl 0 ys.toArray).heap.size := by simp [putRow, mapBlock, Sort.ahead]
  have hnew : (putRow enc (Sort.ahead w q) bl 0 ys.toArray).heap[bl]? = some (.cells (putCells enc 0 ys.toArray cur) T (0, 0)) := by
    rw [hheap bl hblk, Array.getElem?_modify, if_pos rfl, g1]; rfl
  refine ⟨_, _, _, β, ok, rfl, ⟨rfl, rfl⟩, .osl id n bl cap hbl (by omega), ⟨fun i o ho => ?_, fun i j o o' bb c1 c2 h1 h2 _ _ _ _ => ?_⟩, ⟨rfl, rfl, rfl, hsize, fun i hi hno => hother i hi fun he => hno ?_, ?_⟩, fun _ _ => rfl, fun i hi => hf i (by omega), fun _ h => h, fun i hi => Nat.lt_of_lt_of_le (hok i hi) hsize, fun _ h => .inl h, fun i hi => .inl ?_⟩
  · obtain ⟨rfl, rfl⟩ := only _ i o ho
    refine ⟨_, hbl, ⟨_, hnew, by simp [putCells, g2], by simpa [hyl] using hnc, g4, ?_, ?_, fun j c hj => ?_⟩, by simp, g9⟩
    · intro y hy
      obtain ⟨x, _, rfl⟩ := List.mem_map.1 hy
      rfl
    · intro c hc
      rw [row1_flat] at hc
      obtain ⟨x, _, rfl⟩ := List.mem_map.1 hc
      exact hp.one x
    · rw [row1_flat] at hj
      simp only [List.getElem?_map, Option.map_eq_some_iff] at hj
      obtain ⟨x, hx, rfl⟩ := hj
      have hjl : j < ys.length := (List.getElem?_eq_some_iff.1 hx).1
      have hjc : j < cur.size := by rw [g2, Nat.mul_one]; omega
      refine ⟨enc x, ?_, hp.rep _ _ _ x⟩
      simp only [putCells, Array.getElem?_mapIdx, Array.getElem?_eq_getElem hjc, Option.map_some, Nat.zero_le, true_and, Nat.zero_add, List.size_toArray, hjl, if_true, Nat.sub_zero]
      have : ys.toArray[j]! = x := by rw [getElem!_pos _ _ (by simpa using hjl)]; simpa [hjl] using hx
      rw [this]
  · exact (only _ i o h1).1.trans (only _ j o' h2).1.symm
  · subst he; exact ⟨id, _, cap, hmid, rfl, hbl⟩
  · simp [putRow, mapBlock, Sort.ahead]
  · obtain ⟨i', o, cap', h1, h2, h3⟩ := hi
    obtain ⟨rfl, rfl⟩ := only _ i' o h1
    exact ⟨i', _, cap', hmid, rfl, h3⟩

theorem compact_len (zs : List Int) : (Lib.compact zs).length ≤ zs.length := by
  unfold Lib.compact Lib.compactUpTo
  rw [List.length_map]
  refine Nat.le_trans (List.length_filter_le _ _) ?_
  simp
/-- slices.Compact over an own row of numbers. -/
theorem V.compactInt {ρ : Ren} (L : Lays2.n20 P ρ) (he : EntersX P (.f (ρ.f 20))) (xs : List Int) (hsz : xs.length ≤ 9223372036854775807) {id b T : Nat} (hid : id < b) :
    V P (ρ.f 20) [.osl id xs.length] (upd mt id (some (.row 1 (row1 (fun z : Int => PV.int .i64 z) xs) T false))) b (.osl id (Lib.compact xs).length) (upd mt id (some (.row 1 (row1 (fun z : Int => PV.int .i64 z) (Lib.compact xs ++ List.replicate (xs.length - (Lib.compact xs).length) 0)) T false))) :=
  V.rowCut plain_int he xs _ _ (by have := compact_len xs; simp; omega) (compact_len xs) (fun _ p cap w => Any.slices_Compact_int_empty L p cap w) (fun _ bl cap w hH hb hc => Any.slices_Compact_int L bl 0 cap xs w hH hsz hc) hid
end
end Go.Vx
