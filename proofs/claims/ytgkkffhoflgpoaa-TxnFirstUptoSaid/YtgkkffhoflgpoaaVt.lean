/- The engine, part 20: code that is turned does what is said of it; contracts out of code. -/
import Derived.Test.YtgkkffhoflgpoaaVs
set_option linter.unusedVariables false
set_option linter.unusedSimpArgs false
namespace Go.Vx
open Go Go.RowKit

section
variable {P : Program} {F : Fr}

theorem anc_edges {o : Oper} {xs : List XOp} {j : Nat} (h : InA j (ancEdges o xs)) : ∃ ed, ed ∈ o.after.toList ∧ Region.binds .any ed = true ∧ (ed.on = j ∨ ∃ Y, xs[ed.on]? = some Y ∧ InA j Y.anc) := by
  unfold ancEdges at h
  have key : ∀ (l : List Edge) (s : Nat), InA j (l.foldl (fun s ed => if Region.binds .any ed then s ||| (2 ^ ed.on ||| ancOf xs ed.on) else s) s) →
      InA j s ∨ ∃ ed ∈ l, Region.binds .any ed = true ∧ (ed.on = j ∨ ∃ Y, xs[ed.on]? = some Y ∧ InA j Y.anc) := by
    intro l
    induction l with
    | nil => intro s h; exact .inl h
    | cons ed l ih =>
      intro s h
      rcases ih _ h with h | ⟨ed', hm, h⟩
      · dsimp only at h
        split at h
        · rename_i hb
          simp only [InA, Nat.testBit_or, Bool.or_eq_true] at h
          rcases h with h | h | h
          · exact .inl h
          · refine .inr ⟨ed, List.mem_cons_self, hb, .inl ?_⟩
            rw [Nat.testBit_two_pow] at h
            simpa using h
          · refine .inr ⟨ed, List.mem_cons_self, hb, .inr ?_⟩
            unfold ancOf at h
            split at h
            · rename_i Y hY; exact ⟨Y, hY, h⟩
            · simp at h
        · exact .inl h
      · exact .inr ⟨ed', List.mem_cons_of_mem _ hm, h⟩
  rcases key _ _ h with h | ⟨ed, hm, h⟩
  · simp [InA] at h
  · exact ⟨ed, hm, h⟩

theorem mks_mem {xs : List XOp} {q : Nat} {Z : XOp} (hZ : xs[q]? = some Z) (hm : Z.xi.mk = true) : InA q (mks xs) := by
  unfold mks
  have keep : ∀ (l : List (XOp × Nat)) (s : Nat), InA q s → InA q (l.foldl (fun s (x, i) => if x.xi.mk then s ||| 2 ^ i else s) s) := by
    intro l
    induction l with
    | nil => intro s h; exact h
    | cons x l ih =>
      intro s h
      refine ih _ ?_
      dsimp only
      split
      · simp only [InA, Nat.testBit_or, Bool.or_eq_true]; exact .inl h
      · exact h
  have key : ∀ (l : List (XOp × Nat)) (s : Nat), (Z, q) ∈ l → InA q (l.foldl (fun s (x, i) => if x.xi.mk then s ||| 2 ^ i else s) s) := by
    intro l
    induction l with
    | nil => intro s h; cases h
    | cons x l ih =>
      intro s h
      rcases List.mem_cons.1 h with h | h
      · subst h
        refine keep l _ ?_
        dsimp only
        rw [if_pos hm]
        simp only [InA, Nat.testBit_or, Bool.or_eq_true, Nat.testBit_two_pow_self, or_true]
      · exact ih _ h
  exact key _ _ (by rw [List.mem_zipIdx_iff_getElem?]; simpa using hZ)

theorem okD_ord {ops : Array Oper} {xs : List XOp} (h : okD ops xs = true) : OrdOk ops xs := by
  simp only [okD, Bool.and_eq_true, beq_iff_eq] at h
  obtain ⟨hlen, hall⟩ := h
  have hat : ∀ (i : Nat) X o, xs[i]? = some X → ops[i]? = some o → okAt ops xs i X o = true := by
    intro i X o hX ho
    have hz : (xs.zip ops.toList)[i]? = some (X, o) := by
      rw [List.getElem?_zip_eq_some]
      exact ⟨hX, by simpa using ho⟩
    have hm : ((X, o), i) ∈ (xs.zip ops.toList).zipIdx := by
      rw [List.mem_zipIdx_iff_getElem?]
      simpa using hz
    exact List.all_eq_true.1 hall _ hm
  have hops : ∀ (i : Nat) X, xs[i]? = some X → ∃ o, ops[i]? = some o := fun i X hX => by
    have : i < ops.size := by rw [← hlen]; exact (List.getElem?_eq_some_iff.1 hX).1
    exact ⟨ops[i], by simp [this]⟩
  have hxs : ∀ (i : Nat) o, ops[i]? = some o → ∃ X, xs[i]? = some X := fun i o ho => by
    have h1 : i < ops.size := by
      rcases Nat.lt_or_ge i ops.size with h | h
      · exact h
      · simp [Array.getElem?_eq_none h] at ho
    have : i < xs.length := by rw [hlen]; exact h1
    exact ⟨xs[i], by simp⟩
  have hpair : ∀ (i j : Nat) X Y, xs[i]? = some X → xs[j]? = some Y → i ≠ j → okPair i j X Y = true := fun i j X Y hX hY hne => by
    obtain ⟨o, ho⟩ := hops i X hX
    have h := hat i X o hX ho
    simp only [okAt, Bool.and_eq_true] at h
    have hm : (Y, j) ∈ xs.zipIdx := by rw [List.mem_zipIdx_iff_getElem?]; simpa using hY
    have := List.all_eq_true.1 h.2 _ hm
    simpa [hne] using this
  refine ⟨hlen, fun i o ho ed hed hb => ?_, fun i X hX j hj => ?_, fun i X hX hw => ?_, fun i j X Y hX hY hne hiL hty q Z hZ hmk hqX hqY => ?_, fun i j X Y t hX hY hne hd => ?_, fun i j X Y t hX hY hne hd hl => ?_, fun i j X Y hX hY hne hb ht hty => ?_⟩
  · obtain ⟨X, hX⟩ := hxs i o ho
    have h := hat i X o hX ho
    simp only [okAt, Bool.and_eq_true] at h
    have := List.all_eq_true.1 h.1.1.1.1.1 ed hed
    simpa [hb] using this
  · obtain ⟨o, ho⟩ := hops i X hX
    have h := hat i X o hX ho
    simp only [okAt, Bool.and_eq_true, beq_iff_eq] at h
    rw [h.1.1.1.1.2] at hj
    obtain ⟨ed, h1, h2, h3⟩ := anc_edges hj
    exact ⟨o, ed, ho, h1, h2, h3⟩
  · obtain ⟨o, ho⟩ := hops i X hX
    have h := hat i X o hX ho
    simp only [okAt, Bool.and_eq_true] at h
    have := h.1.1.1.2
    simpa [hw] using this
  · obtain ⟨o, ho⟩ := hops i X hX
    have h := hat i X o hX ho
    simp only [okAt, Bool.and_eq_true] at h
    have hm : (Y, j) ∈ xs.zipIdx := by rw [List.mem_zipIdx_iff_getElem?]; simpa using hY
    have h2 := List.all_eq_true.1 h.1.1.2 _ hm
    have hne' : (i == j) = false := by simpa using hne
    simp only [hne', Bool.false_or, okLoc, hiL, hty, Bool.not_true, Bool.or_eq_true, beq_iff_eq] at h2
    rcases h2 with (h2 | h2) | h2
    · exfalso
      have hb : (X.anc &&& Y.anc &&& mks xs).testBit q = true := by
        simp only [Nat.testBit_and, Bool.and_eq_true]
        exact ⟨⟨hqX, hqY⟩, mks_mem hZ hmk⟩
      rw [h2] at hb
      simp at hb
    · exact .inl h2
    · exact .inr h2
  · have h := hpair i j X Y hX hY hne
    simp only [okPair, hd, Bool.and_eq_true, decide_eq_true_eq] at h
    exact h.1.1
  · have h := hpair i j X Y hX hY hne
    simp only [okPair, hd, Bool.and_eq_true] at h
    have := h.1.2
    simp only [Bool.or_eq_true, Bool.not_eq_true', Bool.and_eq_true, decide_eq_true_eq] at this
    rcases this with (h | h) | h
    · simp [hl] at h
    · exact .inl h
    · exact .inr h
  · have h := hpair i j X Y hX hY hne
    simp only [okPair, Bool.and_eq_true] at h
    have := h.2
    simp only [Bool.or_eq_true, Bool.not_eq_true', hb, ht, hty, reduceCtorEq, false_or] at this
    exact this

theorem orders_get {ops : Array Oper} {l : List XOp} {i : Nat} {X : XOp} (h : (orders ops l)[i]? = some X) : ∃ Y, l[i]? = some Y ∧ (X.xi = Y.xi ∨ X.xi = Y.xi.own) ∧ X.dst = Y.dst ∧ X.guard = Y.guard := by
  simp only [orders, List.getElem?_map, List.getElem?_zipIdx, Option.map_map, Option.map_eq_some_iff] at h
  obtain ⟨Y, hY, rfl⟩ := h
  have key : ∀ (c : Bool) (x y : XI), (if c = true then x else y) = x ∨ (if c = true then x else y) = y := fun c x y => by cases c <;> simp
  exact ⟨Y, hY, key _ _ _, rfl, rfl⟩

theorem parts_of {ops : Array Oper} {l : List XOp} (h : ops.toList.mapM (compOp P F.n ops) = some l) : Parts P F.n ops (orders ops l) := by
  intro i o X ho hX
  obtain ⟨Y, hY, h1, h2, h3⟩ := orders_get hX
  have := (mapM_some h).2 i o Y (by simpa using ho) hY
  simp only [compOp, Option.bind_eq_some_iff] at this
  obtain ⟨g, hg, hc⟩ := this
  split at hc
  case isFalse => cases hc
  rename_i hd
  injection hc with hc; subst hc
  rw [h2, h3]
  refine ⟨?_, hg, rfl, hd⟩
  rcases h1 with h1 | h1
  · rw [h1]; exact turned
  · rw [h1]; exact turned_own turned

/-- What was there lies where it lay. -/
def Held (F : Fr) (β : Ids) (nx : Nat) : Prop := F.b0 ≤ nx ∧ ∀ id, id < F.b0 → β id = F.β0 id

/-- The state at an exit. -/
def AtX (F : Fr) (Q : Post) (x : Exit) (a : Act) (w : World) : Prop :=
  ∃ e m nx β ok, Sat0 F β ok e m a w ∧ (∀ id, nx ≤ id → β id = none) ∧ Held F β nx ∧
    match x with
    | .normal => Q .normal e m nx
    | .exit i => Q (.exit i) e m nx
    | .ret => Q .ret e m nx
    | _ => False

/-- **What turned code does from a state on.** -/
def VW (P : Program) (x : XCode) (Q : Post) (e : Env) (m : Mem) (nx : Nat) : Prop :=
  ∀ (ro : Option Nat) (F : Fr) (c : Code) (β : Ids) (ok : Nat → Prop) (a : Act) (w : World), P.follows .mixedOrders = true → (ro = none ∨ x.flat = true) → compC P F.n c = some x → Sat0 F β ok e m a w → (∀ id, nx ≤ id → β id = none) → Held F β nx → c.wpIn (wf ro) 0 P (AtX F Q) a w

variable {Q : Post} {e : Env} {m : Mem} {nx : Nat}

theorem compC_inv {n : Nat} {c : Code} {x : XCode} (h : compC P n c = some x) :
    match x with
    | .skip => c = .skip
    | .reg ops => ∃ id os, c = .region id os false ∧ os.toList.mapM (compOp P n os) = some ops
    | .regD ops => ∃ id os l, c = .region id os true ∧ os.toList.mapM (compOp P n os) = some l ∧ okD os (orders os l) = true ∧ ops = orders os l
    | .seq a b => ∃ ca cb, c = .seq ca cb ∧ compC P n ca = some a ∧ compC P n cb = some b
    | .cond y a b => ∃ oy ca cb, c = .cond oy ca cb ∧ cA oy = some y ∧ compC P n ca = some a ∧ compC P n cb = some b
    | .block i a => ∃ ca, c = .block i ca ∧ compC P n ca = some a
    | .loop a => ∃ ca, c = .loop ca ∧ compC P n ca = some a
    | .rangeF g ps a b => ∃ og pa ca cb, c = .rangeFunc og pa ca cb ∧ cA og = some g ∧ pa.toList = ps ∧ (∀ t ∈ ps, t < n) ∧ compC P n ca = some a ∧ compC P n cb = some b
    | .exit i => c = .exit i
    | .ret => c = .ret
    | .stop => True := by
  cases c with
  | skip => simp only [compC, Option.some.injEq] at h; subst h; rfl
  | region id os d =>
    simp only [compC, Option.bind_eq_some_iff] at h
    obtain ⟨l, hl, h⟩ := h
    cases d with
    | false => simp at h; subst h; exact ⟨id, os, rfl, hl⟩
    | true =>
      simp only [if_true] at h
      split at h
      case isFalse => injection h with h; subst h; trivial
      rename_i hok
      injection h with h; subst h
      exact ⟨id, os, l, rfl, hl, hok, rfl⟩
  | seq a b =>
    simp only [compC, Option.bind_eq_some_iff, Option.map_eq_some_iff] at h
    obtain ⟨x, hx, y, hy, rfl⟩ := h; exact ⟨a, b, rfl, hx, hy⟩
  | cond y a b =>
    simp only [compC, Option.bind_eq_some_iff, Option.map_eq_some_iff] at h
    obtain ⟨c, hc, x, hx, y', hy, rfl⟩ := h; exact ⟨y, a, b, rfl, hc, hx, hy⟩
  | block i a =>
    simp only [compC, Option.map_eq_some_iff] at h
    obtain ⟨x, hx, rfl⟩ := h; exact ⟨a, rfl, hx⟩
  | loop a =>
    simp only [compC, Option.map_eq_some_iff] at h
    obtain ⟨x, hx, rfl⟩ := h; exact ⟨a, rfl, hx⟩
  | exit i => simp only [compC, Option.some.injEq] at h; subst h; rfl
  | ret => simp only [compC, Option.some.injEq] at h; subst h; rfl
  | rangeFunc og pa ca cb =>
    simp only [compC] at h
    split at h
    case isFalse => injection h with h; subst h; trivial
    rename_i hall
    simp only [Option.bind_eq_some_iff, Option.map_eq_some_iff] at h
    obtain ⟨g, hg, x, hx, y, hy, rfl⟩ := h
    exact ⟨og, pa, ca, cb, rfl, hg, rfl, fun t ht => by simpa using List.all_eq_true.1 hall t ht, hx, hy⟩
  | _ => simp only [compC, Option.some.injEq] at h; subst h; trivial

theorem VW.skip (h : Q .normal e m nx) : VW P .skip Q e m nx := by
  intro ro F c β ok a w hm hro hc hs hf hd
  have := compC_inv hc; dsimp only at this; subst this
  exact wpIn_skip ⟨e, m, nx, β, ok, hs, hf, hd, h⟩
theorem VW.exit {i : Nat} (h : Q (.exit i) e m nx) : VW P (.exit i) Q e m nx := by
  intro ro F c β ok a w hm hro hc hs hf hd
  have := compC_inv hc; dsimp only at this; subst this
  exact wpIn_exit ⟨e, m, nx, β, ok, hs, hf, hd, h⟩
theorem VW.ret (h : Q .ret e m nx) : VW P .ret Q e m nx := by
  intro ro F c β ok a w hm hro hc hs hf hd
  have := compC_inv hc; dsimp only at this; subst this
  exact wpIn_ret ⟨e, m, nx, β, ok, hs, hf, hd, h⟩

theorem VW.reg {ops : List XOp} (h : vops P nx 0 ops e m fun e' m' => Q .normal e' m' (nx + 8 * ops.length)) : VW P (.reg ops) Q e m nx := by
  intro ro F c β ok a w hm hro hc hs hf hd
  obtain ⟨id, os, rfl, hl⟩ := compC_inv hc
  refine wpIn_region ?_
  rw [List.range_eq_range']
  exact reg_sound hl (K := fun e' m' => Q .normal e' m' (nx + 8 * ops.length)) hd.1 (fun e' m' β' ok' a' w' hs' hf' hd' hk => ⟨e', m', _, β', ok', hs', hf', ⟨Nat.le_trans hd.1 (Nat.le_add_right _ _), hd'⟩, hk⟩) os.size 0 e m β ok a w (by omega) hs (fun id hid => hf id (by omega)) hd.2 h

theorem VW.regD {ops : List XOp} (h : vopsD P nx 0 ops e m fun e' m' => Q .normal e' m' (nx + 8 * ops.length)) : VW P (.regD ops) Q e m nx := by
  intro ro F c β ok a w hm hro hc hs hf hd
  obtain ⟨id, os, l, rfl, hl, hok, rfl⟩ := compC_inv hc
  exact regD_sound hm (okD_ord hok) (parts_of hl) (K := fun e' m' => Q .normal e' m' (nx + 8 * (orders os l).length)) hd.1 (fun e' m' β' ok' a' w' hs' hf' hd' hk => ⟨e', m', _, β', ok', hs', hf', ⟨Nat.le_trans hd.1 (Nat.le_add_right _ _), hd'⟩, hk⟩) hs hf hd.2 h

theorem VW.seq {x y : XCode} (h : VW P x (Post.then (VW P y Q) Q) e m nx) : VW P (.seq x y) Q e m nx := by
  intro ro F c β ok a w hm hro hc hs hf hd
  obtain ⟨ca, cb, rfl, h1, h2⟩ := compC_inv hc
  refine wpIn_seq (wpIn_mono (h ro F ca β ok a w hm (hro.imp (fun h => h) fun h => ((Bool.and_eq_true _ _).mp h).1) h1 hs hf hd) ?_)
  rintro ex a' w' ⟨e', m', nx', β', ok', hs', hf', hd', hq⟩
  cases ex with
  | normal => exact hq ro F cb β' ok' a' w' hm (hro.imp (fun h => h) fun h => ((Bool.and_eq_true _ _).mp h).2) h2 hs' hf' hd'
  | exit i => exact ⟨e', m', nx', β', ok', hs', hf', hd', hq⟩
  | ret => exact ⟨e', m', nx', β', ok', hs', hf', hd', hq⟩
  | goto l => exact hq.elim
  | panic ch => exact hq.elim
  | outgrown => exact hq.elim

theorem VW.cond {y : XA} {t : Bool} {x1 x2 : XCode} (hy : y.ev e = some (.bool t)) (h1 : t = true → VW P x1 Q e m nx) (h2 : t = false → VW P x2 Q e m nx) : VW P (.cond y x1 x2) Q e m nx := by
  intro ro F c β ok a w hm hro hc hs hf hd
  obtain ⟨oy, ca, cb, rfl, g0, g1, g2⟩ := compC_inv hc
  have hr := ev_rep hs g0 hy
  generalize hv : a.eval oy = v at hr
  cases hr
  cases t
  · exact wpIn_cond hv (h2 rfl ro F cb β ok a w hm (hro.imp (fun h => h) fun h => ((Bool.and_eq_true _ _).mp h).2) g2 hs hf hd)
  · exact wpIn_cond hv (h1 rfl ro F ca β ok a w hm (hro.imp (fun h => h) fun h => ((Bool.and_eq_true _ _).mp h).1) g1 hs hf hd)

theorem VW.condT {y : XA} {x1 x2 : XCode} (hy : y.ev e = some (.bool true)) (h1 : VW P x1 Q e m nx) : VW P (.cond y x1 x2) Q e m nx := VW.cond hy (fun _ => h1) (fun h => by cases h)
theorem VW.condF {y : XA} {x1 x2 : XCode} (hy : y.ev e = some (.bool false)) (h2 : VW P x2 Q e m nx) : VW P (.cond y x1 x2) Q e m nx := VW.cond hy (fun h => by cases h) (fun _ => h2)

theorem VW.block {i : Nat} {x : XCode} (h : VW P x (Q.block i) e m nx) : VW P (.block i x) Q e m nx := by
  intro ro F c β ok a w hm hro hc hs hf hd
  obtain ⟨ca, rfl, h1⟩ := compC_inv hc
  refine wpIn_block (wpIn_mono (h ro F ca β ok a w hm hro h1 hs hf hd) ?_)
  rintro ex a' w' ⟨e', m', nx', β', ok', hs', hf', hd', hq⟩
  cases ex with
  | normal => exact ⟨e', m', nx', β', ok', hs', hf', hd', hq⟩
  | exit j =>
    simp only [Post.block] at hq
    simp only [Exit.inBlock]
    split at hq
    · rename_i hj; rw [if_pos hj]; exact ⟨e', m', nx', β', ok', hs', hf', hd', hq⟩
    · rename_i hj; rw [if_neg hj]; exact ⟨e', m', nx', β', ok', hs', hf', hd', hq⟩
  | ret => exact ⟨e', m', nx', β', ok', hs', hf', hd', hq⟩
  | goto l => exact hq.elim
  | panic ch => exact hq.elim
  | outgrown => exact hq.elim

/-- A loop: what holds at every round's head, and a number that every round lowers. -/
theorem VW.loop {x : XCode} (I : Nat → Env → Mem → Nat → Prop) (k : Nat) (h0 : I k e m nx)
    (round : ∀ k e m nx, I k e m nx → VW P x (Post.then (fun e' m' nx' => ∃ k', k' < k ∧ I k' e' m' nx') Q) e m nx) : VW P (.loop x) Q e m nx := by
  intro ro F c β ok a w hm hro hc hs hf hd
  obtain ⟨ca, rfl, h1⟩ := compC_inv hc
  intro b k cs hb1 hb2 hb3
  have key : ∀ (n : Nat) (e : Env) (m : Mem) (nx : Nat) (β : Ids) (ok : Nat → Prop) (a : Act) (w : World), I n e m nx → Sat0 F β ok e m a w → (∀ id, nx ≤ id → β id = none) → Held F β nx →
      ∃ ex a' w', AtX F Q ex a' w' ∧ ArrivesIn (Machine.fenced P (wf ro)) P (lone (b.atR a (.code ca :: .inLoop ca :: k)) cs w) b k cs ex a' w' := by
    intro n
    induction n using Nat.strongRecOn with
    | _ n ihn =>
      intro e m nx β ok a w hI hs hf hd
      obtain ⟨ex, a1, w1, hq, harr⟩ := round n e m nx hI ro F ca β ok a w hm hro h1 hs hf hd b (.inLoop ca :: k) cs hb1 hb2 hb3
      obtain ⟨e', m', nx', β', ok', hs', hf', hd', hq⟩ := hq
      cases ex with
      | normal =>
        obtain ⟨k', hlt, hI'⟩ := hq
        obtain ⟨ex2, a2, w2, hq2, harr2⟩ := ihn k' hlt e' m' nx' β' ok' a1 w1 hI' hs' hf' hd'
        exact ⟨ex2, a2, w2, hq2, .of_steps (StepsIn.trans harr (.one (fenced_calm hb2 hb3 rfl) stepR_inLoop)) harr2⟩
      | exit i => exact ⟨.exit i, a1, w1, ⟨e', m', nx', β', ok', hs', hf', hd', hq⟩, .pass (x := .inLoop ca) rfl (fun _ _ => .inl (by simp)) harr⟩
      | ret => exact ⟨.ret, a1, w1, ⟨e', m', nx', β', ok', hs', hf', hd', hq⟩, .pass (x := .inLoop ca) rfl (fun _ _ => .inl (by simp)) harr⟩
      | goto l => exact hq.elim
      | panic ch => exact hq.elim
      | outgrown => exact hq.elim
  obtain ⟨ex, a', w', hq, harr⟩ := key _ e m nx β ok a w h0 hs hf hd
  exact ⟨ex, a', w', hq, .of_steps (.one (fenced_calm hb2 hb3 rfl) stepR_loop) harr⟩

theorem VW.mono {x : XCode} {Q' : Post} (h : VW P x Q e m nx) (hq : ∀ ex e m nx, Q ex e m nx → Q' ex e m nx) : VW P x Q' e m nx := by
  intro ro F c β ok a w hm hro hc hs hf hd
  refine wpIn_mono (h ro F c β ok a w hm hro hc hs hf hd) ?_
  rintro ex a' w' ⟨e', m', nx', β', ok', hs', hf', hd', hh⟩
  refine ⟨e', m', nx', β', ok', hs', hf', hd', ?_⟩
  cases ex <;> first | exact hq _ _ _ _ hh | exact hh

/-- A loop that counts up to n: what holds as it comes to i. -/
theorem VW.forN {x : XCode} (n : Nat) (J : Nat → Env → Mem → Nat → Prop) (i0 : Nat) (hi : i0 ≤ n) (h0 : J i0 e m nx)
    (round : ∀ i e m nx, i ≤ n → J i e m nx → VW P x (Post.then (fun e' m' nx' => i < n ∧ J (i + 1) e' m' nx') Q) e m nx) : VW P (.loop x) Q e m nx := by
  refine VW.loop (fun k e m nx => ∃ i, i + k = n ∧ J i e m nx) (n - i0) ⟨i0, by omega, h0⟩ ?_
  rintro k e m nx ⟨i, hk, hJ⟩
  refine (round i e m nx (by omega) hJ).mono ?_
  intro ex e m nx h
  cases ex with
  | normal => exact ⟨k - 1, by have := h.1; omega, i + 1, by have := h.1; omega, h.2⟩
  | exit j => exact h
  | ret => exact h

/-- Less may be known of the slots. -/
theorem VW.weak {x : XCode} {e' : Env} (he : ∀ t p, e' t = some p → e t = some p) (h : VW P x Q e' m nx) : VW P x Q e m nx := by
  intro ro F c β ok a w hm hro hc hs hf hd
  exact h ro F c β ok a w hm hro hc ⟨hs.size, hs.defers, fun t p ht => hs.env t p (he t p ht), hs.mem, hs.okb, hs.keeps, hs.own, hs.ok0, hs.oks⟩ hf hd

/-- Less may be known of the objects. -/
theorem VW.drop {x : XCode} {m' : Mem} (hsub : Sub m' m) (h : VW P x Q e m' nx) : VW P x Q e m nx := by
  intro ro F c β ok a w hm hro hc hs hf hd
  refine h ro F c β ok a w hm hro hc ⟨hs.size, hs.defers.step (fun _ => False) (fun _ _ _ => rfl) (fun _ _ h => h.elim) (fun b ⟨id, o, cap, h1, h2, h3⟩ => .inl ⟨id, o, cap, hsub _ _ h1, h2, h3⟩) (fun _ h => .inl h), hs.env, hs.mem.sub hsub, hs.okb, hs.keeps, fun k hk => ?_, hs.ok0, hs.oks⟩ hf hd
  obtain ⟨id, o, cap, h1, h2, h3⟩ := hk
  exact hs.own k ⟨id, o, cap, hsub _ _ h1, h2, h3⟩

/-- Rows that are written no more. -/
theorem VW.freeze {x : XCode} (l : List Nat) (h : VW P x Q e (Vx.frz m l) nx) : VW P x Q e m nx := by
  intro ro F c β ok a w hm hro hc hs hf hd
  obtain ⟨ok', hs', _⟩ := hs.frz' l
  exact h ro F c β ok' a w hm hro hc hs' hf hd

/-- How long a list can be. -/
theorem VW.slen {x : XCode} {t : Nat} {xs : List (List PV)} (ht : e t = some (.sl xs)) (h : xs.length ≤ maxLen → VW P x Q e m nx) : VW P x Q e m nx := by
  intro ro F c β ok a w hm hro hc hs hf hd
  refine h ?_ ro F c β ok a w hm hro hc hs hf hd
  obtain ⟨v, _, hr⟩ := hs.env t _ ht
  cases hr with
  | sl0 A cap hcap => simp
  | sl k _ A cap f hne hl hcap => exact Nat.le_trans hl hcap

theorem VW.olen {x : XCode} {id k T : Nat} {xs : List (List PV)} {fz : Bool} (ht : m id = some (.row k xs T fz)) (h : xs.length ≤ maxLen → (∀ y ∈ xs, y.length = k) → VW P x Q e m nx) : VW P x Q e m nx := by
  intro ro F c β ok a w hm hro hc hs hf hd
  obtain ⟨l, hl, hr⟩ := hs.mem.objs id _ ht
  cases l with
  | nil => 
    have : xs = [] := hr
    subst this
    exact h (by simp) (by simp) ro F c β ok a w hm hro hc hs hf hd
  | «at» b cap =>
    obtain ⟨⟨cur, _, _, h1, h2, h3, _⟩, _⟩ := hr
    exact h (Nat.le_trans h1 h2) h3 ro F c β ok a w hm hro hc hs hf hd

/-- What lies below the next number. -/
theorem VW.below {x : XCode} {id : Nat} {o : Obj} (ht : m id = some o) (h : id < nx → VW P x Q e m nx) : VW P x Q e m nx := by
  intro ro F c β ok a w hm hro hc hs hf hd
  refine h ?_ ro F c β ok a w hm hro hc hs hf hd
  obtain ⟨l, hl, _⟩ := hs.mem.objs id o ht
  rcases Nat.lt_or_ge id nx with h | h
  · exact h
  · rw [hf id h] at hl; cases hl

end
end Go.Vx
