/- The engine, part 17: regions whose order is open: whatever the order, the same comes out. -/
import Derived.Test.YtgkkffhoflgpoaaVp
set_option linter.unusedVariables false
set_option linter.unusedSimpArgs false
namespace Go.Vx
open Go Go.RowKit

open Classical in
noncomputable def ov (D : Nat → Prop) (f M : Mem) : Mem := fun id => if D id then f id else M id

section
variable {P : Program} {e e' : Env} {m M : Mem} {b : Nat}

theorem upds_in (d : Delta) : ∀ (m m' : Mem) (id : Nat), id ∈ d.map (·.1) → m.upds d id = m'.upds d id := by
  induction d with
  | nil => intro m m' id h; simp at h
  | cons x d ih =>
    intro m m' id h
    obtain ⟨i, o⟩ := x
    show Mem.upds (upd m i o) d id = Mem.upds (upd m' i o) d id
    by_cases hd : id ∈ d.map (·.1)
    · exact ih _ _ id hd
    · have hi : id = i := by
        simp only [List.map_cons, List.mem_cons] at h
        exact h.resolve_right hd
      have out : ∀ (d : Delta) (m : Mem), id ∉ d.map (·.1) → m.upds d id = m id := by
        intro d
        induction d with
        | nil => intro m _; rfl
        | cons y d ih2 =>
          intro m hn
          simp only [List.map_cons, List.mem_cons, not_or] at hn
          show Mem.upds (upd m y.1 y.2) d id = m id
          rw [ih2 _ hn.2, upd_other _ _ hn.1]
      rw [out d _ hd, out d _ hd, hi, upd_same, upd_same]

theorem upds_out (d : Delta) : ∀ (m : Mem) (id : Nat), id ∉ d.map (·.1) → m.upds d id = m id := by
  induction d with
  | nil => intro m id _; rfl
  | cons y d ih2 =>
    intro m id hn
    simp only [List.map_cons, List.mem_cons, not_or] at hn
    show Mem.upds (upd m y.1 y.2) d id = m id
    rw [ih2 _ _ hn.2, upd_other _ _ hn.1]

theorem upds_ov (d : Delta) (m : Mem) : m.upds d = ov (fun id => id ∈ d.map (·.1)) (mt.upds d) m := by
  funext id
  unfold ov
  split
  · rename_i h; exact upds_in d _ _ id h
  · rename_i h; exact upds_out d _ id h

theorem Arg.sub {mR : Mem} (hs : Sub mR M) {p q : PV} (h : Arg b mR p q) : Arg b M p q := by
  rcases h with h | h
  · exact .inl h
  · exact .inr (purA_sub hs h)
theorem Args.sub {mR : Mem} (hs : Sub mR M) : ∀ {ps qs : List PV}, Args b mR ps qs → Args b M ps qs
  | [], [], _ => trivial
  | _ :: _, _ :: _, ⟨h1, h2⟩ => ⟨h1.sub hs, Args.sub hs h2⟩
  | [], _ :: _, h => h.elim
  | _ :: _, [], h => h.elim

/-- What an operation does, wherever its operands and what it sees are as here. -/
structure Does (P : Program) (base b : Nat) (bar : Bool) (x : XI) (e : Env) (mR : Mem) (p : PV) (D : Nat → Prop) (f : Mem) : Prop where
  dom : ∀ id, D id → (b ≤ id ∧ id < b + 8 ∧ x.mk = true) ∨ ((bar = true ∨ (x.wr = true ∧ x.isL = false) ∨ (x.isL = true ∧ base ≤ id)) ∧ (mR id).isSome = true)
  still : x.touch = false → ∀ id, ¬ D id
  runs : ∀ e' M, (∀ t ∈ x.slots, e' t = e t) → (x.touch = true → Sub mR M) → vop P b bar (some base) x e' M M fun p' m' => p' = p ∧ m' = ov D f M

theorem call_open {bar : Bool} {X : Cal} {ps : List PV} {mR : Mem} {K : PV → Mem → Prop} (h : VCall P b X ps mR m bar false K) :
    ∃ (p : PV) (D : Nat → Prop) (g : Mem), K p (ov D g m) ∧ (∀ id, D id → (b ≤ id ∧ id < b + 8) ∨ (bar = true ∧ (mR id).isSome = true)) ∧
      ∀ M, Sub mR M → VCall P b X ps M M bar false fun p' m' => p' = p ∧ m' = ov D g M := by
  unfold VCall at h ⊢
  induction h with
  | pure qs r ha hv hk =>
    have h0 : ∀ M, ov (fun _ => False) mt M = M := fun M => by funext id; simp [ov]
    exact ⟨r, fun _ => False, mt, by rw [h0]; exact hk, fun _ h => h.elim, fun M hs => .pure qs r (ha.sub hs) hv ⟨rfl, (h0 M).symm⟩⟩
  | new qs r o ha hv hk =>
    have h0 : ∀ M, ov (fun id => id = b) (upd mt b (some o)) M = upd M b (some o) := fun M => by
      funext id
      by_cases he : id = b
      · subst he; simp [ov, upd]
      · simp [ov, upd, he]
    exact ⟨r, fun id => id = b, upd mt b (some o), by rw [h0]; exact hk, fun id h => .inl (by omega), fun M hs => .new qs r o (ha.sub hs) hv ⟨rfl, (h0 M).symm⟩⟩
  | gen hb qs m0 r m1 ha h0 hv hk =>
    have h1 : ∀ M, ov (fun id => (m0 id).isSome = true ∨ (b ≤ id ∧ id < b + 8)) m1 M = patch m0 b m1 M := fun M => by
      funext id
      by_cases hc : (m0 id).isSome = true ∨ (b ≤ id ∧ id < b + 8)
      · simp only [ov, patch, if_pos hc]
      · simp only [ov, patch, if_neg hc]
    refine ⟨r, fun id => (m0 id).isSome = true ∨ (b ≤ id ∧ id < b + 8), m1, by rw [h1]; exact hk, fun id h => ?_, fun M hs => .gen hb qs m0 r m1 (ha.sub hs) (fun id o h => ⟨hs _ _ (h0 id o h).1, (h0 id o h).2⟩) hv ⟨rfl, (h1 M).symm⟩⟩
    rcases h with h | h
    · obtain ⟨o, ho⟩ := Option.isSome_iff_exists.1 h
      exact .inr ⟨hb, by rw [(h0 id o ho).1]; rfl⟩
    · exact .inl h
  | @own mR m hb qs id o o' r ha h0 h1 h2 hv hk =>
    have h3 : ∀ M, ov (fun i => i = id) (upd mt id (some o')) M = upd M id (some o') := fun M => by
      funext i
      by_cases he : i = id
      · subst he; simp [ov, upd]
      · simp [ov, upd, he]
    exact ⟨r, fun i => i = id, upd mt id (some o'), by rw [h3]; exact hk, fun i h => .inr ⟨hb, by rw [h, h0]; rfl⟩, fun M hs => .own hb qs id o o' r (ha.sub hs) (hs _ _ h0) h1 h2 hv ⟨rfl, (h3 M).symm⟩⟩
  | @frz mR m hb l hl h ih =>
    obtain ⟨p, D, g, hk, hd, hr⟩ := ih
    have hlk : ∀ M, (∀ id, id ∈ l → ∃ o, mR id = some o ∧ M id = some o) → ov (fun id => D id ∨ id ∈ l) (ov D g (Vx.frz mR l)) M = ov D g (Vx.frz M l) := fun M hM => by
      funext id
      by_cases h1 : D id
      · simp [ov, h1]
      · by_cases h2 : id ∈ l
        · obtain ⟨o, ho, hmo⟩ := hM id h2
          simp [ov, h1, h2, Vx.frz, ho, hmo]
        · simp [ov, h1, h2, Vx.frz]
    refine ⟨p, fun id => D id ∨ id ∈ l, ov D g (Vx.frz mR l), by rw [hlk m hl]; exact hk, fun id h => ?_, fun M hs => ?_⟩
    · rcases h with h | h
      · rcases hd id h with h | ⟨h1, h2⟩
        · exact .inl h
        · refine .inr ⟨h1, ?_⟩
          unfold Vx.frz at h2
          split at h2
          · simpa using h2
          · exact h2
      · obtain ⟨o, ho, _⟩ := hl id h
        exact .inr ⟨hb, by rw [ho]; rfl⟩
    · have hM : ∀ id, id ∈ l → ∃ o, mR id = some o ∧ M id = some o := fun id h => by
        obtain ⟨o, ho, _⟩ := hl id h
        exact ⟨o, ho, hs _ _ ho⟩
      rw [show (fun p' m' => p' = p ∧ m' = ov (fun id => D id ∨ id ∈ l) (ov D g (Vx.frz mR l)) M) = (fun p' m' => p' = p ∧ m' = ov D g (Vx.frz M l)) from by rw [hlk M hM]]
      refine .frz hb l (fun id h => ?_) (hr (Vx.frz M l) fun id o ho => ?_)
      · obtain ⟨o, _, ho⟩ := hM id h
        exact ⟨o, ho, ho⟩
      · unfold Vx.frz at ho ⊢
        split
        · rename_i hm
          simp only [hm, if_true, Option.map_eq_some_iff] at ho ⊢
          obtain ⟨o', h1, h2⟩ := ho
          exact ⟨o', hs _ _ h1, h2⟩
        · rename_i hm
          rw [if_neg hm] at ho
          exact hs _ _ ho
  | any hb hn => cases hn
  | @ol mR m hb qs l0 l1 r ha h0 h1 hv hk =>
    refine ⟨r, fun id => id ∈ (swap l0 l1).map (·.1), mt.upds (swap l0 l1), by rw [← upds_ov]; exact hk, fun id h => ?_, fun M hs => .ol hb qs l0 l1 r (ha.sub hs) (fun x hx => ⟨hs _ _ (h0 x hx).1, (h0 x hx).2⟩) h1 hv ⟨rfl, upds_ov _ M⟩⟩
    simp only [swap, List.map_append, List.map_map, List.mem_append, List.mem_map, Function.comp] at h
    have old : ∀ x ∈ l0, (mR x.1).isSome = true := fun x hx => by rw [(h0 x hx).1]; rfl
    rcases h with ⟨x, hx, rfl⟩ | ⟨x, hx, rfl⟩
    · exact .inr ⟨hb, old x hx⟩
    · rcases h1 x hx with h | h
      · obtain ⟨y, hy, he⟩ := List.mem_map.1 h
        exact .inr ⟨hb, by rw [← he]; exact old y hy⟩
      · exact .inl h

theorem vop_open {bar : Bool} {x : XI} {mR : Mem} {K : PV → Mem → Prop} {base : Nat} (h : vop P b bar (some base) x e mR m K) : ∃ p D f, K p (ov D f m) ∧ Does P base b bar x e mR p D f := by
  have still : x.isL = false → (∀ e' M K, vop P b bar (some base) x e' M M K = obind (vopF x e' M b) fun r => K r.1 (M.upds r.2)) → (obind (vopF x e mR b) fun r => K r.1 (m.upds r.2)) → ∃ p D f, K p (ov D f m) ∧ Does P base b bar x e mR p D f := by
    intro hiL hv h
    obtain ⟨⟨p, d⟩, hr, hk⟩ := obind_some h
    refine ⟨p, _, _, by rw [← upds_ov]; exact hk, fun id hid => ?_, fun ht id hid => ?_, fun e' M he hs => ?_⟩
    · obtain ⟨⟨i, o⟩, hm, rfl⟩ := List.mem_map.1 hid
      rcases (vopF_dom hr).2 i o hm with ⟨rfl, _, hk⟩ | h
      · exact .inl ⟨Nat.le_refl _, by simp, hk⟩
      · exact .inr ⟨.inr (.inl ⟨h.1, hiL⟩), h.2⟩
    · rw [(vopF_dom hr).1 ht] at hid
      simp at hid
    · have : vopF x e M b = some (p, d) := by
        cases ht : x.touch with
        | true => exact vopF_sub (hs ht) hr
        | false => rw [vopF_free (M := mR) ht]; exact hr
      rw [hv, vopF_congr he, this]
      exact ⟨rfl, upds_ov d M⟩
  cases x
  case next x => obtain ⟨h, _⟩ := h; cases h
  case call f args =>
    obtain ⟨ps, hps, hc⟩ := obind_some h
    obtain ⟨p, D, g, hk, hd, hr⟩ := call_open hc
    refine ⟨p, D, g, hk, fun id h => (hd id h).imp (fun h => ⟨h.1, h.2, rfl⟩) (fun h => ⟨.inl h.1, h.2⟩), by simp [XI.touch], fun e' M he hs => ?_⟩
    show obind (args.mapM fun x => x.ev e') _
    rw [evs_congr he, hps]
    exact hr M (hs rfl)
  case callv fx args =>
    obtain ⟨pf, hpf, h⟩ := obind_some h
    cases pf <;> try exact h.elim
    · rename_i g caps
      obtain ⟨ps, hps, hc⟩ := obind_some h
      obtain ⟨p, D, f, hk, hd, hr⟩ := call_open hc
      refine ⟨p, D, f, hk, fun id h => (hd id h).imp (fun h => ⟨h.1, h.2, rfl⟩) (fun h => ⟨.inl h.1, h.2⟩), by simp [XI.touch], fun e' M he hs => ?_⟩
      show obind (fx.ev e') _
      rw [ev_congr (fun t ht => he t (List.mem_append_left _ ht)), hpf]
      show obind (args.mapM fun x => x.ev e') _
      rw [evs_congr (fun t ht => he t (List.mem_append_right _ ht)), hps]
      exact hr M (hs rfl)
    · rename_i L
      obtain ⟨ps, hps, hc⟩ := obind_some h
      obtain ⟨p, D, f, hk, hd, hr⟩ := call_open hc
      refine ⟨p, D, f, hk, fun id h => (hd id h).imp (fun h => ⟨h.1, h.2, rfl⟩) (fun h => ⟨.inl h.1, h.2⟩), by simp [XI.touch], fun e' M he hs => ?_⟩
      show obind (fx.ev e') _
      rw [ev_congr (fun t ht => he t (List.mem_append_left _ ht)), hpf]
      show obind (args.mapM fun x => x.ev e') _
      rw [evs_congr (fun t ht => he t (List.mem_append_right _ ht)), hps]
      exact hr M (hs rfl)
  case appendL T k bytes s y =>
    obtain ⟨hw, h⟩ := h
    obtain ⟨⟨p, d⟩, hr, hk⟩ := obind_some h
    refine ⟨p, _, _, by rw [← upds_ov]; exact hk, fun id hid => ?_, by simp [XI.touch], fun e' M he hs => ?_⟩
    · obtain ⟨⟨i, o⟩, hm, rfl⟩ := List.mem_map.1 hid
      rcases (vopF_dom hr).2 i o hm with ⟨rfl, _, hk⟩ | h
      · exact .inl ⟨Nat.le_refl _, by simp, rfl⟩
      · by_cases hib : i = b
        · exact .inl ⟨by simp [hib], by simp [hib], rfl⟩
        refine .inr ⟨.inr (.inr ⟨rfl, ?_⟩), h.2⟩
        simp only [vopF, Option.bind_eq_some_iff] at hr
        obtain ⟨q, hq, q', hq', ys, hys, hr⟩ := hr
        rw [hq] at hw
        cases q <;> simp only [reduceCtorEq] at hr
        · rename_i id n
          have hle : base ≤ id := hw
          split at hr
          case h_2 => cases hr
          split at hr
          case isFalse => cases hr
          simp only [Option.some.injEq, Prod.mk.injEq] at hr
          obtain ⟨_, rfl⟩ := hr
          simp only [List.mem_cons, Prod.mk.injEq, List.not_mem_nil, or_false] at hm
          rcases hm with ⟨h, _⟩ | ⟨h, _⟩
          · rw [h]; exact hle
          · exact absurd h hib
        · split at hr
          case isFalse => cases hr
          simp only [Option.some.injEq, Prod.mk.injEq] at hr
          obtain ⟨_, rfl⟩ := hr
          simp only [List.mem_cons, Prod.mk.injEq, List.not_mem_nil, or_false] at hm
          exact absurd hm.1 hib
    · have h1 : vopF (.append T k bytes s y) e' M b = some (p, d) := by
        rw [vopF_congr (x := .append T k bytes s y) (e := e) (fun t ht => he t ht)]; exact vopF_sub (hs rfl) hr
      have h2 : s.ev e' = s.ev e := ev_congr fun t ht => he t (List.mem_append_left _ ht)
      show wloc (some base) (s.ev e') ∧ obind (vopF (.append T k bytes s y) e' M b) _
      rw [h1, h2]
      exact ⟨hw, rfl, upds_ov d M⟩
  all_goals exact still rfl (fun _ _ _ => rfl) h

/-- The textual run of a region. -/
structure Tr (P : Program) (base i0 : Nat) (xs : List XOp) (es : Nat → Env) (ms : Nat → Mem) (pv : Nat → PV) (D : Nat → Nat → Prop) (f : Nat → Mem) : Prop where
  env : ∀ i X, xs[i]? = some X → es (i + 1) = putE (es i) X.dst (pv i)
  mem : ∀ i X, xs[i]? = some X → ms (i + 1) = ov (D i) (f i) (ms i)
  step : ∀ i X, xs[i]? = some X → (vguard X.guard (es i) True False ∧ Does P base (base + 8 * (i0 + i)) X.bar X.xi (es i) (restr base X.anc (ms i)) (pv i) (D i) (f i)) ∨
    (vguard X.guard (es i) False True ∧ pv i = .tup [] ∧ ∀ id, ¬ D i id)

theorem vguard_cases {g : Option (Nat × Bool)} {A B : Prop} (h : vguard g e A B) : (vguard g e True False ∧ A) ∨ (vguard g e False True ∧ B) := by
  cases g with
  | none => exact .inl ⟨trivial, h⟩
  | some tw =>
    obtain ⟨t, want⟩ := tw
    obtain ⟨p, hp, h⟩ := obind_some h
    simp only [vguard, hp]
    cases p <;> try exact h.elim
    · rename_i c
      by_cases hc : c = want
      · exact .inl ⟨⟨fun _ => trivial, fun h => h hc⟩, h.1 hc⟩
      · exact .inr ⟨⟨fun h => hc h, fun _ => trivial⟩, h.2 hc⟩
    · rename_i vs
      cases vs with
      | nil => exact .inr ⟨trivial, h⟩
      | cons => exact h.elim

theorem trace (base : Nat) (K : Env → Mem → Prop) : ∀ (xs : List XOp) (i0 : Nat) (e : Env) (m : Mem), vopsD P base i0 xs e m K →
    ∃ es ms pv D f, es 0 = e ∧ ms 0 = m ∧ Tr P base i0 xs es ms pv D f ∧ K (es xs.length) (ms xs.length) := by
  intro xs
  induction xs with
  | nil => intro i0 e m h; exact ⟨fun _ => e, fun _ => m, fun _ => .tup [], fun _ _ => False, fun _ => m, rfl, rfl, ⟨by simp, by simp, by simp⟩, h⟩
  | cons X xs ih =>
    intro i0 e m h
    have build : ∀ (p : PV) (D0 : Nat → Prop) (f0 : Mem), vopsD P base (i0 + 1) xs (putE e X.dst p) (ov D0 f0 m) K →
        ((vguard X.guard e True False ∧ Does P base (base + 8 * (i0 + 0)) X.bar X.xi e (restr base X.anc m) p D0 f0) ∨ (vguard X.guard e False True ∧ p = .tup [] ∧ ∀ id, ¬ D0 id)) →
        ∃ es ms pv D f, es 0 = e ∧ ms 0 = m ∧ Tr P base i0 (X :: xs) es ms pv D f ∧ K (es (X :: xs).length) (ms (X :: xs).length) := by
      intro p D0 f0 h1 h2
      obtain ⟨es, ms, pv, D, f, g1, g2, g3, g4⟩ := ih (i0 + 1) _ _ h1
      refine ⟨fun i => match i with | 0 => e | i + 1 => es i, fun i => match i with | 0 => m | i + 1 => ms i, fun i => match i with | 0 => p | i + 1 => pv i, fun i => match i with | 0 => D0 | i + 1 => D i,
        fun i => match i with | 0 => f0 | i + 1 => f i, rfl, rfl, ⟨fun i Y hY => ?_, fun i Y hY => ?_, fun i Y hY => ?_⟩, g4⟩
      · cases i with
        | zero => simp at hY; subst hY; exact g1
        | succ i => exact g3.env i Y (by simpa using hY)
      · cases i with
        | zero => simp at hY; subst hY; exact g2
        | succ i => exact g3.mem i Y (by simpa using hY)
      · cases i with
        | zero => simp at hY; subst hY; exact h2
        | succ i =>
          have := g3.step i Y (by simpa using hY)
          rw [show i0 + 1 + i = i0 + (i + 1) by omega] at this
          exact this
    rcases vguard_cases h with ⟨hg, hA⟩ | ⟨hg, hB⟩
    · obtain ⟨p, D, f, hk, hd⟩ := vop_open hA
      exact build p D f hk (.inl ⟨hg, hd⟩)
    · have h0 : ov (fun _ => False) mt m = m := by funext id; simp [ov]
      exact build (.tup []) (fun _ => False) mt (by rw [h0]; exact hB) (.inr ⟨hg, rfl, fun _ h => h⟩)

end

/-- The order of a region suffices. -/
structure OrdOk (ops : Array Oper) (xs : List XOp) : Prop where
  len : xs.length = ops.size
  back : ∀ i o, ops[i]? = some o → ∀ ed ∈ o.after.toList, Region.binds .any ed = true → ed.on < i
  anc : ∀ (i : Nat) X, xs[i]? = some X → ∀ j, InA j X.anc → ∃ o ed, ops[i]? = some o ∧ ed ∈ o.after.toList ∧ Region.binds .any ed = true ∧ (ed.on = j ∨ ∃ Y, xs[ed.on]? = some Y ∧ InA j Y.anc)
  wr : ∀ (i : Nat) X, xs[i]? = some X → X.xi.wr = true → X.bar = true ∨ X.xi.isL = true
  locs : ∀ (i j : Nat) X Y, xs[i]? = some X → xs[j]? = some Y → i ≠ j → X.xi.isL = true → Y.xi.touch = true → ∀ (q : Nat) Z, xs[q]? = some Z → Z.xi.mk = true → InA q X.anc → InA q Y.anc → InA j X.anc ∨ InA i Y.anc
  dst : ∀ (i j : Nat) X Y t, xs[i]? = some X → xs[j]? = some Y → i ≠ j → Y.dst = some t → X.dst ≠ some t
  reads : ∀ (i j : Nat) X Y t, xs[i]? = some X → xs[j]? = some Y → i ≠ j → Y.dst = some t → t ∈ looks X → (j < i ∧ InA j X.anc) ∨ (i < j ∧ InA i Y.anc)
  bars : ∀ (i j : Nat) X Y, xs[i]? = some X → xs[j]? = some Y → i ≠ j → X.bar = true → X.xi.touch = true → Y.xi.touch = true → InA j X.anc ∨ InA i Y.anc

end Go.Vx
