/- The engine, part 16: regions whose order is open: what an operation hangs on. -/
import Derived.Test.YtgkkffhoflgpoaaVo
set_option linter.unusedVariables false
set_option linter.unusedSimpArgs false
namespace Go.Vx
open Go Go.RowKit

section
variable {e e' : Env} {m M : Mem} {b : Nat}

theorem ev_congr {x : XA} (h : ∀ t ∈ x.slots, e' t = e t) : x.ev e' = x.ev e := by
  cases x with
  | t n => exact h n (by simp [XA.slots])
  | c p => rfl
theorem evs_congr {l : List XA} (h : ∀ t ∈ slotsL l, e' t = e t) : (l.mapM fun x => x.ev e') = l.mapM fun x => x.ev e := by
  induction l with
  | nil => rfl
  | cons x l ih =>
    simp only [List.mapM_cons]
    rw [ev_congr (fun t ht => h t (by simp [slotsL, ht])), ih (fun t ht => h t (by simp only [slotsL, List.flatMap_cons]; exact List.mem_append_right _ ht))]
theorem idxo_congr {n : Nat} {x : Option XA} (h : ∀ t ∈ slotsO x, e' t = e t) : idxo n e' x = idxo n e x := by
  cases x with
  | none => rfl
  | some x => simp only [idxo]; rw [ev_congr h]
theorem fillP_congr {ps : List (Nat × Nat × XA)} (h : ∀ t ∈ slotsL (ps.map (·.2.2)), e' t = e t) : ∀ z, fillP e' z ps = fillP e z ps := by
  induction ps with
  | nil => intro z; rfl
  | cons p ps ih =>
    intro z
    obtain ⟨off, n, x⟩ := p
    simp only [fillP]
    rw [ev_congr (fun t ht => h t (by simp [slotsL, ht]))]
    congr 1
    funext q
    rw [ih (fun t ht => h t (by simp only [slotsL, List.map_cons, List.flatMap_cons]; exact List.mem_append_right _ ht))]
theorem fillR_congr {k : Nat} {ps : List (Nat × XA)} (h : ∀ t ∈ slotsL (ps.map (·.2)), e' t = e t) : ∀ xs, fillR e' m k xs ps = fillR e m k xs ps := by
  induction ps with
  | nil => intro z; rfl
  | cons p ps ih =>
    intro z
    obtain ⟨i, x⟩ := p
    simp only [fillR]
    rw [ev_congr (fun t ht => h t (by simp [slotsL, ht]))]
    congr 1
    funext q
    congr 1
    funext q'
    rw [ih (fun t ht => h t (by simp only [slotsL, List.map_cons, List.flatMap_cons]; exact List.mem_append_right _ ht))]

theorem vopF_congr {x : XI} (h : ∀ t ∈ x.slots, e' t = e t) : vopF x e' m b = vopF x e m b := by
  have two : ∀ {x y : XA}, (∀ t ∈ x.slots ++ y.slots, e' t = e t) → x.ev e' = x.ev e ∧ y.ev e' = y.ev e := fun h =>
    ⟨ev_congr fun t ht => h t (List.mem_append_left _ ht), ev_congr fun t ht => h t (List.mem_append_right _ ht)⟩
  cases x <;> simp only [XI.slots] at h
  case nilrow => rfl
  case alloc => rfl
  case pick c x y =>
    have h1 : c.ev e' = c.ev e := ev_congr fun t ht => h t (by simp [ht])
    have h2 : x.ev e' = x.ev e := ev_congr fun t ht => h t (by simp [ht])
    have h3 : y.ev e' = y.ev e := ev_congr fun t ht => h t (by simp [ht])
    simp only [vopF, h1]
    congr 1
    funext q
    cases q <;> try rfl
    rename_i t
    cases t
    · simp only [Bool.false_eq_true, if_false, h3]
    · simp only [if_true, h2]
  case build z ps => simp only [vopF, fillP_congr h]
  case mkrow T k len z ps => simp only [vopF, fillR_congr h]
  case sliceT x lo hi =>
    have h1 : x.ev e' = x.ev e := ev_congr fun t ht => h t (by simp [ht])
    have h2 : ∀ n, idxo n e' lo = idxo n e lo := fun n => idxo_congr fun t ht => h t (by simp [ht])
    have h3 : ∀ n, idxo n e' hi = idxo n e hi := fun n => idxo_congr fun t ht => h t (by simp [ht])
    simp only [vopF, h1, h2, h3]
  case sliceS k x lo hi =>
    have h1 : x.ev e' = x.ev e := ev_congr fun t ht => h t (by simp [ht])
    have h2 : ∀ n, idxo n e' lo = idxo n e lo := fun n => idxo_congr fun t ht => h t (by simp [ht])
    have h3 : ∀ n, idxo n e' hi = idxo n e hi := fun n => idxo_congr fun t ht => h t (by simp [ht])
    simp only [vopF, h1, h2, h3]
  case mapUpd g ks x k v =>
    have h1 : x.ev e' = x.ev e := ev_congr fun t ht => h t (by simp [ht])
    have h2 : k.ev e' = k.ev e := ev_congr fun t ht => h t (by simp [ht])
    have h3 : v.ev e' = v.ev e := ev_congr fun t ht => h t (by simp [ht])
    simp only [vopF, h1, h2, h3]
  case entSto x k v =>
    have h1 : x.ev e' = x.ev e := ev_congr fun t ht => h t (by simp [ht])
    have h2 : k.ev e' = k.ev e := ev_congr fun t ht => h t (by simp [ht])
    have h3 : v.ev e' = v.ev e := ev_congr fun t ht => h t (by simp [ht])
    simp only [vopF, h1, h2, h3]
  case slice3 k x lo hi mx =>
    have h1 : x.ev e' = x.ev e := ev_congr fun t ht => h t (by simp [ht])
    have h2 : ∀ n, idxo n e' lo = idxo n e lo := fun n => idxo_congr fun t ht => h t (by simp [ht])
    have h3 : ∀ n, idxo n e' hi = idxo n e hi := fun n => idxo_congr fun t ht => h t (by simp [ht])
    have h4 : mx.ev e' = mx.ev e := ev_congr fun t ht => h t (by simp [ht])
    simp only [vopF, h1, h2, h3, h4]
  case next x => rfl
  case mkmap => rfl
  case never => rfl
  case appendL => rfl
  case mkfn f cs => simp only [vopF, evs_congr h]
  case call f cs => rfl
  case callv f cs => rfl
  all_goals first
    | (simp only [vopF, ev_congr h]; done)
    | (simp only [vopF, (two h).1, (two h).2]; done)

/-- Memory that holds at least what another one does. -/
def Sub (m M : Mem) : Prop := ∀ id o, m id = some o → M id = some o

theorem pur_sub (hs : Sub m M) {st : Bool} {p q : PV} (h : pur st m p = some q) : pur st M p = some q := by
  cases p <;> try exact h
  rename_i id n
  simp only [pur] at h ⊢
  cases hid : m id with
  | none => simp [hid] at h
  | some ob => rw [hs id ob hid]; rw [hid] at h; exact h
theorem mapM_sub {f g : PV → Option PV} (hfg : ∀ p q, f p = some q → g p = some q) : ∀ {l r : List PV}, l.mapM f = some r → l.mapM g = some r
  | [], r, h => by simpa using h
  | p :: l, r, h => by
    simp only [List.mapM_cons, Option.bind_eq_bind, Option.bind_eq_some_iff] at h ⊢
    obtain ⟨q, hq, qs, hqs, h⟩ := h
    exact ⟨q, hfg p q hq, qs, mapM_sub hfg hqs, h⟩
theorem purA_sub (hs : Sub m M) {st : Bool} {p q : PV} (h : purA st m p = some q) : purA st M p = some q := by
  unfold purA at h ⊢
  cases p
  case agg cs =>
    simp only [Option.map_eq_some_iff] at h ⊢
    obtain ⟨qs, hqs, rfl⟩ := h
    exact ⟨qs, mapM_sub (fun p q h => pur_sub hs h) hqs, rfl⟩
  all_goals (dsimp only at h ⊢; exact pur_sub hs h)
theorem rd_sub (hs : Sub m M) {n : Nat} {p : PV} {cs : List PV} (h : rd m n p = some cs) : rd M n p = some cs := by
  cases p <;> try exact h
  rename_i id k i j
  simp only [rd] at h ⊢
  cases hid : m id with
  | none => simp [hid] at h
  | some ob => rw [hs id ob hid]; rw [hid] at h; exact h
theorem elems_sub (hs : Sub m M) {p : PV} {ys : List (List PV)} (h : elems m p = some ys) : elems M p = some ys := by
  cases p <;> try exact h
  rename_i id n
  simp only [elems] at h ⊢
  cases hid : m id with
  | none => simp [hid] at h
  | some ob => rw [hs id ob hid]; rw [hid] at h; exact h
theorem fillR_sub (hs : Sub m M) {k : Nat} : ∀ {ps : List (Nat × XA)} {xs r : List (List PV)}, fillR e m k xs ps = some r → fillR e M k xs ps = some r
  | [], xs, r, h => h
  | (i, x) :: ps, xs, r, h => by
    simp only [fillR, Option.bind_eq_some_iff] at h ⊢
    obtain ⟨p, hp, q, hq, h⟩ := h
    refine ⟨p, hp, q, purA_sub hs hq, ?_⟩
    split at h
    case isFalse => cases h
    rename_i hc
    rw [if_pos hc]
    exact fillR_sub hs h

theorem mes_sub (hs : Sub m M) {p : PV} {es : List (PV × PV)} (h : mes m p = some es) : mes M p = some es := by
  cases p <;> try exact h
  rename_i id
  simp only [mes] at h ⊢
  cases hid : m id with
  | none => simp [hid] at h
  | some ob => rw [hs id ob hid]; rw [hid] at h; exact h

/-- More memory, the same answer. -/
theorem vopF_sub (hs : Sub m M) {x : XI} {r : PV × Delta} (h : vopF x e m b = some r) : vopF x e M b = some r := by
  cases x <;> try exact h
  case mkrow T k len z ps =>
    simp only [vopF] at h ⊢
    split at h
    case isFalse => cases h
    rename_i hc
    rw [if_pos hc]
    simp only [Option.bind_eq_some_iff] at h ⊢
    obtain ⟨xs, hxs, h⟩ := h
    exact ⟨xs, fillR_sub hs hxs, h⟩
  case load1 x =>
    simp only [vopF, Option.bind_eq_some_iff] at h ⊢
    obtain ⟨p, hp, cs, hcs, h⟩ := h
    exact ⟨p, hp, cs, rd_sub hs hcs, h⟩
  case loadn n x =>
    simp only [vopF, Option.bind_eq_some_iff] at h ⊢
    obtain ⟨p, hp, cs, hcs, h⟩ := h
    exact ⟨p, hp, cs, rd_sub hs hcs, h⟩
  case store n x y =>
    simp only [vopF, Option.bind_eq_some_iff] at h ⊢
    obtain ⟨p, hp, q, hq, h⟩ := h
    refine ⟨p, hp, q, hq, ?_⟩
    cases p <;> try (simp only [reduceCtorEq] at h; done)
    rename_i id k i j
    dsimp only at h ⊢
    cases hid : m id with
    | none => simp [hid] at h
    | some ob =>
      rw [hid] at h
      rw [hs id ob hid]
      cases ob with
      | box cs T => exact h
      | map es => exact h
      | iter => exact h
      | loop => exact h
      | row k' xs T fz =>
        cases fz with
        | true => exact h
        | false =>
          simp only [Option.bind_eq_some_iff] at h ⊢
          obtain ⟨q', hq', h⟩ := h
          exact ⟨q', purA_sub hs hq', h⟩
  case lookup g ks z okb x k =>
    simp only [vopF, Option.bind_eq_some_iff] at h ⊢
    obtain ⟨p, hp, q, hq, es, hes, h⟩ := h
    exact ⟨p, hp, q, hq, es, mes_sub hs hes, h⟩
  case lenM x =>
    simp only [vopF, Option.bind_eq_some_iff] at h ⊢
    obtain ⟨p, hp, es, hes, h⟩ := h
    exact ⟨p, hp, es, mes_sub hs hes, h⟩
  case mapUpd g ks x k v =>
    simp only [vopF, Option.bind_eq_some_iff] at h ⊢
    obtain ⟨p, hp, q, hq, v, hv, h⟩ := h
    refine ⟨p, hp, q, hq, v, hv, ?_⟩
    cases p <;> try exact h
    rename_i id
    dsimp only at h ⊢
    cases hid : m id with
    | none => simp [hid] at h
    | some ob => rw [hs id ob hid]; rw [hid] at h; exact h
  case mapEnt g ks z x k =>
    simp only [vopF, Option.bind_eq_some_iff] at h ⊢
    obtain ⟨p, hp, q, hq, h⟩ := h
    refine ⟨p, hp, q, hq, ?_⟩
    cases p <;> try exact h
    rename_i id
    dsimp only at h ⊢
    cases hid : m id with
    | none => simp [hid] at h
    | some ob => rw [hs id ob hid]; rw [hid] at h; exact h
  case entSto x k v =>
    simp only [vopF, Option.bind_eq_some_iff] at h ⊢
    obtain ⟨p, hp, q, hq, v, hv, i, hi, h⟩ := h
    refine ⟨p, hp, q, hq, v, hv, i, hi, ?_⟩
    cases p <;> try exact h
    rename_i id
    dsimp only at h ⊢
    cases hid : m id with
    | none => simp [hid] at h
    | some ob => rw [hs id ob hid]; rw [hid] at h; exact h
  case range x =>
    simp only [vopF, Option.bind_eq_some_iff] at h ⊢
    obtain ⟨p, hp, h⟩ := h
    refine ⟨p, hp, ?_⟩
    cases p <;> try exact h
    rename_i id
    dsimp only at h ⊢
    cases hid : m id with
    | none => simp [hid] at h
    | some ob => rw [hs id ob hid]; rw [hid] at h; exact h
  case entry x =>
    simp only [vopF, Option.bind_eq_some_iff] at h ⊢
    obtain ⟨p, hp, h⟩ := h
    refine ⟨p, hp, ?_⟩
    split at h
    case h_2 => cases h
    split at h
    case h_2 => cases h
    rename_i hit
    split at h
    case h_2 => cases h
    rename_i hid
    simp only [hs _ _ hit, hs _ _ hid]
    exact h
  case slice3 k x lo hi mx =>
    simp only [vopF, Option.bind_eq_some_iff] at h ⊢
    obtain ⟨p, hp, q, hq, mx, hmx, r, hr, h⟩ := h
    exact ⟨p, hp, q, hq, mx, hmx, r, pur_sub hs hr, h⟩
  case indexS k x i =>
    simp only [vopF, Option.bind_eq_some_iff] at h ⊢
    obtain ⟨p, hp, q, hq, j, hj, h⟩ := h
    refine ⟨p, hp, q, hq, j, hj, ?_⟩
    cases p <;> try exact h
    rename_i id n
    dsimp only at h ⊢
    cases hid : m id with
    | none => simp [hid] at h
    | some ob => rw [hs id ob hid]; rw [hid] at h; exact h
  case sliceS k x lo hi =>
    simp only [vopF, Option.bind_eq_some_iff] at h ⊢
    obtain ⟨p, hp, h⟩ := h
    refine ⟨p, hp, ?_⟩
    cases p <;> try exact h
    rename_i id n
    simp only [Option.bind_eq_some_iff] at h ⊢
    obtain ⟨hh, h1, ll, h2, h⟩ := h
    refine ⟨hh, h1, ll, h2, ?_⟩
    split at h
    · rename_i hc; rw [if_pos hc]; exact h
    · rename_i hc
      rw [if_neg hc]
      simp only [Option.bind_eq_some_iff] at h ⊢
      obtain ⟨q, hq, h⟩ := h
      exact ⟨q, pur_sub hs hq, h⟩
  case append T k bytes s x =>
    simp only [vopF, Option.bind_eq_some_iff] at h ⊢
    obtain ⟨p, hp, q, hq, ys, hys, h⟩ := h
    refine ⟨p, hp, q, hq, ys, elems_sub hs hys, ?_⟩
    cases p <;> try exact h
    rename_i id n
    dsimp only at h ⊢
    cases hid : m id with
    | none => simp [hid] at h
    | some ob => rw [hs id ob hid]; rw [hid] at h; exact h

/-- What touches no object hangs on none. -/
theorem vopF_free {x : XI} (ht : x.touch = false) : vopF x e m b = vopF x e M b := by
  cases x <;> first | rfl | (simp [XI.touch] at ht)

/-- No change, or a new object. -/
def Quiet (b : Nat) (al : Bool) (r : Option (PV × Delta)) : Prop := ∀ p d, r = some (p, d) → d = [] ∨ (al = true ∧ ∃ o, d = [(b, some o)])
theorem Quiet.none {al : Bool} : Quiet b al none := fun p d h => by cases h
theorem Quiet.nil {al : Bool} {p : PV} : Quiet b al (some (p, [])) := fun p d h => by injection h with h; injection h with _ h; exact .inl h.symm
theorem Quiet.one {p : PV} {o : Obj} : Quiet b true (some (p, [(b, some o)])) := fun p d h => by injection h with h; injection h with _ h; exact .inr ⟨rfl, o, h.symm⟩
theorem Quiet.bind {α : Type} {al : Bool} {o : Option α} {f : α → Option (PV × Delta)} (h : ∀ x, Quiet b al (f x)) : Quiet b al (o.bind f) := by
  cases o with
  | none => exact .none
  | some x => exact h x
theorem Quiet.ite {al : Bool} {c : Prop} [Decidable c] {x y : Option (PV × Delta)} (h1 : Quiet b al x) (h2 : Quiet b al y) : Quiet b al (if c then x else y) := by
  split
  · exact h1
  · exact h2

theorem vopF_quiet {x : XI} (hw : x.wr = false) : Quiet b x.mk (vopF x e m b) := by
  cases x <;> first | (simp [XI.wr] at hw; done) | skip
  all_goals
    unfold vopF
    repeat' first
      | exact Quiet.none
      | exact Quiet.nil
      | exact Quiet.one
      | refine Quiet.bind fun _ => ?_
      | refine Quiet.ite ?_ ?_
      | unfold vopEqs
      | split

theorem mk_touch {x : XI} (h : x.mk = true) : x.touch = true := by cases x <;> first | rfl | (simp [XI.mk] at h)

/-- What it changes: a new object; or, where it writes, one that it sees. -/
theorem vopF_dom {x : XI} {p : PV} {d : Delta} (h : vopF x e m b = some (p, d)) : (x.touch = false → d = []) ∧ ∀ id o, (id, o) ∈ d → (id = b ∧ o.isSome ∧ x.mk = true) ∨ (x.wr = true ∧ (m id).isSome) := by
  by_cases hwr : x.wr = false
  · rcases vopF_quiet hwr p d h with rfl | ⟨ht, o, rfl⟩
    · exact ⟨fun _ => rfl, by simp⟩
    · refine ⟨fun h => absurd (mk_touch ht) (by simp [h]), fun id o' hm => ?_⟩
      simp at hm
      exact .inl ⟨hm.1, by simp [hm.2], ht⟩
  cases x <;> first | (exact absurd rfl hwr) | skip
  case appendL => simp [vopF] at h
  case mapUpd g ks x k v =>
    simp only [vopF, Option.bind_eq_some_iff] at h
    obtain ⟨p, hp, q, hq, v, hv, h⟩ := h
    cases p <;> try (simp only [reduceCtorEq] at h; done)
    rename_i id
    dsimp only at h
    cases hid : m id with
    | none => simp [hid] at h
    | some ob =>
      rw [hid] at h
      cases ob <;> try (simp only [reduceCtorEq] at h; done)
      simp only [Option.bind_eq_some_iff] at h
      obtain ⟨r, hr, h⟩ := h
      split at h
      case isFalse => cases h
      simp only [Option.some.injEq, Prod.mk.injEq] at h
      obtain ⟨_, rfl⟩ := h
      refine ⟨by simp [XI.touch], fun id' o hm => ?_⟩
      simp at hm
      obtain ⟨rfl, rfl⟩ := hm
      exact .inr ⟨rfl, by simp [hid]⟩
  case mapEnt g ks z x k =>
    simp only [vopF, Option.bind_eq_some_iff] at h
    obtain ⟨p, hp, q, hq, h⟩ := h
    cases p <;> try (simp only [reduceCtorEq] at h; done)
    rename_i id
    dsimp only at h
    cases hid : m id with
    | none => simp [hid] at h
    | some ob =>
      rw [hid] at h
      cases ob <;> try (simp only [reduceCtorEq] at h; done)
      simp only [Option.bind_eq_some_iff] at h
      obtain ⟨r, hr, h⟩ := h
      split at h
      case isFalse => cases h
      simp only [Option.some.injEq, Prod.mk.injEq] at h
      obtain ⟨_, rfl⟩ := h
      refine ⟨by simp [XI.touch], fun id' o hm => ?_⟩
      simp at hm
      obtain ⟨rfl, rfl⟩ := hm
      exact .inr ⟨rfl, by simp [hid]⟩
  case entSto x k v =>
    simp only [vopF, Option.bind_eq_some_iff] at h
    obtain ⟨p, hp, q, hq, v, hv, i, hi, h⟩ := h
    cases p <;> try (simp only [reduceCtorEq] at h; done)
    rename_i id
    dsimp only at h
    cases hid : m id with
    | none => simp [hid] at h
    | some ob =>
      rw [hid] at h
      cases ob <;> try (simp only [reduceCtorEq] at h; done)
      simp only [Option.bind_eq_some_iff] at h
      obtain ⟨r, hr, h⟩ := h
      split at h
      case isFalse => cases h
      simp only [Option.some.injEq, Prod.mk.injEq] at h
      obtain ⟨_, rfl⟩ := h
      refine ⟨by simp [XI.touch], fun id' o hm => ?_⟩
      simp at hm
      obtain ⟨rfl, rfl⟩ := hm
      exact .inr ⟨rfl, by simp [hid]⟩
  case append T k bytes s x =>
    simp only [vopF, Option.bind_eq_some_iff] at h
    obtain ⟨p, hp, q, hq, ys, hys, h⟩ := h
    cases p <;> try (simp only [reduceCtorEq] at h; done)
    rotate_left
    · dsimp only at h
      split at h
      case isFalse => cases h
      simp only [Option.some.injEq, Prod.mk.injEq] at h
      obtain ⟨_, rfl⟩ := h
      refine ⟨by simp [XI.touch], fun id' o hm => ?_⟩
      simp at hm
      obtain ⟨rfl, rfl⟩ := hm
      exact .inl ⟨rfl, rfl, rfl⟩
    rename_i id n
    dsimp only at h
    cases hid : m id with
    | none => simp [hid] at h
    | some ob =>
      rw [hid] at h
      cases ob <;> try (simp only [reduceCtorEq] at h; done)
      rename_i k' xs T' fz
      cases fz
      case true => simp only [reduceCtorEq] at h
      dsimp only at h
      split at h
      case isFalse => cases h
      simp only [Option.some.injEq, Prod.mk.injEq] at h
      obtain ⟨_, rfl⟩ := h
      refine ⟨by simp [XI.touch], fun id' o hm => ?_⟩
      simp at hm
      rcases hm with ⟨rfl, rfl⟩ | ⟨rfl, rfl⟩
      · exact .inr ⟨rfl, by simp [hid]⟩
      · exact .inl ⟨rfl, rfl, rfl⟩
  case store n x y =>
    simp only [vopF, Option.bind_eq_some_iff] at h
    obtain ⟨p, hp, q, hq, h⟩ := h
    cases p <;> try (simp only [reduceCtorEq] at h; done)
    rename_i id k i j
    dsimp only at h
    cases hid : m id with
    | none => simp [hid] at h
    | some ob =>
      rw [hid] at h
      have : ∃ o, d = [(id, some o)] := by
        cases ob with
        | map es => simp at h
        | iter => simp at h
        | loop => simp at h
        | box cs T =>
          dsimp only at h
          split at h
          case isFalse => cases h
          simp only [Option.some.injEq, Prod.mk.injEq] at h
          exact ⟨_, h.2.symm⟩
        | row k' xs T fz =>
          cases fz with
          | true => simp at h
          | false =>
            simp only [Option.bind_eq_some_iff] at h
            obtain ⟨q', hq', r, hr, h⟩ := h
            split at h
            case isFalse => cases h
            simp only [Option.some.injEq, Prod.mk.injEq] at h
            exact ⟨_, h.2.symm⟩
      obtain ⟨ob', rfl⟩ := this
      refine ⟨by simp [XI.touch], fun id' o hm => ?_⟩
      simp at hm
      obtain ⟨rfl, rfl⟩ := hm
      exact .inr ⟨rfl, by simp [hid]⟩

end
end Go.Vx
