/- The engine, part 11: struct equality, append. -/
import Derived.Test.YtgkkffhoflgpoaaVj
import Derived.Laws.StructEq
set_option linter.unusedVariables false
set_option linter.unusedSimpArgs false
namespace Go.Vx
open Go Go.RowKit

section
variable {P : Program} {F : Fr} {β : Ids} {ok : Nat → Prop} {e : Nat → Option PV} {m : Mem} {a : Act} {w : World} {b : Nat} {o : Oper} {p : PV} {d : Delta}

theorem eqCells_len : ∀ {ks cs ds : List PV} {r : Bool}, eqCells ks cs ds = some r → cs.length = ks.length ∧ ds.length = ks.length
  | [], [], [], r, _ => ⟨rfl, rfl⟩
  | k :: ks, c :: cs, d :: ds, r, h => by
    simp only [eqCells, Option.bind_eq_some_iff] at h
    obtain ⟨_, _, r', h', _⟩ := h
    obtain ⟨h1, h2⟩ := eqCells_len h'
    simp [h1, h2]
  | [], [], _ :: _, r, h => by simp [eqCells] at h
  | [], _ :: _, _, r, h => by simp [eqCells] at h
  | k :: _, [], _, r, h => by simp [eqCells] at h
  | k :: _, c :: _, [], r, h => by simp [eqCells] at h

theorem eqCells_append : ∀ {ks ks' cs ds : List PV} {r : Bool}, eqCells (ks ++ ks') cs ds = some r →
    ∃ r1 r2, eqCells ks (cs.take ks.length) (ds.take ks.length) = some r1 ∧ eqCells ks' (cs.drop ks.length) (ds.drop ks.length) = some r2 ∧ r = (r1 && r2)
  | [], ks', cs, ds, r, h => ⟨true, r, by simp [eqCells], by simpa using h, by simp⟩
  | k :: ks, ks', [], ds, r, h => by simp [eqCells] at h
  | k :: ks, ks', c :: cs, [], r, h => by simp [eqCells] at h
  | k :: ks, ks', c :: cs, d :: ds, r, h => by
    simp only [List.cons_append, eqCells, Option.bind_eq_some_iff] at h
    obtain ⟨x, hx, r', h, hr⟩ := h
    obtain ⟨r1, r2, h1, h2, rfl⟩ := eqCells_append h
    refine ⟨x && r1, r2, ?_, by simpa using h2, ?_⟩
    · simp only [List.length_cons, List.take_succ_cons, eqCells, hx, h1, Option.bind_some]
    · simp at hr; rw [← hr, Bool.and_assoc]

theorem eqCells_one {k : PV} {cs ds : List PV} {r : Bool} (h : eqCells [k] cs ds = some r) : ∃ c d, cs = [c] ∧ ds = [d] ∧ eq1 k c d = some r := by
  obtain ⟨h1, h2⟩ := eqCells_len h
  match cs, ds, h1, h2 with
  | [c], [d], _, _ =>
    simp only [eqCells, Option.bind_eq_some_iff] at h
    obtain ⟨x, hx, r', hr', h⟩ := h
    simp at hr' h
    subst hr'
    simp at h
    subst h
    exact ⟨c, d, rfl, rfl, hx⟩

theorem eq1_bool {z : Bool} {c d : PV} {r : Bool} (h : eq1 (.bool z) c d = some r) : ∃ x y, c = .bool x ∧ d = .bool y ∧ r = decide (x = y) := by
  cases c <;> first | (simp [eq1] at h; done) | (cases d <;> first | (simp [eq1] at h; done) | (simp only [eq1, Option.some.injEq] at h; exact ⟨_, _, rfl, rfl, h.symm⟩))
theorem eq1_str {z : List UInt8} {c d : PV} {r : Bool} (h : eq1 (.str z) c d = some r) : ∃ x y, c = .str x ∧ d = .str y ∧ r = decide (x = y) := by
  cases c <;> first | (simp [eq1] at h; done) | (cases d <;> first | (simp [eq1] at h; done) | (simp only [eq1, Option.some.injEq] at h; exact ⟨_, _, rfl, rfl, h.symm⟩))
theorem eq1_int {k : IntKind} {z : Int} {c d : PV} {r : Bool} (h : eq1 (.int k z) c d = some r) : ∃ x y, c = .int k x ∧ d = .int k y ∧ r = decide (x = y) := by
  cases c <;> first | (simp [eq1] at h; done) | skip
  cases d <;> first | (simp [eq1] at h; done) | skip
  simp only [eq1] at h
  split at h
  · rename_i hk
    obtain ⟨rfl, rfl⟩ := hk
    simp only [Option.some.injEq] at h
    exact ⟨_, _, rfl, rfl, h.symm⟩
  · cases h

/-- The value of a type over its cells. -/
def valOf (P : Program) (t : TypeId) (vs : List Value) : Value := if tyAgg P t = some true then .agg vs.toArray else vs.headD undef

theorem part_val {t : TypeId} {vs : List Value} {off n : Nat} (hn : tySize P t = some n) (hle : off + n ≤ vs.length) (h1 : tyAgg P t = some true ∨ (tyAgg P t = some false ∧ n = 1)) :
    (part t vs.toArray off).run P w = .ok (valOf P t ((vs.drop off).take n)) w := by
  rcases h1 with h1 | ⟨h1, rfl⟩
  · rw [part_agg h1 hn]
    simp [valOf, h1, List.extract_eq_take_drop]
  · have hlt : off < vs.length := by omega
    rw [part_one (v := vs[off]) h1 (by simp [hlt])]
    congr 1
    simp only [valOf, h1]
    rw [if_neg (by simp), List.drop_eq_getElem_cons hlt]
    rfl

theorem scal_kind {dd : Nat} {t : TypeId} {ks : List PV} (h : scal P dd t = some ks) : tyAgg P t = some true ∨ (tyAgg P t = some false ∧ ks.length = 1) := by
  cases dd with
  | zero => simp [scal] at h
  | succ dd =>
    simp only [scal] at h
    unfold tyAgg
    split at h <;> rename_i hu <;> simp_all
    all_goals (subst h; rfl)

theorem eq_scal : ∀ (dd : Nat) (t : TypeId) (ks : List PV), scal P dd t = some ks → ∀ (n : Nat), dd ≤ n → ∀ (cs ds : List PV) (vs us : List Value) (r : Bool), vs.length = cs.length → us.length = ds.length →
    (∀ (j : Nat) c v, cs[j]? = some c → vs[j]? = some v → Rep w ok β c v) → (∀ (j : Nat) c v, ds[j]? = some c → us[j]? = some v → Rep w ok β c v) → eqCells ks cs ds = some r →
    (Op.equalIn n t (valOf P t vs) (valOf P t us)).run P w = .ok r w
  | 0, t, ks, h, _, _, _, _, _, _, _, _, _, _, _, _ => by simp [scal] at h
  | dd + 1, t, ks, h, n, hn, cs, ds, vs, us, r, hl1, hl2, hr1, hr2, he => by
    obtain ⟨n, rfl⟩ : ∃ q, n = q + 1 := ⟨n - 1, by omega⟩
    simp only [scal] at h
    split at h <;> rename_i hu
    · simp at h; subst h
      obtain ⟨c, d, rfl, rfl, he1⟩ := eqCells_one he
      obtain ⟨x, y, rfl, rfl, rfl⟩ := eq1_bool he1
      match vs, us, hl1, hl2 with
      | [v], [u], _, _ =>
        have h1 := hr1 0 _ v rfl rfl
        have h2 := hr2 0 _ u rfl rfl
        have hvv : ∀ v, valOf P t [v] = v := fun v => by simp [valOf, tyAgg, hu]
        rw [hvv, hvv]
        cases h1
        cases h2
        rw [run_equalIn_bool' w n t x y hu]
        cases x <;> cases y <;> rfl
    · rename_i k
      simp at h; subst h
      obtain ⟨c, d, rfl, rfl, he1⟩ := eqCells_one he
      obtain ⟨x, y, rfl, rfl, rfl⟩ := eq1_int he1
      match vs, us, hl1, hl2 with
      | [v], [u], _, _ =>
        have h1 := hr1 0 _ v rfl rfl
        have h2 := hr2 0 _ u rfl rfl
        have hvv : ∀ v, valOf P t [v] = v := fun v => by simp [valOf, tyAgg, hu]
        rw [hvv, hvv]
        cases h1
        cases h2
        rw [run_equalIn_int w n t _ _ _ _ hu]
        rfl
    · simp at h; subst h
      obtain ⟨c, d, rfl, rfl, he1⟩ := eqCells_one he
      obtain ⟨x, y, rfl, rfl, rfl⟩ := eq1_str he1
      match vs, us, hl1, hl2 with
      | [v], [u], _, _ =>
        have h1 := hr1 0 _ v rfl rfl
        have h2 := hr2 0 _ u rfl rfl
        have hvv : ∀ v, valOf P t [v] = v := fun v => by simp [valOf, tyAgg, hu]
        rw [hvv, hvv]
        cases h1
        cases h2
        rw [run_equalIn_string w n t _ _ hu, ByteArray.toList_mk, ByteArray.toList_mk, beqL]
    · rename_i fs
      split at h
      case isTrue => cases h
      rename_i hg
      have hp : P.stoodInHeld t = false := by
        cases hh : P.stoodInHeld t
        · rfl
        · exact absurd (.inl hh) hg
      have hfo : P.fieldsOf t = fs := by simp [Program.fieldsOf, hu]
      simp only [valOf, tyAgg, hu, if_true]
      rw [run_equalIn_struct (P := P) w n t _ _ (by rw [hfo]; exact hu) hp, hfo]
      have key : ∀ (l : List Field) (off : Nat) (ks : List PV) (r : Bool), scalFs P (scal P dd) off l = some ks → off ≤ cs.length → off ≤ ds.length → eqCells ks (cs.drop off) (ds.drop off) = some r →
          (Op.eqFields n vs.toArray us.toArray l).run P w = .ok r w := by
        intro l
        induction l with
        | nil =>
          intro off ks r hk _ _ he
          simp [scalFs] at hk; subst hk
          obtain ⟨h1, h2⟩ := eqCells_len he
          have e1 : cs.drop off = [] := List.eq_nil_of_length_eq_zero (by simpa using h1)
          have e2 : ds.drop off = [] := List.eq_nil_of_length_eq_zero (by simpa using h2)
          rw [e1, e2] at he
          simp [eqCells] at he; subst he
          simp [Op.eqFields]
        | cons f l ih =>
          intro off ks r hk ho1 ho2 he
          simp only [scalFs] at hk
          split at hk
          case isTrue => cases hk
          rename_i hno
          simp only [Option.bind_eq_some_iff] at hk
          obtain ⟨kf, hkf, hk⟩ := hk
          split at hk
          case isFalse => cases hk
          rename_i hsz
          simp only [Option.map_eq_some_iff] at hk
          obtain ⟨kr, hkr, rfl⟩ := hk
          obtain ⟨r1, r2, e1, e2, rfl⟩ := eqCells_append he
          obtain ⟨l1, l2⟩ := eqCells_len e1
          simp only [List.length_take, List.length_drop] at l1 l2
          have hoff : f.offset = off := by
            rcases Nat.decEq f.offset off with h | h
            · exact absurd (.inr h) hno
            · exact h
          have hne : f.name ≠ "_" := fun h => hno (.inl h)
          have hkind := scal_kind hkf
          have q1 : (Op.equalIn n f.type (valOf P f.type ((vs.drop off).take kf.length)) (valOf P f.type ((us.drop off).take kf.length))).run P w = .ok r1 w := by
            refine eq_scal dd f.type kf hkf n (by omega) ((cs.drop off).take kf.length) ((ds.drop off).take kf.length) _ _ r1 (by simp; omega) (by simp; omega) (fun j c v hc hv => ?_) (fun j c v hc hv => ?_) e1
            · have hj : j < kf.length := by have := (List.getElem?_eq_some_iff.1 hc).1; simp at this; omega
              rw [List.getElem?_take_of_lt hj, List.getElem?_drop] at hc hv
              exact hr1 _ c v hc hv
            · have hj : j < kf.length := by have := (List.getElem?_eq_some_iff.1 hc).1; simp at this; omega
              rw [List.getElem?_take_of_lt hj, List.getElem?_drop] at hc hv
              exact hr2 _ c v hc hv
          have p1 := part_val (P := P) (w := w) (vs := vs) (off := off) hsz (by omega) hkind
          have p2 := part_val (P := P) (w := w) (vs := us) (off := off) hsz (by omega) hkind
          have hrest := ih (off + kf.length) kr r2 hkr (by omega) (by omega) (by rw [← List.drop_drop, ← List.drop_drop]; exact e2)
          rw [Op.eqFields]
          simp only [if_pos hne, hoff, Sem.run_bind, p1, p2, q1, Result.andThen_ok]
          cases r1
          · simp
          · simpa using hrest
      exact key fs.toList 0 ks r h (Nat.zero_le _) (Nat.zero_le _) (by simpa using he)
    · cases h

theorem scal_guard {dd : Nat} {t : TypeId} {ks : List PV} {fs : Array Field} (hu : P.underlying t = some (.struct fs)) (hk : scal P dd t = some ks) : P.eqGuardType P.depth t = false := by
  cases dd with
  | zero => simp [scal] at hk
  | succ dd =>
    simp only [scal, hu] at hk
    split at hk
    case isTrue => cases hk
    rename_i hg
    cases hh : P.eqGuardType P.depth t
    · rfl
    · exact absurd (.inr hh) hg

theorem op_eqs (hs : Sat0 F β ok e m a w) {X Y : Operand} {x y : XA} {neg : Bool} {t u : TypeId} {fs : Array Field} {ks : List PV} (ho : o.op = .binOp (if neg then .neq else .eql) t X Y u) (hu : P.underlying t = some (.struct fs)) (hk : scal P 20 t = some ks)
    (hx : cA X = some x) (hy : cA Y = some y) (h : vopF (.eqs neg ks x y) e m b = some (p, d)) : OpOk P F β ok e m a w b o p d := by
  simp only [vopF, Option.bind_eq_some_iff] at h
  obtain ⟨q, hq, r, hr, h⟩ := h
  have h1 := ev_rep hs hx hq
  have h2 := ev_rep hs hy hr
  generalize hv : a.eval X = vx at h1
  generalize hw : a.eval Y = vy at h2
  unfold vopEqs at h
  split at h
  case h_2 => cases h
  rename_i cs ds
  simp only [Option.bind_eq_some_iff] at h
  obtain ⟨r, hr', h⟩ := h
  simp only [Option.some.injEq, Prod.mk.injEq] at h
  obtain ⟨rfl, rfl⟩ := h
  cases h1 with
  | agg _ vs hl1 h11 hr1 =>
    cases h2 with
    | agg _ us hl2 h22 hr2 =>
      have hgt := scal_guard hu hk
      have heq := eq_scal 20 t ks hk 10000 (by omega) cs ds vs us r hl1 hl2 hr1 hr2 hr'
      simp only [valOf, tyAgg, hu, if_true] at heq
      refine .value hs (v := .bool _) ?_ (.bool _)
      simp only [execOp, ho]
      refine exec_value ?_
      cases neg
      · simp only [Bool.false_eq_true, if_false, hv, hw, Sem.run_bind, run_eqGuard_agg w _ t X Y _ _ hgt, Result.andThen_ok, run_eql_struct w t, heq]
      · simp only [if_true, hv, hw, Sem.run_bind, run_eqGuard_agg w _ t X Y _ _ hgt, Result.andThen_ok, run_neq_struct w t, heq]

end
end Go.Vx
