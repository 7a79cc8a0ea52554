/- The engine, part 5: the operations that leave memory alone. -/
import Derived.Test.YtgkkffhoflgpoaaVd
set_option linter.unusedVariables false
set_option linter.unusedSimpArgs false
namespace Go.Vx
open Go Go.RowKit

section
variable {P : Program} {F : Fr} {β : Ids} {ok : Nat → Prop} {e : Nat → Option PV} {m : Mem} {a : Act} {w : World} {b : Nat} {o : Oper} {p : PV} {d : Delta}

theorem exec_value {s : Sem Value} {v : Value} (h : s.run P w = .ok v w) : ((do pure (Next.value (← s))) : Sem Next).run P w = .ok (.value v) w := by
  simp [h]

theorem op_mv (hs : Sat0 F β ok e m a w) {X : Operand} {x : XA} (ho : o.op = .move X ∨ o.op = .assign X) (hx : cA X = some x) (h : vopF (.mv x) e m b = some (p, d)) :
    OpOk P F β ok e m a w b o p d := by
  simp only [vopF, Option.bind_eq_some_iff] at h
  obtain ⟨q, hq, h⟩ := h
  simp at h
  obtain ⟨rfl, rfl⟩ := h
  refine .value hs ?_ (ev_rep hs hx hq)
  rcases ho with ho | ho <;> simp [execOp, ho]

theorem op_pick (hs : Sat0 F β ok e m a w) {C X Y : Operand} {c x y : XA} (ho : o.op = .pick C X Y) (hc : cA C = some c) (hx : cA X = some x) (hy : cA Y = some y)
    (h : vopF (.pick c x y) e m b = some (p, d)) : OpOk P F β ok e m a w b o p d := by
  simp only [vopF, Option.bind_eq_some_iff] at h
  obtain ⟨q, hq, h⟩ := h
  have hrc := ev_rep hs hc hq
  cases q <;> simp only [Option.bind_eq_some_iff, reduceCtorEq] at h
  rename_i t
  obtain ⟨q, hq, h⟩ := h
  simp at h
  obtain ⟨rfl, rfl⟩ := h
  generalize hv : a.eval C = vc at hrc
  cases hrc
  cases t
  · refine .value hs (v := a.eval Y) ?_ (ev_rep hs hy (by simpa using hq))
    simp [execOp, ho, hv, asBool]
  · refine .value hs (v := a.eval X) ?_ (ev_rep hs hx (by simpa using hq))
    simp [execOp, ho, hv, asBool]

theorem op_ext (hs : Sat0 F β ok e m a w) {X : Operand} {x : XA} {i : Nat} (ho : o.op = .extract X i) (hx : cA X = some x)
    (h : vopF (.ext i x) e m b = some (p, d)) : OpOk P F β ok e m a w b o p d := by
  simp only [vopF, Option.bind_eq_some_iff] at h
  obtain ⟨q, hq, h⟩ := h
  have hr := ev_rep hs hx hq
  cases q <;> simp only [Option.bind_eq_some_iff, reduceCtorEq] at h
  rename_i vs
  obtain ⟨q, hq, h⟩ := h
  simp at h
  obtain ⟨rfl, rfl⟩ := h
  generalize hv : a.eval X = vx at hr
  cases hr with
  | tup cs us hl hj =>
    have hi : i < us.length := by rw [hl]; exact (List.getElem?_eq_some_iff.1 hq).1
    refine .value hs (v := us[i]) ?_ (hj i _ _ hq (by simp [hi]))
    simp [execOp, ho, hv, Instr.extract, hi]

theorem op_not (hs : Sat0 F β ok e m a w) {X : Operand} {x : XA} {t : TypeId} (ho : o.op = .unOp .not t X) (hx : cA X = some x)
    (h : vopF (.not x) e m b = some (p, d)) : OpOk P F β ok e m a w b o p d := by
  simp only [vopF, Option.bind_eq_some_iff] at h
  obtain ⟨q, hq, h⟩ := h
  have hr := ev_rep hs hx hq
  cases q <;> simp at h
  obtain ⟨rfl, rfl⟩ := h
  generalize hv : a.eval X = vx at hr
  cases hr
  exact .value hs (by simp [execOp, ho, hv, Op.unary]) (.bool _)

theorem op_neg (hs : Sat0 F β ok e m a w) {X : Operand} {x : XA} {t : TypeId} (ho : o.op = .unOp .neg t X) (hx : cA X = some x)
    (h : vopF (.neg x) e m b = some (p, d)) : OpOk P F β ok e m a w b o p d := by
  simp only [vopF, Option.bind_eq_some_iff] at h
  obtain ⟨q, hq, h⟩ := h
  have hr := ev_rep hs hx hq
  cases q <;> simp at h
  obtain ⟨rfl, rfl⟩ := h
  generalize hv : a.eval X = vx at hr
  cases hr
  refine .value hs (v := .int _ _) ?_ (.int _ _)
  simp [execOp, ho, hv, Op.unary, Op.intArith]

theorem op_conv (hs : Sat0 F β ok e m a w) {X : Operand} {x : XA} {s t : TypeId} {k j : IntKind} (ho : o.op = .convert s t X) (hsk : P.underlying s = some (.int j)) (ht : P.underlying t = some (.int k)) (hx : cA X = some x)
    (h : vopF (.conv k x) e m b = some (p, d)) : OpOk P F β ok e m a w b o p d := by
  simp only [vopF, Option.bind_eq_some_iff] at h
  obtain ⟨q, hq, h⟩ := h
  have hr := ev_rep hs hx hq
  cases q <;> simp at h
  obtain ⟨rfl, rfl⟩ := h
  generalize hv : a.eval X = vx at hr
  cases hr
  refine .value hs (v := .int _ _) ?_ (.int _ _)
  simp [execOp, ho, hv, convert, run_und hsk, run_und ht, Conv.intToInt]

theorem op_lenS (hs : Sat0 F β ok e m a w) {X : Operand} {x : XA} {t el : TypeId} (ho : o.op = .call { callee := .builtin .len, args := #[X], argTypes := #[t] })
    (ht : P.underlying t = some (.slice el)) (hx : cA X = some x) (h : vopF (.lenS x) e m b = some (p, d)) : OpOk P F β ok e m a w b o p d := by
  simp only [vopF, Option.bind_eq_some_iff] at h
  obtain ⟨q, hq, h⟩ := h
  have hr := ev_rep hs hx hq
  generalize hv : a.eval X = vx at hr
  cases q <;> simp at h <;> obtain ⟨rfl, rfl⟩ := h <;> cases hr <;>
    exact .value hs (v := .int _ _) (by simp [execOp, ho, hv, resolve, invoke, builtin, Builtin.len_, run_und ht, goInt]) (.int _ _)

theorem op_lenT (hs : Sat0 F β ok e m a w) {X : Operand} {x : XA} {t : TypeId} (ho : o.op = .call { callee := .builtin .len, args := #[X], argTypes := #[t] })
    (ht : P.underlying t = some .string) (hx : cA X = some x) (h : vopF (.lenT x) e m b = some (p, d)) : OpOk P F β ok e m a w b o p d := by
  simp only [vopF, Option.bind_eq_some_iff] at h
  obtain ⟨q, hq, h⟩ := h
  have hr := ev_rep hs hx hq
  generalize hv : a.eval X = vx at hr
  cases q <;> simp at h <;> obtain ⟨rfl, rfl⟩ := h <;> cases hr <;>
    exact .value hs (v := .int _ _) (by simp only [execOp, ho, resolve, invoke, builtin, Builtin.len_, List.map_toArray, List.map_cons, List.map_nil, hv, Sem.run_bind, Sem.run_pure, Result.andThen_ok, List.getElem?_toArray, List.getElem?_cons_zero, run_und ht]; rfl) (.int _ _)

theorem op_max2 (hs : Sat0 F β ok e m a w) {X Y : Operand} {x y : XA} {ts : Array TypeId} (ho : o.op = .call { callee := .builtin .max, args := #[X, Y], argTypes := ts })
    (hx : cA X = some x) (hy : cA Y = some y) (h : vopF (.max2 x y) e m b = some (p, d)) : OpOk P F β ok e m a w b o p d := by
  simp only [vopF, Option.bind_eq_some_iff] at h
  obtain ⟨q, hq, r, hr, h⟩ := h
  have h1 := ev_rep hs hx hq
  have h2 := ev_rep hs hy hr
  generalize hv : a.eval X = vx at h1
  generalize hu : a.eval Y = vy at h2
  cases q <;> cases r <;> simp at h
  obtain ⟨rfl, rfl⟩ := h
  cases h1
  cases h2
  refine .value hs (v := .int _ _) ?_ (.int _ _)
  simp [execOp, ho, hv, hu, resolve, invoke, builtin, Builtin.max_, Builtin.max2]
  omega

theorem op_min2 (hs : Sat0 F β ok e m a w) {X Y : Operand} {x y : XA} {ts : Array TypeId} (ho : o.op = .call { callee := .builtin .min, args := #[X, Y], argTypes := ts })
    (hx : cA X = some x) (hy : cA Y = some y) (h : vopF (.min2 x y) e m b = some (p, d)) : OpOk P F β ok e m a w b o p d := by
  simp only [vopF, Option.bind_eq_some_iff] at h
  obtain ⟨q, hq, r, hr, h⟩ := h
  have h1 := ev_rep hs hx hq
  have h2 := ev_rep hs hy hr
  generalize hv : a.eval X = vx at h1
  generalize hu : a.eval Y = vy at h2
  cases q <;> cases r <;> simp at h
  obtain ⟨rfl, rfl⟩ := h
  cases h1
  cases h2
  refine .value hs (v := .int _ _) ?_ (.int _ _)
  simp [execOp, ho, hv, hu, resolve, invoke, builtin, Builtin.min_, Builtin.min2]
  omega

theorem run_intOp {op : BinOp} {k : IntKind} {x y : Int} (h : intOp op k x y = some p) (t : TypeId) : ∃ v, (binOp op t (.int k x) (.int k y)).run P w = .ok v w ∧ Rep w ok β p v := by
  cases op <;> simp only [intOp, reduceCtorEq, Option.some.injEq] at h
  case quo =>
    split at h <;> simp at h
    subst h
    rename_i hne
    exact ⟨.int _ _, by simp only [binOp, ne_eq, not_true_eq_false, if_false, Op.intDiv, if_neg hne]; rfl, .int _ _⟩
  case rem =>
    split at h <;> simp at h
    subst h
    rename_i hne
    exact ⟨.int _ _, by simp only [binOp, ne_eq, not_true_eq_false, if_false, Op.intDiv, if_neg hne]; rfl, .int _ _⟩
  case eql => subst h; exact ⟨.bool _, by simp only [binOp, ne_eq, not_true_eq_false, if_false, Op.intCmp]; rfl, by rw [show (x == y) = decide (x = y) from rfl]; exact .bool _⟩
  case neq => subst h; exact ⟨.bool _, by simp only [binOp, ne_eq, not_true_eq_false, if_false, Op.intCmp]; rfl, by rw [show (x != y) = decide (x ≠ y) by by_cases hxy : x = y <;> simp [hxy, bne]]; exact .bool _⟩
  all_goals subst h
  all_goals first
    | exact ⟨.int _ _, by simp only [binOp, ne_eq, not_true_eq_false, if_false]; rfl, .int _ _⟩
    | exact ⟨.bool _, by simp only [binOp, ne_eq, not_true_eq_false, if_false]; rfl, .bool _⟩

theorem run_shOp {op : BinOp} {k k' : IntKind} {x y : Int} (h : shOp op k x y = some p) (t : TypeId) : ∃ v, (binOp op t (.int k x) (.int k' y)).run P w = .ok v w ∧ Rep w ok β p v := by
  cases op <;> simp only [shOp, reduceCtorEq] at h <;> split at h <;> simp at h <;> subst h <;> rename_i hy
  · exact ⟨.int _ _, by simp only [binOp, Op.shift, if_neg (show ¬ y < 0 by omega)]; rfl, .int _ _⟩
  · exact ⟨.int _ _, by simp only [binOp, Op.shift, if_neg (show ¬ y < 0 by omega)]; rfl, .int _ _⟩

theorem beqL (x y : List UInt8) : (x == y) = decide (x = y) := by
  by_cases h : x = y <;> simp [h]

theorem run_strOp {op : BinOp} {x y : List UInt8} (h : strOp op x y = some p) (t : TypeId) : ∃ v, (binOp op t (.string ⟨x.toArray⟩) (.string ⟨y.toArray⟩)).run P w = .ok v w ∧ Rep w ok β p v := by
  have hsz : ∀ l : List UInt8, (⟨l.toArray⟩ : ByteArray).size = l.length := fun l => by simp [ByteArray.size]
  cases op <;> simp only [strOp, reduceCtorEq, Option.some.injEq] at h
  case add =>
    split at h <;> simp at h
    subst h
    rename_i hl
    refine ⟨.string ⟨(x ++ y).toArray⟩, ?_, .str _⟩
    simp only [binOp, Op.stringOp, hsz]
    rw [if_neg (by omega)]
    rw [show ((⟨x.toArray⟩ : ByteArray) ++ ⟨y.toArray⟩) = ⟨(x ++ y).toArray⟩ from by apply ByteArray.ext; simp]
    rfl
  all_goals
    subst h
    refine ⟨.bool _, by simp only [binOp, Op.stringOp, ByteArray.toList_mk]; rfl, ?_⟩
    first
      | exact .bool _
      | (rw [beqL]; exact .bool _)
      | (rw [beqL, ← decide_not]; exact .bool _)

theorem run_binF {op : BinOp} {q r : PV} {u v : Value} (h : binF op q r = some p) (hq : Rep w ok β q u) (hr : Rep w ok β r v) (t : TypeId) (X Y : Operand) :
    ∃ v', (do eqGuard op t X Y u v; binOp op t u v).run P w = .ok v' w ∧ Rep w ok β p v' := by
  cases q <;> cases r <;> unfold binF at h <;> try (simp only [reduceCtorEq] at h; done)
  · rename_i k x k' y
    cases hq
    cases hr
    have hg : (eqGuard op t X Y (.int k x) (.int k' y)).run P w = .ok () w := by cases op <;> rfl
    simp only [Sem.run_bind, hg, Result.andThen_ok]
    by_cases hk : k = k'
    · subst hk
      cases op <;> first | exact run_shOp h t | exact run_intOp (by simpa using h) t
    · cases op <;> first | exact run_shOp h t | (simp [hk] at h)
  · rename_i x y
    cases hq
    cases hr
    have hg : (eqGuard op t X Y (.string ⟨x.toArray⟩) (.string ⟨y.toArray⟩)).run P w = .ok () w := by cases op <;> rfl
    simp only [Sem.run_bind, hg, Result.andThen_ok]
    exact run_strOp h t

theorem op_bin (hs : Sat0 F β ok e m a w) {X Y : Operand} {x y : XA} {op : BinOp} {t u : TypeId} (ho : o.op = .binOp op t X Y u)
    (hx : cA X = some x) (hy : cA Y = some y) (h : vopF (.bin op x y) e m b = some (p, d)) : OpOk P F β ok e m a w b o p d := by
  simp only [vopF, Option.bind_eq_some_iff] at h
  obtain ⟨q, hq, r, hr, z, hz, h⟩ := h
  simp at h
  obtain ⟨rfl, rfl⟩ := h
  obtain ⟨v, hv, hp⟩ := run_binF (P := P) hz (ev_rep hs hx hq) (ev_rep hs hy hr) t X Y
  refine .value hs (v := v) ?_ hp
  simp only [execOp, ho]
  exact exec_value hv

theorem run_eqBool {t : TypeId} (ht : P.underlying t = some .bool) (c d : Bool) : (Op.equal t (.bool c) (.bool d)).run P w = .ok (c == d) w := by
  have h : ∀ n, (Op.equalIn (n + 1) t (.bool c) (.bool d)).run P w = .ok (c == d) w := fun n => by
    simp only [Op.equalIn, Sem.run_bind, run_und ht, Result.andThen_ok]; rfl
  exact h 9999

theorem run_eqNil {t el : TypeId} (ht : P.underlying t = some (.pointer el)) (c : Option Addr) : (Op.equal t (.pointer none) (.pointer c)).run P w = .ok c.isNone w := by
  have h : ∀ n, (Op.equalIn (n + 1) t (.pointer none) (.pointer c)).run P w = .ok c.isNone w := fun n => by
    simp only [Op.equalIn, Sem.run_bind, run_und ht, Result.andThen_ok]; rfl
  exact h 9999
theorem run_eqNil' {t el : TypeId} (ht : P.underlying t = some (.pointer el)) (c : Addr) : (Op.equal t (.pointer (some c)) (.pointer none)).run P w = .ok false w := by
  have h : ∀ n, (Op.equalIn (n + 1) t (.pointer (some c)) (.pointer none)).run P w = .ok false w := fun n => by
    simp only [Op.equalIn, Sem.run_bind, run_und ht, Result.andThen_ok]; rfl
  exact h 9999

theorem op_eqb (hs : Sat0 F β ok e m a w) {X Y : Operand} {x y : XA} {neg : Bool} {t u : TypeId} (ho : o.op = .binOp (if neg then .neq else .eql) t X Y u) (ht : P.underlying t = some .bool)
    (hx : cA X = some x) (hy : cA Y = some y) (h : vopF (.eqb neg x y) e m b = some (p, d)) : OpOk P F β ok e m a w b o p d := by
  simp only [vopF, Option.bind_eq_some_iff] at h
  obtain ⟨q, hq, r, hr, h⟩ := h
  have h1 := ev_rep hs hx hq
  have h2 := ev_rep hs hy hr
  generalize hv : a.eval X = vx at h1
  generalize hu : a.eval Y = vy at h2
  cases q <;> cases r <;> simp at h
  obtain ⟨rfl, rfl⟩ := h
  cases h1
  cases h2
  rename_i c d
  refine .value hs (v := .bool _) ?_ (.bool _)
  have hg : ∀ op, (eqGuard op t X Y (.bool c) (.bool d)).run P w = .ok () w := fun op => by cases op <;> rfl
  cases neg <;> simp only [execOp, ho, hv, hu, Bool.false_eq_true, if_false, if_true, binOp, Sem.run_bind, hg, Result.andThen_ok, run_eqBool ht, Sem.run_pure] <;> cases c <;> cases d <;> rfl

theorem op_eqp (hs : Sat0 F β ok e m a w) {X Y : Operand} {x y : XA} {neg : Bool} {t u el : TypeId} (ho : o.op = .binOp (if neg then .neq else .eql) t X Y u) (ht : P.underlying t = some (.pointer el))
    (hx : cA X = some x) (hy : cA Y = some y) (h : vopF (.eqp neg x y) e m b = some (p, d)) : OpOk P F β ok e m a w b o p d := by
  simp only [vopF, Option.bind_eq_some_iff] at h
  obtain ⟨q, hq, r, hr, h⟩ := h
  have h1 := ev_rep hs hx hq
  have h2 := ev_rep hs hy hr
  generalize hv : a.eval X = vx at h1
  generalize hu : a.eval Y = vy at h2
  have hg : ∀ op c d, (eqGuard op t X Y (.pointer c) (.pointer d)).run P w = .ok () w := fun op c d => by cases op <;> rfl
  cases q <;> cases r <;> simp at h <;> obtain ⟨rfl, rfl⟩ := h <;> cases h1 <;> cases h2 <;>
    (refine .value hs (v := .bool _) ?_ (.bool _); cases neg <;> simp only [execOp, ho, hv, hu, Bool.false_eq_true, if_false, if_true, binOp, Sem.run_bind, hg, Result.andThen_ok, run_eqNil ht, run_eqNil' ht, Sem.run_pure] <;> rfl)

end
end Go.Vx
