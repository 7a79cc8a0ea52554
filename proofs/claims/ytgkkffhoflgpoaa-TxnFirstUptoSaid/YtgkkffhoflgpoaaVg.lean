/- The engine, part 7: the operations that make objects or write them. -/
import Derived.Test.YtgkkffhoflgpoaaVf
import Derived.Maps.AppendAt
set_option linter.unusedVariables false
set_option linter.unusedSimpArgs false
namespace Go.Vx
open Go Go.RowKit

section
variable {P : Program} {F : Fr} {β : Ids} {ok : Nat → Prop} {e : Nat → Option PV} {m : Mem} {a : Act} {w : World} {b : Nat} {o : Oper} {p : PV} {d : Delta}

theorem Rep.cells {v : Value} (h : Rep w ok β p v) (hn : p.nt = true) : v.cells.toList.length = p.cells.length ∧ (∀ c ∈ p.cells, c.one = true) ∧
    ∀ (j : Nat) c u, p.cells[j]? = some c → v.cells.toList[j]? = some u → Rep w ok β c u := by
  have one : ∀ {p : PV} {v : Value}, Rep w ok β p v → p.one = true → p.cells = [p] → v.cells = #[v] → v.cells.toList.length = p.cells.length ∧ (∀ c ∈ p.cells, c.one = true) ∧
    ∀ (j : Nat) c u, p.cells[j]? = some c → v.cells.toList[j]? = some u → Rep w ok β c u := by
    intro p v h h1 h2 h3
    refine ⟨by simp [h2, h3], by simp [h2, h1], fun j c u hc hu => ?_⟩
    rw [h2] at hc
    rw [h3] at hu
    cases j with
    | zero => simp at hc hu; subst hc; subst hu; exact h
    | succ j => simp at hc
  cases h with
  | tup cs vs hl hr => simp [PV.nt] at hn
  | agg cs vs hl h1 hr => exact ⟨by simp [Value.cells, PV.cells, hl], h1, fun j c u hc hu => hr j c u hc (by simpa [Value.cells] using hu)⟩
  | bool b => exact one (.bool b) rfl rfl rfl
  | int k n => exact one (.int k n) rfl rfl rfl
  | str s => exact one (.str s) rfl rfl rfl
  | nilp => exact one .nilp rfl rfl rfl
  | nilm => exact one .nilm rfl rfl rfl
  | nilf => exact one .nilf rfl rfl rfl
  | ptr id k i j bl cap h => exact one (.ptr id k i j bl cap h) rfl rfl rfl
  | cptr cs A f hs hok h1 hc hr => exact one (.cptr cs A f hs hok h1 hc hr) rfl rfl rfl
  | sl0 A cap h => exact one (.sl0 A cap h) rfl rfl rfl
  | sl k xs A cap f h1 h2 h3 h4 h5 h6 h7 h8 h9 => exact one (.sl k xs A cap f h1 h2 h3 h4 h5 h6 h7 h8 h9) rfl rfl rfl
  | osl0 id A h => exact one (.osl0 id A h) rfl rfl rfl
  | yld id b cap h => exact one (.yld id b cap h) rfl rfl rfl
  | nsl => exact one .nsl rfl rfl rfl
  | osl id n bl cap h hle => exact one (.osl id n bl cap h hle) rfl rfl rfl
  | map id bl cap h => exact one (.map id bl cap h) rfl rfl rfl
  | fn f caps vs hl hr => exact one (.fn f caps vs hl hr) rfl rfl rfl

theorem beta_alloc (hs : Sat0 F β ok e m a w) (hb : β b = none) (O : Go.Obj) (l : Loc) {p : PV} {v : Value} (h : Rep w ok β p v) : Rep (w.alloc O) ok (upd β b (some l)) p v :=
  h.mono (fun k hk => Below.heap_alloc w O k (hs.okb k hk)) (fun _ h => h) _ (beta_upd hb)
theorem noIds_alloc (hs : Sat0 F β ok e m a w) (O : Go.Obj) {p : PV} {v : Value} (h : Rep w ok noIds p v) : Rep (w.alloc O) ok noIds p v :=
  h.mono (fun k hk => Below.heap_alloc w O k (hs.okb k hk)) (fun _ h => h) _ (fun _ _ h => h)

theorem not_ok_new (hs : Sat0 F β ok e m a w) : ¬ ok w.heap.size := fun h => Nat.lt_irrefl _ (hs.okb _ h)

/-- A new box of cells. -/
theorem OpOk.newBox (hs : Sat0 F β ok e m a w) (hb : β b = none) {T : TypeId} {cs : List PV} {vs : Array Value} {k : Nat}
    (hrun : (execOp a.eval o).run P w = .ok (.value (.pointer (some ⟨w.heap.size, 0, none⟩))) (w.alloc (.cells vs T)))
    (hl : vs.toList.length = cs.length) (h1 : ∀ c ∈ cs, c.one = true) (hr : ∀ (j : Nat) c u, cs[j]? = some c → vs.toList[j]? = some u → Rep w ok β c u) :
    OpOk P F β ok e m a w b o (.ptr b k 0 0) [(b, some (.box cs T))] := by
  refine ⟨_, _, upd β b (some (.at w.heap.size 0)), .inl hrun, ?_, ?_, fun id h => by simp [upd, h]⟩
  · simpa using Rep.ptr (w := w.alloc (.cells vs T)) (ok := ok) (β := upd β b (some (.at w.heap.size 0))) b k 0 0 w.heap.size 0 (by simp [upd])
  · refine hs.alloc hb (.cells vs T) (.box cs T) 0 ⟨⟨vs, heap_alloc_new w _, by simpa using hl, h1, fun j c hj => ?_⟩, not_ok_new hs⟩
    have hjl : j < vs.size := by
      have h2 := (List.getElem?_eq_some_iff.1 hj).1
      have h3 : vs.size = cs.length := by simpa using hl
      omega
    exact ⟨vs[j], by simp [hjl], beta_alloc hs hb _ _ (hr j c vs[j] hj (by simp [hjl]))⟩

theorem op_alloc (hs : Sat0 F β ok e m a w) (hb : β b = none) {T : TypeId} {z : List PV} (ho : o.op = .alloc T) (hz : tyZero P T = some z) (h : vopF (.alloc T z) e m b = some (p, d)) :
    OpOk P F β ok e m a w b o p d := by
  simp only [vopF, Option.some.injEq, Prod.mk.injEq] at h
  obtain ⟨rfl, rfl⟩ := h
  obtain ⟨v, hv, hm⟩ := run_zero (w := w) hz
  obtain ⟨h1, h2, h3⟩ := ofVals_rep (w := w) (ok := ok) (β := β) hm
  refine .newBox hs hb (vs := v.cells) ?_ h1 h2 h3
  simp only [execOp, ho, Instr.alloc, Sem.run_bind, hv, Result.andThen_ok]
  rfl

theorem op_box (hs : Sat0 F β ok e m a w) (hb : β b = none) {T : TypeId} {k : Nat} {X : Operand} {x : XA} (ho : o.op = .box T X) (hx : cA X = some x) (h : vopF (.box T k x) e m b = some (p, d)) :
    OpOk P F β ok e m a w b o p d := by
  simp only [vopF, Option.bind_eq_some_iff] at h
  obtain ⟨q, hq, h⟩ := h
  split at h <;> simp at h
  rename_i hc
  obtain ⟨rfl, rfl⟩ := h
  obtain ⟨h1, h2, h3⟩ := (ev_rep hs hx hq).cells hc.2
  refine .newBox hs hb (vs := (a.eval X).cells) ?_ h1 h2 h3
  simp only [execOp, ho, Instr.box, newVar, newRow, Sem.run_bind, run_newObj, Result.andThen_ok]
  rfl

/-- A new row. -/
theorem OpOk.newRow (hs : Sat0 F β ok e m a w) (hb : β b = none) {T : TypeId} {xs : List (List PV)} {vs : Array Value} {k cap : Nat}
    (hrun : (execOp a.eval o).run P w = .ok (.value (.slice (some ⟨w.heap.size, 0, none⟩) xs.length cap)) (w.alloc (.cells vs T)))
    (hcs : vs.size = cap * k) (hle : xs.length ≤ cap) (hcap : cap ≤ maxLen) (hk : ∀ x ∈ xs, x.length = k) (h1 : ∀ c ∈ xs.flatten, c.one = true)
    (hr : ∀ (j : Nat) c, xs.flatten[j]? = some c → ∃ u, vs[j]? = some u ∧ Rep w ok noIds c u) :
    OpOk P F β ok e m a w b o (.osl b xs.length) [(b, some (.row k xs T false))] := by
  refine ⟨_, _, upd β b (some (.at w.heap.size cap)), .inl hrun, .osl b _ w.heap.size cap (by simp [upd]) hle, ?_, fun id h => by simp [upd, h]⟩
  refine hs.alloc hb (.cells vs T) (.row k xs T false) cap ⟨⟨vs, heap_alloc_new w _, hcs, hle, hcap, hk, h1, fun j c hj => ?_⟩, by simp, fun _ => not_ok_new hs⟩
  obtain ⟨u, hu, hru⟩ := hr j c hj
  exact ⟨u, hu, noIds_alloc hs _ hru⟩

theorem op_nilrow (hs : Sat0 F β ok e m a w) (hb : β b = none) {T k : Nat} (ho : o.op = .move (.const (.slice none 0 0)) ∨ o.op = .assign (.const (.slice none 0 0)))
    (h : vopF (.nilrow T k) e m b = some (p, d)) : OpOk P F β ok e m a w b o p d := by
  simp only [vopF, Option.some.injEq, Prod.mk.injEq] at h
  obtain ⟨rfl, rfl⟩ := h
  have hbm := beta_upd (l := .nil) hb
  refine ⟨.slice none 0 0, w, upd β b (some .nil), .inl ?_, .osl0 b none (by simp [upd]), ?_, fun id h => by simp [upd, h]⟩
  · rcases ho with ho | ho <;> simp [execOp, ho, Act.eval]
  · refine hs.step (fun _ => False) (fun _ _ _ => rfl) (fun _ _ h => h.elim) rfl rfl rfl (Nat.le_refl _) (Nat.le_refl _) hbm ⟨?_, ?_⟩ ?_
    · intro id o' hid
      simp only [Mem.upds, List.foldl_cons, List.foldl_nil, upd] at hid
      by_cases he : id = b
      · subst he
        simp at hid; subst hid
        exact ⟨.nil, by simp [upd], rfl⟩
      · simp [he] at hid
        obtain ⟨l, hl, hr⟩ := hs.mem.objs id o' hid
        exact ⟨l, hbm _ _ hl, hr.mono (fun _ _ => rfl) (fun _ h => h) hbm (fun _ _ _ => ⟨rfl, fun h => h⟩)⟩
    · intro i1 i2 o1 o2 bb c1 c2 h1 h2 h3 h4 f1 f2
      simp only [Mem.upds, List.foldl_cons, List.foldl_nil, upd] at h1 h2 h3 h4
      by_cases e1 : i1 = b
      · simp [e1] at h3
      · by_cases e2 : i2 = b
        · simp [e2] at h4
        · simp [e1] at h1 h3
          simp [e2] at h2 h4
          exact hs.mem.disj i1 i2 o1 o2 bb c1 c2 h1 h2 h3 h4 f1 f2
    · rintro bb ⟨id, o', c, hid, hf, hbe⟩
      simp only [Mem.upds, List.foldl_cons, List.foldl_nil, upd] at hid hbe
      by_cases he : id = b
      · simp [he] at hbe
      · simp [he] at hid hbe
        exact .inl ⟨id, o', c, hid, hf, hbe⟩

/-- What can be read as a value that stays (strict: what it names is frozen) lies as such. -/
theorem pur_rep (hm : MSat w ok β m) {q : PV} {v : Value} (h : pur true m p = some q) (hr : Rep w ok β p v) : Rep w ok noIds q v ∧ q.one = true := by
  unfold pur at h
  cases hr with
  | ptr id k i j bl cap hb => simp at h
  | map id bl cap hb => simp at h
  | yld id bl cap hb => simp at h
  | nsl => simp at h; subst h; exact ⟨.sl0 none 0 (by simp), rfl⟩
  | agg cs vs hl h1 hr => simp at h
  | tup cs vs hl hr => simp at h
  | bool b => simp at h; subst h; exact ⟨.bool b, rfl⟩
  | int k n => simp at h; subst h; exact ⟨.int k n, rfl⟩
  | str s => simp at h; subst h; exact ⟨.str s, rfl⟩
  | nilp => simp at h; subst h; exact ⟨.nilp, rfl⟩
  | nilm => simp at h; subst h; exact ⟨.nilm, rfl⟩
  | nilf => simp at h; subst h; exact ⟨.nilf, rfl⟩
  | cptr cs A f hs hok h1 hc hr => simp at h; subst h; exact ⟨.cptr cs A f hs hok h1 hc hr, rfl⟩
  | sl0 A cap hcap => simp at h; subst h; exact ⟨.sl0 A cap hcap, rfl⟩
  | sl k xs A cap f h1 h2 h3 h4 h5 h6 h7 h8 h9 => simp at h; subst h; exact ⟨.sl k xs A cap f h1 h2 h3 h4 h5 h6 h7 h8 h9, rfl⟩
  | osl0 id A hb =>
    dsimp only at h
    cases hid : m id with
    | none => simp [hid] at h
    | some ob =>
      rw [hid] at h
      cases ob <;> simp at h
      obtain ⟨_, rfl⟩ := h
      exact ⟨.sl0 A 0 (by simp), rfl⟩
  | osl id n bl cap hb hn =>
    dsimp only at h
    cases hid : m id with
    | none => simp [hid] at h
    | some ob =>
      rw [hid] at h
      obtain ⟨l, hl, ho⟩ := hm.objs id ob hid
      rw [hb] at hl; injection hl with hl; subst hl
      cases ob <;> simp at h
      rename_i k xs T fz
      obtain ⟨⟨hle, hfz⟩, rfl⟩ := h
      obtain ⟨⟨cur, h1, h2, h3, h4, h5, h6, h7⟩, h8, _⟩ := ho
      refine ⟨?_, rfl⟩
      rcases Nat.eq_zero_or_pos n with h0 | h0
      · subst h0; simp; exact .sl0 _ _ h4
      · have hlen : (xs.take n).length = n := by simp; omega
        obtain ⟨f, hf⟩ : ∃ f : Nat → Value, ∀ (j : Nat) c, xs.flatten[j]? = some c → cur[j]? = some (f j) ∧ Rep w ok noIds c (f j) :=
          ⟨fun j => cur[j]?.getD default, fun j c hj => by
            obtain ⟨u, hu, hru⟩ := h7 j c hj
            simp [hu, hru]⟩
        have htk : ∀ (j : Nat) c, (xs.take n).flatten[j]? = some c → xs.flatten[j]? = some c := fun j c hj => by
          rw [flat_take h5, List.getElem?_take] at hj
          split at hj
          · exact hj
          · cases hj
        have := Rep.sl (w := w) (ok := ok) (β := noIds) k (xs.take n) ⟨bl, 0, none⟩ cap f (fun e => by rw [e] at hlen; simp at hlen; omega) (by omega) h4 (fun x hx => h5 x (List.mem_of_mem_take hx)) rfl (h8 hfz)
          (fun c hc => by
            obtain ⟨x, hx, hc⟩ := List.mem_flatten.1 hc
            exact h6 c (mem_flat (List.mem_of_mem_take hx) hc))
          (fun j c hj => by rw [add_mk, cell_of h1, Nat.zero_add]; exact (hf j c (htk j c hj)).1) (fun j c hj => (hf j c (htk j c hj)).2)
        rwa [hlen] at this
  | fn f caps vs hl hr =>
    dsimp only at h
    split at h <;> simp at h
    rename_i hc
    subst h
    have : caps = [] := by simpa using hc
    subst this
    have : vs = [] := List.eq_nil_of_length_eq_zero (by simpa using hl)
    subst this
    exact ⟨.fn f [] [] rfl (by simp), rfl⟩

theorem purA_rep (hm : MSat w ok β m) {q : PV} {v : Value} (h : purA true m p = some q) (hr : Rep w ok β p v) : Rep w ok noIds q v ∧ q.nt = true := by
  cases p
  case agg cs =>
    simp only [purA, Option.map_eq_some_iff] at h
    obtain ⟨qs, hqs, rfl⟩ := h
    obtain ⟨hl, hj⟩ := mapM_some hqs
    cases hr with
    | agg _ vs hvl h1 hr =>
      have key : ∀ (j : Nat) q, qs[j]? = some q → ∃ c v, cs[j]? = some c ∧ vs[j]? = some v ∧ pur true m c = some q ∧ Rep w ok β c v := fun j q hq => by
        have hlt := (List.getElem?_eq_some_iff.1 hq).1
        have hc : cs[j]? = some (cs[j]'(by omega)) := by simp
        have hv : vs[j]? = some (vs[j]'(by omega)) := by simp
        exact ⟨_, _, hc, hv, hj j _ q hc hq, hr j _ _ hc hv⟩
      refine ⟨.agg qs vs (by omega) (fun q hq => ?_) (fun j q v hq hv => ?_), rfl⟩
      · obtain ⟨j, hjl, rfl⟩ := List.getElem_of_mem hq
        obtain ⟨c, v, _, _, h1, h2⟩ := key j qs[j] (by simp [hjl])
        exact (pur_rep hm h1 h2).2
      · obtain ⟨c, v', _, hv', h1, h2⟩ := key j q hq
        rw [hv] at hv'; injection hv' with hv'; subst hv'
        exact (pur_rep hm h1 h2).1
  all_goals
    unfold purA at h
    dsimp only at h
    obtain ⟨h1, h2⟩ := pur_rep hm h hr
    exact ⟨h1, by cases q <;> simp_all [PV.one, PV.nt]⟩

end
end Go.Vx
