/- The engine, part 6: the operations that read memory, and those on addresses, slices, strings and structs. -/
import Derived.Test.YtgkkffhoflgpoaaVe
set_option linter.unusedVariables false
set_option linter.unusedSimpArgs false
namespace Go.Vx
open Go Go.RowKit

section lists
variable {α : Type}

theorem flat_get {k : Nat} : ∀ {xs : List (List α)} {i j : Nat} {c : List α} {u : α}, (∀ x ∈ xs, x.length = k) → xs[i]? = some c → c[j]? = some u → xs.flatten[i * k + j]? = some u
  | [], i, j, c, u, _, h, _ => by simp at h
  | x :: xs, 0, j, c, u, hk, h, hj => by
    simp at h; subst h
    have : j < x.length := (List.getElem?_eq_some_iff.1 hj).1
    rw [List.flatten_cons, Nat.zero_mul, Nat.zero_add, List.getElem?_append_left this]
    exact hj
  | x :: xs, i + 1, j, c, u, hk, h, hj => by
    have ih := flat_get (xs := xs) (i := i) (fun y hy => hk y (by simp [hy])) (by simpa using h) hj
    have hx := hk x (by simp)
    rw [List.flatten_cons, List.getElem?_append_right (by rw [hx, Nat.add_mul]; omega), hx]
    rw [show (i + 1) * k + j - k = i * k + j by rw [Nat.add_mul]; omega]
    exact ih

theorem flat_len {k : Nat} : ∀ {xs : List (List α)}, (∀ x ∈ xs, x.length = k) → xs.flatten.length = xs.length * k
  | [], _ => by simp
  | x :: xs, h => by
    rw [List.flatten_cons, List.length_append, flat_len (fun y hy => h y (by simp [hy])), h x (by simp), List.length_cons, Nat.add_mul]
    omega

theorem flat_inv {k : Nat} {xs : List (List α)} {q : Nat} {u : α} (hk : ∀ x ∈ xs, x.length = k) (h : xs.flatten[q]? = some u) :
    ∃ i j c, q = i * k + j ∧ j < k ∧ xs[i]? = some c ∧ c[j]? = some u := by
  have hq : q < xs.flatten.length := (List.getElem?_eq_some_iff.1 h).1
  rw [flat_len hk] at hq
  have hk0 : 0 < k := by
    rcases Nat.eq_zero_or_pos k with h0 | h0
    · subst h0; simp at hq
    · exact h0
  have hi : q / k < xs.length := by rw [Nat.div_lt_iff_lt_mul hk0]; exact hq
  have hj : q % k < k := Nat.mod_lt _ hk0
  have hx : xs[q / k]? = some xs[q / k] := by simp [hi]
  have hl : (xs[q / k]).length = k := hk _ (List.getElem_mem hi)
  have hc : (xs[q / k])[q % k]? = some ((xs[q / k])[q % k]'(by omega)) := by simp [hl, hj]
  refine ⟨q / k, q % k, xs[q / k], (by rw [Nat.mul_comm]; exact (Nat.div_add_mod q k).symm), hj, hx, ?_⟩
  have := flat_get hk hx hc
  rw [show q / k * k + q % k = q by rw [Nat.mul_comm]; exact Nat.div_add_mod q k, h] at this
  rw [hc]; exact this.symm

theorem flat_drop {k : Nat} : ∀ {l : Nat} {xs : List (List α)}, (∀ x ∈ xs, x.length = k) → (xs.drop l).flatten = xs.flatten.drop (l * k)
  | 0, xs, _ => by simp
  | l + 1, [], _ => by simp
  | l + 1, x :: xs, h => by
    rw [List.drop_succ_cons, flat_drop (fun y hy => h y (by simp [hy])), List.flatten_cons, List.drop_append]
    have hx := h x (by simp)
    have h2 : (l + 1) * k - k = l * k := by rw [Nat.add_mul]; omega
    have h3 : x.drop ((l + 1) * k) = [] := List.drop_eq_nil_of_le (by rw [hx, Nat.add_mul]; omega)
    rw [hx, h2, h3]
    simp

theorem flat_take {k : Nat} : ∀ {l : Nat} {xs : List (List α)}, (∀ x ∈ xs, x.length = k) → (xs.take l).flatten = xs.flatten.take (l * k)
  | 0, xs, _ => by simp
  | l + 1, [], _ => by simp
  | l + 1, x :: xs, h => by
    rw [List.take_succ_cons, List.flatten_cons, flat_take (fun y hy => h y (by simp [hy])), List.flatten_cons, List.take_append]
    have hx := h x (by simp)
    have h2 : (l + 1) * k - k = l * k := by rw [Nat.add_mul]; omega
    have h3 : x.take ((l + 1) * k) = x := List.take_of_length_le (by rw [hx, Nat.add_mul]; omega)
    rw [hx, h2, h3]

theorem exists_list {n : Nat} {R : Nat → α → Prop} (h : ∀ j, j < n → ∃ u, R j u) : ∃ vs : List α, vs.length = n ∧ ∀ (j : Nat) u, vs[j]? = some u → R j u := by
  induction n with
  | zero => exact ⟨[], rfl, by simp⟩
  | succ n ih =>
    obtain ⟨vs, hl, hv⟩ := ih fun j hj => h j (by omega)
    obtain ⟨u, hu⟩ := h n (by omega)
    refine ⟨vs ++ [u], by simp [hl], fun j x hx => ?_⟩
    by_cases hj : j < n
    · rw [List.getElem?_append_left (by omega)] at hx
      exact hv j x hx
    · have hjn : j = n := by
        have := (List.getElem?_eq_some_iff.1 hx).1
        simp at this
        omega
      subst hjn
      rw [List.getElem?_append_right (by omega)] at hx
      simp [hl] at hx
      subst hx
      exact hu

theorem mem_flat {xs : List (List α)} {x : List α} {c : α} (hx : x ∈ xs) (hc : c ∈ x) : c ∈ xs.flatten := List.mem_flatten.2 ⟨x, hx, hc⟩
end lists

section
variable {P : Program} {F : Fr} {β : Ids} {ok : Nat → Prop} {e : Nat → Option PV} {m : Mem} {a : Act} {w : World} {b : Nat} {o : Oper} {p : PV} {d : Delta}

/-- Cells that can be read at an address. -/
def Cells (w : World) (ok : Nat → Prop) (β : Ids) (A : Addr) (cs : List PV) : Prop :=
  (∀ c ∈ cs, c.one = true) ∧ ∃ vs : List Value, vs.length = cs.length ∧ (∀ (j : Nat) u, vs[j]? = some u → w.cell? (A.add j) = some u) ∧ ∀ (j : Nat) c u, cs[j]? = some c → vs[j]? = some u → Rep w ok β c u

theorem Rep.any {p : PV} {v : Value} (h : Rep w ok noIds p v) : Rep w ok β p v := h.mono (fun _ _ => rfl) (fun _ h => h) _ (by simp [noIds])

theorem cells_of {A : Addr} {cs : List PV} (h1 : ∀ c ∈ cs, c.one = true) (h : ∀ (j : Nat) c, cs[j]? = some c → ∃ u, w.cell? (A.add j) = some u ∧ Rep w ok β c u) : Cells w ok β A cs := by
  obtain ⟨vs, hl, hv⟩ := exists_list (n := cs.length) (R := fun j u => w.cell? (A.add j) = some u ∧ ∀ c, cs[j]? = some c → Rep w ok β c u) (fun j hj => by
    obtain ⟨u, h1, h2⟩ := h j cs[j] (by simp [hj])
    exact ⟨u, h1, fun c hc => by simp [hj] at hc; exact hc ▸ h2⟩)
  exact ⟨h1, vs, hl, fun j u hu => (hv j u hu).1, fun j c u hc hu => (hv j u hu).2 c hc⟩

theorem rd_sound (hm : MSat w ok β m) {n : Nat} {cs : List PV} {v : Value} (h : rd m n p = some cs) (hr : Rep w ok β p v) : ∃ A, v = .pointer (some A) ∧ A.spot = none ∧ cs.length = n ∧ Cells w ok β A cs := by
  cases p <;> unfold rd at h <;> dsimp only at h <;> try (simp only [reduceCtorEq] at h; done)
  · rename_i id k i j
    cases hr with
    | ptr _ _ _ _ bl cap hb =>
      cases hid : m id with
      | none => simp [hid] at h
      | some ob =>
        obtain ⟨l, hl, ho⟩ := hm.objs id ob hid
        rw [hb] at hl; injection hl with hl; subst hl
        rw [hid] at h
        cases ob with
        | map es => simp at h
        | iter => simp at h
        | loop => simp at h
        | row k' xs T fz =>
          dsimp only at h
          by_cases hk : k' = k
          case neg => rw [if_neg hk] at h; cases h
          rw [if_pos hk] at h
          subst hk
          simp only [Option.bind_eq_some_iff] at h
          obtain ⟨x, hx, h⟩ := h
          by_cases hlen : j + n ≤ x.length
          case neg => rw [if_neg hlen] at h; cases h
          rw [if_pos hlen] at h
          injection h with h
          subst h
          obtain ⟨⟨cur, h1, h2, h3, h4, h5, h6, h7⟩, _⟩ := ho
          refine ⟨_, rfl, rfl, by simp; omega, cells_of (fun c hc => h6 c (mem_flat (List.mem_of_getElem? hx) (List.mem_of_mem_drop (List.mem_of_mem_take hc)))) fun t c hc => ?_⟩
          have ht : t < n := by
            have := (List.getElem?_eq_some_iff.1 hc).1
            simp at this; omega
          have hc' : x[j + t]? = some c := by
            rw [List.getElem?_take] at hc
            simp [ht] at hc
            exact hc
          obtain ⟨u, hu, hru⟩ := h7 _ c (flat_get h5 hx hc')
          refine ⟨u, ?_, hru.any⟩
          rw [add_mk, cell_of h1, show i * k' + j + t = i * k' + (j + t) by omega, hu]
        | box cs' T =>
          simp at h
          obtain ⟨⟨rfl, hlen⟩, rfl⟩ := h
          obtain ⟨⟨cur, h1, h2, h3, h7⟩, _⟩ := ho
          refine ⟨_, rfl, rfl, by simp; omega, cells_of (fun c hc => h3 c (List.mem_of_mem_drop (List.mem_of_mem_take hc))) fun t c hc => ?_⟩
          have ht : t < n := by
            have := (List.getElem?_eq_some_iff.1 hc).1
            simp at this; omega
          have hc' : cs'[j + t]? = some c := by
            rw [List.getElem?_take] at hc
            simp [ht] at hc
            exact hc
          obtain ⟨u, hu, hru⟩ := h7 _ c hc'
          refine ⟨u, ?_, hru⟩
          rw [add_mk, cell_of h1, show 0 * k + j + t = j + t by omega, hu]
  · rename_i cs'
    split at h <;> simp at h
    subst h
    cases hr with
    | cptr _ A f hs hok h1 hc hr =>
      refine ⟨A, rfl, hs, by simp; omega, cells_of (fun c hc => h1 c (List.mem_of_mem_take hc)) fun t c ht => ?_⟩
      have ht' : cs'[t]? = some c := by
        rw [List.getElem?_take] at ht
        split at ht
        · exact ht
        · cases ht
      exact ⟨f t, hc t c ht', (hr t c ht').any⟩

theorem Cells.agg {A : Addr} {cs : List PV} (h : Cells w ok β A cs) {t : TypeId} {n : Nat} (hg : tyAgg P t = some true) (hn : tySize P t = some n) (hl : cs.length = n) :
    ∃ v, (loadVar t A).run P w = .ok v w ∧ Rep w ok β (.agg cs) v := by
  obtain ⟨h1, vs, hvl, hv, hr⟩ := h
  exact ⟨_, run_loadVarAgg A vs hg hn (by omega) hv, .agg cs vs hvl h1 hr⟩

theorem op_load1 (hs : Sat0 F β ok e m a w) {X : Operand} {x : XA} {t : TypeId} (ho : o.op = .load t X) (hg : tyAgg P t = some false) (hx : cA X = some x)
    (h : vopF (.load1 x) e m b = some (p, d)) : OpOk P F β ok e m a w b o p d := by
  simp only [vopF, Option.bind_eq_some_iff] at h
  obtain ⟨q, hq, cs, hcs, c, hc, h⟩ := h
  simp at h
  obtain ⟨rfl, rfl⟩ := h
  obtain ⟨A, hA, hsp, hl, h1, vs, hvl, hv, hr⟩ := rd_sound hs.mem hcs (ev_rep hs hx hq)
  match cs, hl, hc with
  | [c0], _, hc =>
    simp [head1] at hc; subst hc
    match vs, hvl with
    | [u], _ =>
      refine .value hs (v := u) ?_ (hr 0 _ u rfl rfl)
      have h0 : w.cell? A = some u := by simpa [Addr.add] using hv 0 u rfl
      simp only [execOp, ho]
      exact exec_value (by simp [Instr.loadAt, hA, Instr.sureAddr, run_loadVarOne A u hg h0])

theorem op_loadn (hs : Sat0 F β ok e m a w) {X : Operand} {x : XA} {t : TypeId} {n : Nat} (ho : o.op = .load t X) (hg : tyAgg P t = some true) (hn : tySize P t = some n) (hx : cA X = some x)
    (h : vopF (.loadn n x) e m b = some (p, d)) : OpOk P F β ok e m a w b o p d := by
  simp only [vopF, Option.bind_eq_some_iff] at h
  obtain ⟨q, hq, cs, hcs, h⟩ := h
  simp at h
  obtain ⟨rfl, rfl⟩ := h
  obtain ⟨A, hA, hsp, hl, hc⟩ := rd_sound hs.mem hcs (ev_rep hs hx hq)
  obtain ⟨v, hv, hr⟩ := hc.agg hg hn hl
  refine .value hs (v := v) ?_ hr
  simp only [execOp, ho]
  exact exec_value (by simp [Instr.loadAt, hA, Instr.sureAddr, hv])

theorem op_nilck (hs : Sat0 F β ok e m a w) {X : Operand} {x : XA} (ho : o.op = .nilCheck X) (hx : cA X = some x) (h : vopF (.nilck x) e m b = some (p, d)) : OpOk P F β ok e m a w b o p d := by
  simp only [vopF, Option.bind_eq_some_iff] at h
  obtain ⟨q, hq, h⟩ := h
  have hr := ev_rep hs hx hq
  have hr0 := hr
  generalize hv : a.eval X = vx at hr
  rw [hv] at hr0
  cases q <;> simp at h <;> obtain ⟨rfl, rfl⟩ := h <;> cases hr <;> exact .value hs (by simp only [execOp, ho, hv]; rfl) hr0

/-- A pointer to cells that stay, moved on. -/
theorem Rep.cptr_drop {cs : List PV} {A : Addr} (h : Rep w ok β (.cptr cs) (.pointer (some A))) (n : Nat) : Rep w ok β (.cptr (cs.drop n)) (.pointer (some (A.add n))) := by
  cases h with
  | cptr _ _ f hs hok h1 hc hr =>
    refine .cptr _ _ (fun j => f (n + j)) (add_spot A hs n) (by rw [add_block]; exact hok) (fun c hc => h1 c (List.mem_of_mem_drop hc)) (fun j c hj => ?_) (fun j c hj => ?_)
    · rw [add_add]; exact hc _ c (by rw [← hj, List.getElem?_drop])
    · exact hr _ c (by rw [← hj, List.getElem?_drop])

theorem Rep.ptr_move {id k i j : Nat} {A : Addr} (h : Rep w ok β (.ptr id k i j) (.pointer (some A))) (n : Nat) : Rep w ok β (.ptr id k i (j + n)) (.pointer (some (A.add n))) := by
  cases h with
  | ptr _ _ _ _ bl cap hb => rw [add_mk, Nat.add_assoc]; exact .ptr _ _ _ _ bl cap hb

theorem op_fieldA (hs : Sat0 F β ok e m a w) {X : Operand} {x : XA} {s : TypeId} {fs : Array Field} {i k : Nat} {f : Field} (ho : o.op = .fieldAddr s X i) (hu : P.underlying s = some (.struct fs)) (hf : fs[i]? = some f)
    (hk : tySize P f.type = some k) (hk0 : k ≠ 0) (hx : cA X = some x) (h : vopF (.fieldA f.offset x) e m b = some (p, d)) : OpOk P F β ok e m a w b o p d := by
  simp only [vopF, Option.bind_eq_some_iff] at h
  obtain ⟨q, hq, h⟩ := h
  have hr := ev_rep hs hx hq
  have hrun : ∀ A, a.eval X = .pointer (some A) → (execOp a.eval o).run P w = .ok (.value (.pointer (some (A.add f.offset)))) w := fun A hA => by
    simp only [execOp, ho]
    exact exec_value (by simp [Instr.fieldAt, run_und hu, hf, hA, Instr.sureAddr, fieldPlace, run_sizeOf hk, hk0])
  generalize hv : a.eval X = vx at hr
  cases q <;> simp at h
  · obtain ⟨rfl, rfl⟩ := h
    have hr0 := hr
    cases hr with
    | ptr => exact .value hs (hrun _ hv) (hr0.ptr_move _)
  · obtain ⟨rfl, rfl⟩ := h
    have hr0 := hr
    cases hr with
    | cptr => exact .value hs (hrun _ hv) (hr0.cptr_drop _)

theorem idx_rep {q : PV} {v : Value} {i : Nat} (h : idx q = some i) (hr : Rep w ok β q v) : ∃ k, v = .int k (i : Int) := by
  cases q <;> simp [idx] at h
  cases hr
  rename_i k n
  exact ⟨k, by rw [← h.2]; congr 1; omega⟩

/-- The cells of one element of a slice that stays. -/
theorem Rep.sl_at {xs : List (List PV)} {v : Value} {i : Nat} {c : List PV} (h : Rep w ok β (.sl xs) v) (hi : xs[i]? = some c) :
    ∃ A cap k, v = .slice (some A) xs.length cap ∧ (∀ x ∈ xs, x.length = k) ∧ i < xs.length ∧ Rep w ok β (.cptr c) (.pointer (some (A.add (i * k)))) := by
  cases h with
  | sl0 => simp at hi
  | sl k _ A cap f hne hl hcap hk hs hok h1 hc hr =>
    refine ⟨A, cap, k, rfl, hk, (List.getElem?_eq_some_iff.1 hi).1, .cptr _ _ (fun j => f (i * k + j)) (add_spot A hs _) (by rw [add_block]; exact hok) (fun u hu => h1 u (mem_flat (List.mem_of_getElem? hi) hu)) (fun j u hj => ?_) (fun j u hj => ?_)⟩
    · rw [add_add]; exact hc _ u (flat_get hk hi hj)
    · exact hr _ u (flat_get hk hi hj)

theorem op_indexS (hs : Sat0 F β ok e m a w) {X I : Operand} {x i : XA} {t el : TypeId} {k : Nat} (ho : o.op = .indexAddr t X I) (hu : P.underlying t = some (.slice el)) (hk : tySize P el = some k)
    (hx : cA X = some x) (hi : cA I = some i) (h : vopF (.indexS k x i) e m b = some (p, d)) : OpOk P F β ok e m a w b o p d := by
  simp only [vopF, Option.bind_eq_some_iff] at h
  obtain ⟨q, hq, r, hr, n, hn, h⟩ := h
  have hrx := ev_rep hs hx hq
  obtain ⟨kk, hiv⟩ := idx_rep hn (ev_rep hs hi hr)
  have hrun : ∀ A len cap, a.eval X = .slice (some A) len cap → n < len → (execOp a.eval o).run P w = .ok (.value (.pointer (some (A.add (n * k))))) w := fun A len cap hA hlt => by
    simp only [execOp, ho]
    refine exec_value ?_
    simp only [Instr.indexAt, hiv, asIntOf, Sem.run_bind, Sem.run_pure, Result.andThen_ok, run_und hu, hA]
    rw [if_pos ⟨by omega, by omega⟩]
    simp [run_sizeOf hk]
  generalize hv : a.eval X = vx at hrx
  cases q <;> simp only [reduceCtorEq] at h
  · rename_i xs
    simp only [Option.bind_eq_some_iff] at h
    obtain ⟨c, hc, h⟩ := h
    split at h <;> simp at h
    rename_i hlen
    obtain ⟨rfl, rfl⟩ := h
    obtain ⟨A, cap, k', rfl, hk', hlt, hp⟩ := hrx.sl_at hc
    have : k' = k := by rw [← hk' c (List.mem_of_getElem? hc), hlen]
    subst this
    exact .value hs (hrun _ _ _ hv hlt) hp
  · rename_i id N
    cases hid : m id with
    | none => simp [hid] at h
    | some ob =>
      rw [hid] at h
      cases ob with
      | box => simp at h
      | map => simp at h
      | iter => simp at h
      | loop => simp at h
      | row k' xs T fz =>
        simp at h
        obtain ⟨⟨rfl, hlt, hle⟩, rfl, rfl⟩ := h
        cases hrx with
        | osl0 _ _ hb => omega
        | osl _ _ bl cap hb hcap =>
          refine .value hs (hrun _ _ _ hv hlt) ?_
          rw [add_mk]
          simpa using Rep.ptr (w := w) (ok := ok) (β := β) id k' n 0 bl cap hb

theorem op_indexA (hs : Sat0 F β ok e m a w) {X I : Operand} {x i : XA} {t el : TypeId} {k len : Nat} (ho : o.op = .indexAddr t X I) (hu : P.underlying t = some (.array len el)) (hk : tySize P el = some k)
    (hx : cA X = some x) (hi : cA I = some i) (h : vopF (.indexA k len x i) e m b = some (p, d)) : OpOk P F β ok e m a w b o p d := by
  simp only [vopF, Option.bind_eq_some_iff] at h
  obtain ⟨q, hq, r, hr, n, hn, h⟩ := h
  have hrx := ev_rep hs hx hq
  obtain ⟨kk, hiv⟩ := idx_rep hn (ev_rep hs hi hr)
  split at h
  case isFalse => cases h
  rename_i hlt
  have hrun : ∀ A, a.eval X = .pointer (some A) → (execOp a.eval o).run P w = .ok (.value (.pointer (some (A.add (n * k))))) w := fun A hA => by
    simp only [execOp, ho]
    refine exec_value ?_
    simp only [Instr.indexAt, hiv, asIntOf, Sem.run_bind, Sem.run_pure, Result.andThen_ok, run_und hu, hA, Instr.sureAddr]
    rw [if_pos ⟨by omega, by omega⟩]
    simp [run_sizeOf hk]
  generalize hv : a.eval X = vx at hrx
  cases q <;> simp at h
  · obtain ⟨rfl, rfl⟩ := h
    have hr0 := hrx
    cases hrx with
    | ptr => exact .value hs (hrun _ hv) (hr0.ptr_move _)
  · obtain ⟨rfl, rfl⟩ := h
    have hr0 := hrx
    cases hrx with
    | cptr => exact .value hs (hrun _ hv) (hr0.cptr_drop _)

theorem op_indexT (hs : Sat0 F β ok e m a w) {X I : Operand} {x i : XA} {t : TypeId} (ho : o.op = .index t X I) (hu : P.underlying t = some .string)
    (hx : cA X = some x) (hi : cA I = some i) (h : vopF (.indexT x i) e m b = some (p, d)) : OpOk P F β ok e m a w b o p d := by
  simp only [vopF, Option.bind_eq_some_iff] at h
  obtain ⟨q, hq, r, hr, n, hn, h⟩ := h
  have hrx := ev_rep hs hx hq
  obtain ⟨kk, hiv⟩ := idx_rep hn (ev_rep hs hi hr)
  generalize hv : a.eval X = vx at hrx
  cases q <;> simp only [reduceCtorEq] at h
  rename_i s
  simp only [Option.bind_eq_some_iff] at h
  obtain ⟨c, hc, h⟩ := h
  simp at h
  obtain ⟨rfl, rfl⟩ := h
  cases hrx
  refine .value hs (v := .int .u8 c.toNat) ?_ (.int _ _)
  simp only [execOp, ho]
  refine exec_value ?_
  have hg : (⟨s.toArray⟩ : ByteArray)[n]? = some c := by
    obtain ⟨hlt, hc⟩ := List.getElem?_eq_some_iff.1 hc
    have hlt' : n < (ByteArray.mk s.toArray).size := by simpa [ByteArray.size] using hlt
    rw [getElem?_pos (ByteArray.mk s.toArray) n hlt']
    exact congrArg some hc
  simp only [Instr.index, hiv, asIntOf, Sem.run_bind, Sem.run_pure, Result.andThen_ok, run_und hu, hv]
  rw [if_pos (by omega)]
  simp [hg]

end
end Go.Vx
