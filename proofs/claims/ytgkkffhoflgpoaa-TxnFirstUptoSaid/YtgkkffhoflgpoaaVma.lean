/- The engine, part 13a: maps. -/
import Derived.Test.YtgkkffhoflgpoaaVl
import Derived.MapKept
set_option linter.unusedVariables false
set_option linter.unusedSimpArgs false
namespace Go.Vx
open Go Go.RowKit

def isCells : Go.Obj → Bool
  | .cells .. => true
  | _ => false
theorem run_getObj {P : Program} {w : World} {r : Nat} {o : Go.Obj} (hb : w.heap[r]? = some o) (ho : isCells o = false) : (getObj r).run P w = .ok o w := by
  cases o <;> simp_all [isCells, getObj, Sem.run]
/-- A block that is turned. -/
def setB (w : World) (r : Nat) (o : Go.Obj) : World := { w with heap := w.heap.setIfInBounds r o }
theorem run_setObj {P : Program} {w : World} {r : Nat} {o : Go.Obj} (o' : Go.Obj) (hb : w.heap[r]? = some o) (ho : isCells o = false) : (setObj r o').run P w = .ok () (setB w r o') := by
  cases o <;> simp_all [isCells, setObj, Sem.run, setB]
theorem setB_same {w : World} {r : Nat} {o : Go.Obj} (h : r < w.heap.size) : (setB w r o).heap[r]? = some o := by simp [setB, h]
theorem setB_other {w : World} {r : Nat} {o : Go.Obj} (k : Nat) (h : k ≠ r) : (setB w r o).heap[k]? = w.heap[k]? := by
  simp [setB, Array.getElem?_setIfInBounds_ne (Ne.symm h)]
theorem setB_size {w : World} {r : Nat} {o : Go.Obj} : (setB w r o).heap.size = w.heap.size := by simp [setB]

section
variable {P : Program} {F : Fr} {β : Ids} {ok : Nat → Prop} {e : Nat → Option PV} {m : Mem} {a : Act} {w : World} {b : Nat} {o : Oper} {p : PV} {d : Delta} {g : Bool} {ks : List PV} {t : TypeId}

theorem keyKs_inv (h : keyKs P t = some (g, ks)) : (g = false ∧ ∃ k, ks = [k] ∧ ((P.underlying t = some .bool ∧ k = .bool false) ∨ (∃ K, P.underlying t = some (.int K) ∧ k = .int K 0) ∨ (P.underlying t = some .string ∧ k = .str []))) ∨
    (g = true ∧ ∃ fs, P.underlying t = some (.struct fs) ∧ scal P 20 t = some ks) := by
  unfold keyKs at h
  split at h <;> rename_i hu
  · injection h with h; injection h with h1 h2; subst h1; subst h2; exact .inl ⟨rfl, _, rfl, .inl ⟨hu, rfl⟩⟩
  · injection h with h; injection h with h1 h2; subst h1; subst h2; exact .inl ⟨rfl, _, rfl, .inr (.inl ⟨_, hu, rfl⟩)⟩
  · injection h with h; injection h with h1 h2; subst h1; subst h2; exact .inl ⟨rfl, _, rfl, .inr (.inr ⟨hu, rfl⟩)⟩
  · simp only [Option.map_eq_some_iff] at h
    obtain ⟨ks', hk, h⟩ := h
    injection h with h1 h2; subst h1; subst h2
    exact .inr ⟨rfl, _, hu, hk⟩
  · cases h

theorem keq_false {k p q : PV} {r : Bool} (h : keq false [k] p q = some r) : eq1 k p q = some r := by
  unfold keq at h
  split at h
  · simp at h
  · simpa using h
theorem keq_true {p q : PV} {r : Bool} (h : keq true ks p q = some r) : ∃ cs ds, p = .agg cs ∧ q = .agg ds ∧ eqCells ks cs ds = some r := by
  unfold keq at h
  split at h
  · exact ⟨_, _, rfl, rfl, by simpa using h⟩
  · simp at h

/-- Two keys are held against each other. -/
theorem key_same (hk : keyKs P t = some (g, ks)) {q q' : PV} {u v : Value} {r : Bool} (h : keq g ks q q' = some r) (h1 : Rep w ok β q u) (h2 : Rep w ok β q' v) :
    ∃ d, P.underlying t = some d ∧ ((g = false ∧ Instr.sameNow d u v = some r) ∨ (g = true ∧ Instr.sameNow d u v = none ∧ (Op.equal t u v).run P w = .ok r w)) := by
  rcases keyKs_inv hk with ⟨rfl, k, rfl, hh⟩ | ⟨rfl, fs, hu, hs⟩
  · have h := keq_false h
    rcases hh with ⟨hu, rfl⟩ | ⟨K, hu, rfl⟩ | ⟨hu, rfl⟩
    · obtain ⟨x, y, rfl, rfl, rfl⟩ := eq1_bool h
      cases h1; cases h2
      exact ⟨_, hu, .inl ⟨rfl, by cases x <;> cases y <;> rfl⟩⟩
    · obtain ⟨x, y, rfl, rfl, rfl⟩ := eq1_int h
      cases h1; cases h2
      exact ⟨_, hu, .inl ⟨rfl, by simp [Instr.sameNow]; rfl⟩⟩
    · obtain ⟨x, y, rfl, rfl, rfl⟩ := eq1_str h
      cases h1; cases h2
      refine ⟨_, hu, .inl ⟨rfl, ?_⟩⟩
      simp only [Instr.sameNow, Option.some.injEq]
      rw [← beqL, beq_toListBytes, ByteArray.toList_mk, ByteArray.toList_mk]
  · obtain ⟨cs, ds, rfl, rfl, h⟩ := keq_true h
    cases h1 with
    | agg _ vs hl1 h11 hr1 =>
      cases h2 with
      | agg _ us hl2 h22 hr2 =>
        have heq := eq_scal 20 t ks hs 10000 (by omega) cs ds vs us r hl1 hl2 hr1 hr2 h
        simp only [valOf, tyAgg, hu, if_true] at heq
        exact ⟨_, hu, .inr ⟨rfl, by simp [Instr.sameNow], heq⟩⟩

/-- How entries lie. -/
def Ents (w : World) (ok : Nat → Prop) (β : Ids) (es : List (PV × PV)) (ents : List MapEntry) : Prop :=
  ents.length = es.length ∧ ∀ (j : Nat) e x, es[j]? = some e → ents[j]? = some x → Rep w ok noIds e.1 x.key ∧ Rep w ok β e.2 x.val ∧ x.born = j

def Found (w : World) (ok : Nat → Prop) (β : Ids) : Option (Nat × PV) → Option (Nat × Value) → Prop
  | none, none => True
  | some (i, p), some (j, v) => i = j ∧ Rep w ok β p v
  | _, _ => False

theorem find_now {d : TypeDesc} (hk : keyKs P t = some (g, ks)) (hd : P.underlying t = some d) (hg : g = false) {q : PV} {u : Value} (hq : Rep w ok β q u) : ∀ (es : List (PV × PV)) (ents : List MapEntry) (i : Nat) (r : Option (Nat × PV)), ents.length = es.length →
    (∀ (j : Nat) e x, es[j]? = some e → ents[j]? = some x → Rep w ok noIds e.1 x.key ∧ Rep w ok β e.2 x.val) → mfind g ks q es i = some r → ∃ r', Instr.findNow d u ents i = some r' ∧ Found w ok β r r'
  | [], [], i, r, _, _, h => by simp [mfind] at h; subst h; exact ⟨none, rfl, trivial⟩
  | e :: es, x :: ents, i, r, hl, hr, h => by
    simp only [mfind, Option.bind_eq_some_iff] at h
    obtain ⟨c, hc, h⟩ := h
    obtain ⟨h1, h2⟩ := hr 0 e x rfl rfl
    obtain ⟨d', hd', hh⟩ := key_same hk hc hq h1.any
    rw [hd] at hd'; injection hd' with hd'; subst hd'
    rcases hh with ⟨_, hsn⟩ | ⟨hg', _⟩
    · simp only [Instr.findNow, hsn]
      cases c with
      | true => simp at h; subst h; exact ⟨_, rfl, rfl, h2⟩
      | false => exact find_now hk hd hg hq es ents (i + 1) r (by simpa using hl) (fun j e x h1 h2 => hr (j + 1) e x (by simpa using h1) (by simpa using h2)) (by simpa using h)
    · rw [hg] at hg'; cases hg'
  | [], _ :: _, _, _, h, _, _ => by simp at h
  | _ :: _, [], _, _, h, _, _ => by simp at h

theorem find_asking (hk : keyKs P t = some (g, ks)) (hg : g = true) {q : PV} {u : Value} (hq : Rep w ok β q u) : ∀ (es : List (PV × PV)) (ents : List MapEntry) (i : Nat) (r : Option (Nat × PV)), ents.length = es.length →
    (∀ (j : Nat) e x, es[j]? = some e → ents[j]? = some x → Rep w ok noIds e.1 x.key ∧ Rep w ok β e.2 x.val) → mfind g ks q es i = some r → ∃ r', (Instr.findAsking t u ents i).run P w = .ok r' w ∧ Found w ok β r r'
  | [], [], i, r, _, _, h => by simp [mfind] at h; subst h; exact ⟨none, rfl, trivial⟩
  | e :: es, x :: ents, i, r, hl, hr, h => by
    simp only [mfind, Option.bind_eq_some_iff] at h
    obtain ⟨c, hc, h⟩ := h
    obtain ⟨h1, h2⟩ := hr 0 e x rfl rfl
    obtain ⟨d', hd', hh⟩ := key_same hk hc hq h1.any
    rcases hh with ⟨hg', _⟩ | ⟨_, _, hrun⟩
    · rw [hg] at hg'; cases hg'
    · simp only [Instr.findAsking, Sem.run_bind, hrun, Result.andThen_ok]
      cases c with
      | true => simp at h; subst h; exact ⟨_, rfl, rfl, h2⟩
      | false => exact find_asking hk hg hq es ents (i + 1) r (by simpa using hl) (fun j e x h1 h2 => hr (j + 1) e x (by simpa using h1) (by simpa using h2)) (by simpa using h)
  | [], _ :: _, _, _, h, _, _ => by simp at h
  | _ :: _, [], _, _, h, _, _ => by simp at h

theorem run_find (hk : keyKs P t = some (g, ks)) {q : PV} {u : Value} (hq : Rep w ok β q u) {es : List (PV × PV)} {ents : List MapEntry} {r : Option (Nat × PV)} (he : Ents w ok β es ents) (h : mfind g ks q es 0 = some r) :
    ∃ r', (Instr.findKey t u ents).run P w = .ok r' w ∧ Found w ok β r r' := by
  have hr : ∀ (j : Nat) e x, es[j]? = some e → ents[j]? = some x → Rep w ok noIds e.1 x.key ∧ Rep w ok β e.2 x.val := fun j e x h1 h2 => ⟨(he.2 j e x h1 h2).1, (he.2 j e x h1 h2).2.1⟩
  obtain ⟨d, hd⟩ : ∃ d, P.underlying t = some d := by
    rcases keyKs_inv hk with ⟨_, k, _, ⟨hu, _⟩ | ⟨K, hu, _⟩ | ⟨hu, _⟩⟩ | ⟨_, fs, hu, _⟩ <;> exact ⟨_, hu⟩
  cases g with
  | false =>
    obtain ⟨r', h1, h2⟩ := find_now hk hd rfl hq es ents 0 r he.1 hr h
    exact ⟨r', by simp [Instr.findKey, run_und hd, h1], h2⟩
  | true =>
    cases ents with
    | nil =>
      have : es = [] := List.eq_nil_of_length_eq_zero (by rw [← he.1]; rfl)
      subst this
      simp [mfind] at h; subst h
      exact ⟨none, by simp [Instr.findKey, run_und hd, Instr.findNow], trivial⟩
    | cons x ents =>
      cases es with
      | nil => simp [Ents] at he
      | cons e es =>
        obtain ⟨r', h1, h2⟩ := find_asking hk rfl hq (e :: es) (x :: ents) 0 r he.1 hr h
        refine ⟨r', ?_, h2⟩
        simp only [mfind, Option.bind_eq_some_iff] at h
        obtain ⟨c, hc, _⟩ := h
        obtain ⟨d', hd', hh⟩ := key_same hk hc hq (hr 0 e x rfl rfl).1.any
        rw [hd] at hd'; injection hd' with hd'; subst hd'
        rcases hh with ⟨hg', _⟩ | ⟨_, hsn, _⟩
        · cases hg'
        · simp only [Instr.findKey, Sem.run_bind, run_und hd, Result.andThen_ok, Instr.findNow, hsn]
          exact h1

theorem check_scal {em : Bool} : ∀ (dd : Nat) (t : TypeId) (ks : List PV), scal P dd t = some ks → ∀ (n : Nat), dd ≤ n → ∀ (cs : List PV) (vs : List Value), vs.length = cs.length → cs.length = ks.length →
    (Instr.checkKey em n t (valOf P t vs)).run P w = .ok () w
  | 0, t, ks, h, _, _, _, _, _, _ => by simp [scal] at h
  | dd + 1, t, ks, h, n, hn, cs, vs, hl1, hl2 => by
    obtain ⟨n, rfl⟩ : ∃ q, n = q + 1 := ⟨n - 1, by omega⟩
    simp only [scal] at h
    split at h <;> rename_i hu
    · simp [Instr.checkKey, run_und hu]
    · simp [Instr.checkKey, run_und hu]
    · simp [Instr.checkKey, run_und hu]
    · rename_i fs
      split at h
      case isTrue => cases h
      rename_i hg
      simp only [valOf, tyAgg, hu, if_true]
      have key : ∀ (l : List Field) (off : Nat) (ks : List PV), scalFs P (scal P dd) off l = some ks → off + ks.length ≤ vs.length →
          (forIn l PUnit.unit fun f (_ : PUnit) => do
            if f.name ≠ "_" then do
              let x ← part f.type vs.toArray f.offset
              Instr.checkKey em n f.type x
              pure (ForInStep.yield PUnit.unit)
            else pure (ForInStep.yield PUnit.unit) : Sem PUnit).run P w = .ok PUnit.unit w := by
        intro l
        induction l with
        | nil => intro off ks _ _; simp
        | cons f l ih =>
          intro off ks hk ho1
          simp only [scalFs] at hk
          split at hk
          case isTrue => cases hk
          rename_i hno
          simp only [Option.bind_eq_some_iff] at hk
          obtain ⟨kf, hkf, hk⟩ := hk
          split at hk
          case isFalse => cases hk
          rename_i hsz
          simp only [Option.map_eq_some_iff] at hk
          obtain ⟨kr, hkr, rfl⟩ := hk
          simp only [List.length_append] at ho1
          have hoff : f.offset = off := by
            rcases Nat.decEq f.offset off with h | h
            · exact absurd (.inr h) hno
            · exact h
          have hne : f.name ≠ "_" := fun h => hno (.inl h)
          have p1 := part_val (P := P) (w := w) (vs := vs) (off := off) hsz (by omega) (scal_kind hkf)
          have q1 := check_scal (em := em) dd f.type kf hkf n (by omega) kf ((vs.drop off).take kf.length) (by simp; omega) rfl
          have hrest := ih (off + kf.length) kr hkr (by omega)
          rw [List.forIn_cons]
          simp only [if_pos hne, hoff, Sem.run_bind, p1, q1, Result.andThen_ok, Sem.run_pure]
          exact hrest
      have h0 := key fs.toList 0 ks h (by omega)
      simp only [Instr.checkKey, Sem.run_bind, run_und hu, Result.andThen_ok]
      rw [← Array.forIn_toList, h0]
      simp
    · cases h

theorem eqCells_true : ∀ {ks cs ds : List PV}, eqCells ks cs ds = some true → ∀ (j : Nat) c d, cs[j]? = some c → ds[j]? = some d → ∃ k, eq1 k c d = some true
  | [], [], [], _, j, c, d, h, _ => by simp at h
  | k :: ks, c :: cs, d :: ds, h, j, c', d', h1, h2 => by
    simp only [eqCells, Option.bind_eq_some_iff] at h
    obtain ⟨x, hx, r, hr, h⟩ := h
    simp at h
    obtain ⟨rfl, rfl⟩ := h
    cases j with
    | zero => simp at h1 h2; subst h1; subst h2; exact ⟨k, hx⟩
    | succ j => exact eqCells_true hr j c' d' (by simpa using h1) (by simpa using h2)
  | [], _ :: _, _, h, _, _, _, _, _ => by simp [eqCells] at h
  | [], [], _ :: _, h, _, _, _, _, _ => by simp [eqCells] at h
  | _ :: _, [], _, h, _, _, _, _, _ => by simp [eqCells] at h
  | _ :: _, _ :: _, [], h, _, _, _, _, _ => by simp [eqCells] at h

theorem eq1_inv {k c d : PV} {r : Bool} (h : eq1 k c d = some r) : (∃ x y, c = .bool x ∧ d = .bool y ∧ r = decide (x = y)) ∨ (∃ K x y, c = .int K x ∧ d = .int K y ∧ r = decide (x = y)) ∨ (∃ x y, c = .str x ∧ d = .str y ∧ r = decide (x = y)) := by
  cases k with
  | bool z => exact .inl (eq1_bool h)
  | int K z => obtain ⟨x, y, h⟩ := eq1_int h; exact .inr (.inl ⟨K, x, y, h⟩)
  | str z => exact .inr (.inr (eq1_str h))
  | _ => simp [eq1] at h

theorem cell_bits {k c d : PV} {u v : Value} (h : eq1 k c d = some true) (h1 : Rep w ok β c u) (h2 : Rep w ok noIds d v) (n : Nat) : Instr.sameBits n v u = true := by
  rcases eq1_inv h with ⟨x, y, rfl, rfl, h'⟩ | ⟨K, x, y, rfl, rfl, h'⟩ | ⟨x, y, rfl, rfl, h'⟩ <;> have h' := of_decide_eq_true h'.symm <;> subst h' <;> cases h1 <;> cases h2 <;> simp only [Instr.sameBits, beq_self_eq_true, Bool.and_self, Bool.and_true]
  rw [beq_toListBytes, beq_self_eq_true]

theorem key_bits {q q' : PV} {u v : Value} (h : keq g ks q q' = some true) (h1 : Rep w ok β q u) (h2 : Rep w ok noIds q' v) : Instr.sameBits 10000 v u = true := by
  unfold keq at h
  split at h
  · rename_i cs ds
    split at h
    case isFalse => cases h
    obtain ⟨l1, l2⟩ := eqCells_len h
    cases h1 with
    | agg _ vs hl1 h11 hr1 =>
      cases h2 with
      | agg _ us hl2 h22 hr2 =>
        have : ∀ n, Instr.sameBits (n + 1) (.agg us.toArray) (.agg vs.toArray) = true := fun n => by
          simp only [Instr.sameBits, Bool.and_eq_true, List.all_eq_true, beq_iff_eq]
          refine ⟨by simp; omega, fun x hx => ?_⟩
          obtain ⟨j, hj⟩ := List.mem_iff_getElem?.1 hx
          rw [List.getElem?_zip_eq_some] at hj
          have hj1 : j < ds.length := by have := (List.getElem?_eq_some_iff.1 hj.1).1; omega
          have hj2 : j < cs.length := by omega
          obtain ⟨k, hk⟩ := eqCells_true h j cs[j] ds[j] (by simp [hj2]) (by simp [hj1])
          exact cell_bits hk (hr1 j _ _ (by simp [hj2]) hj.2) (hr2 j _ _ (by simp [hj1]) hj.1) n
        exact this 9999
  · split at h
    case isTrue => cases h
    split at h
    · exact cell_bits h h1 h2 10000
    · cases h

theorem mfind_inv {q : PV} : ∀ {es : List (PV × PV)} {i0 j : Nat} {p : PV}, mfind g ks q es i0 = some (some (j, p)) → ∃ k q', j = i0 + k ∧ es[k]? = some (q', p) ∧ keq g ks q q' = some true
  | [], _, _, _, h => by simp [mfind] at h
  | e :: es, i0, j, p, h => by
    simp only [mfind, Option.bind_eq_some_iff] at h
    obtain ⟨c, hc, h⟩ := h
    cases c with
    | true =>
      simp only [if_true, Option.some.injEq, Prod.mk.injEq] at h
      exact ⟨0, e.1, by omega, by rw [← h.2]; rfl, hc⟩
    | false =>
      obtain ⟨k, q', h1, h2, h3⟩ := mfind_inv (es := es) (i0 := i0 + 1) (by simpa only [Bool.false_eq_true, if_false] using h)
      exact ⟨k + 1, q', by omega, by simpa using h2, h3⟩

theorem key_check {em : Bool} (hk : keyKs P t = some (g, ks)) {q : PV} {u : Value} (h : keq g ks q q = some true) (h1 : Rep w ok β q u) : (Instr.checkKey em 10000 t u).run P w = .ok () w := by
  rcases keyKs_inv hk with ⟨rfl, k, rfl, hh⟩ | ⟨rfl, fs, hu, hs⟩
  · have this : ∀ n, (Instr.checkKey em (n + 1) t u).run P w = .ok () w := fun n => by
      rcases hh with ⟨hu, rfl⟩ | ⟨K, hu, rfl⟩ | ⟨hu, rfl⟩ <;> simp [Instr.checkKey, run_und hu]
    exact this 9999
  · obtain ⟨cs, ds, rfl, he, h⟩ := keq_true h
    cases h1 with
    | agg _ vs hl1 h11 hr1 =>
      have := check_scal (P := P) (w := w) (em := em) 20 t ks hs 10000 (by omega) cs vs hl1 (eqCells_len h).1
      simpa only [valOf, tyAgg, hu, if_true] using this

/-- A key lies the same wherever it lies. -/
theorem key_any {q : PV} {u : Value} {β' : Ids} (h : keq g ks q q = some true) (h1 : Rep w ok β q u) : Rep w ok β' q u := by
  have one : ∀ {k c : PV} {u : Value}, eq1 k c c = some true → Rep w ok β c u → Rep w ok β' c u := fun {k c u} h h1 => by
    rcases eq1_inv h with ⟨x, y, rfl, _, h⟩ | ⟨K, x, y, rfl, _, h⟩ | ⟨x, y, rfl, _, h⟩ <;> cases h1
    · exact .bool _
    · exact .int _ _
    · exact .str _
  cases g with
  | true =>
    obtain ⟨cs, ds, rfl, he, h⟩ := keq_true h
    injection he with he; subst he
    cases h1 with
    | agg _ vs hl1 h11 hr1 =>
      refine .agg _ vs hl1 h11 fun j c v hc hv => ?_
      obtain ⟨k, hk⟩ := eqCells_true h j c c hc hc
      exact one hk (hr1 j c v hc hv)
  | false =>
    unfold keq at h
    split at h
    · simp at h
    · split at h
      · rename_i hh; cases hh
      split at h
      · exact one h h1
      · cases h

theorem zero_rep {z : PV} (h : tyZ P t = some z) : ∃ v, (zeroValue t).run P w = .ok v w ∧ Rep w ok β z v := by
  unfold tyZ at h
  cases hi : P.info? t with
  | none => simp [hi] at h
  | some i =>
    cases hz : i.zero with
    | none => simp [hi, hz] at h
    | some v => simp [hi, hz] at h; exact ⟨v, by simp [zeroValue, run_info hi, hz], ofVal_rep h⟩

theorem ents_of {cap bb : Nat} {es : List (PV × PV)} (h : ORep w ok β (.at bb cap) (.map es)) : ∃ ents : Array MapEntry, w.heap[bb]? = some (.map ents es.length) ∧ Ents w ok β es ents.toList := by
  obtain ⟨⟨ents, h1, h2, h3⟩, _⟩ := h
  refine ⟨ents, h1, by simpa using h2, fun j e x he hx => ?_⟩
  obtain ⟨y, hy, g1, g2, g3⟩ := h3 j e he
  rw [Array.getElem?_toList] at hx
  rw [hx] at hy; injection hy with hy; subst hy
  exact ⟨g1, g2, g3⟩
theorem of_ents {cap bb : Nat} {es : List (PV × PV)} {ents : Array MapEntry} (h1 : w.heap[bb]? = some (.map ents es.length)) (h2 : Ents w ok β es ents.toList) (h3 : ¬ ok bb) : ORep w ok β (.at bb cap) (.map es) := by
  refine ⟨⟨ents, h1, by simpa using h2.1, fun j e he => ?_⟩, h3⟩
  have hj : j < ents.size := by
    have h5 : ents.size = es.length := by simpa using h2.1
    rw [h5]; exact (List.getElem?_eq_some_iff.1 he).1
  exact ⟨ents[j], by simp [hj], h2.2 j e _ he (by simp [hj])⟩

theorem keyKs_of {Z : Bool → List PV → PV → Option XI} {x : XI} {td : TypeDesc} (hx : compMap P Z td = some x) : ∃ key elem g ks z, td = .map key elem ∧ keyKs P key = some (g, ks) ∧ tyZ P elem = some z ∧ Z g ks z = some x := by
  cases td <;> simp only [compMap, reduceCtorEq, Option.bind_eq_some_iff] at hx
  rename_i key elem
  obtain ⟨⟨g, ks⟩, h1, z, h2, h3⟩ := hx
  exact ⟨key, elem, g, ks, z, rfl, h1, h2, h3⟩

theorem mget_some {q : PV} {es : List (PV × PV)} {r : Option (Nat × PV)} (h : mget g ks q es = some r) : keq g ks q q = some true ∧ mfind g ks q es 0 = some r := by
  unfold mget at h
  split at h
  · rename_i hc; exact ⟨hc, h⟩
  · cases h

/-- A map's entries, behind its value. -/
theorem mes_rep (hm : MSat w ok β m) {p : PV} {v : Value} {es : List (PV × PV)} (h : mes m p = some es) (hr : Rep w ok β p v) :
    (v = .map none ∧ es = [] ∧ p = .nilm) ∨ ∃ id bb cap ents, p = .map id ∧ m id = some (.map es) ∧ β id = some (.at bb cap) ∧ v = .map (some bb) ∧ w.heap[bb]? = some (.map ents es.length) ∧ Ents w ok β es ents.toList := by
  cases p <;> simp only [mes, reduceCtorEq] at h
  · injection h with h; subst h; cases hr; exact .inl ⟨rfl, rfl, rfl⟩
  · rename_i id
    split at h
    case h_2 => cases h
    rename_i es' hid
    injection h with h; subst h
    cases hr with
    | map _ bb cap hb =>
      obtain ⟨ents, h1, h2⟩ := ents_of (hm.orep hid hb)
      exact .inr ⟨id, bb, cap, ents, rfl, hid, hb, rfl, h1, h2⟩

theorem vopLook_rep {okb : Bool} {z : PV} {vz : Value} {r : Option (Nat × PV)} {r' : Option (Nat × Value)} (hz : Rep w ok β z vz) (hf : Found w ok β r r') :
    Rep w ok β (vopLook okb z r) (if okb then .tuple #[(match r' with | some x => x.2 | none => vz), .bool r'.isSome] else (match r' with | some x => x.2 | none => vz)) := by
  have hv : Rep w ok β (mval z r) (match r' with | some x => x.2 | none => vz) ∧ r.isSome = r'.isSome := by
    cases r <;> cases r' <;> simp only [Found] at hf
    · exact ⟨hz, rfl⟩
    · exact ⟨hf.2, rfl⟩
  unfold vopLook
  cases okb
  · exact hv.1
  · refine .tup _ [_, _] rfl fun j c v hc hv' => ?_
    match j with
    | 0 => simp at hc hv'; subst hc; subst hv'; exact hv.1
    | 1 => simp at hc hv'; subst hc; subst hv'; rw [hv.2]; exact .bool _
    | j + 2 => simp at hc

theorem op_lookup (hs : Sat0 F β ok e m a w) {tm key elem : TypeId} {X K : Operand} {x k : XA} {okb : Bool} {z : PV} (ho : o.op = .lookup tm X K okb) (hu : P.underlying tm = some (.map key elem)) (hk : keyKs P key = some (g, ks)) (hz : tyZ P elem = some z)
    (hx : cA X = some x) (hK : cA K = some k) (h : vopF (.lookup g ks z okb x k) e m b = some (p, d)) : OpOk P F β ok e m a w b o p d := by
  simp only [vopF, Option.bind_eq_some_iff] at h
  obtain ⟨pm, hpm, q, hq, es, hes, r, hr, h⟩ := h
  simp only [Option.some.injEq, Prod.mk.injEq] at h
  obtain ⟨rfl, rfl⟩ := h
  have h1 := ev_rep hs hx hpm
  have h2 := ev_rep hs hK hq
  obtain ⟨hkk, hf⟩ := mget_some hr
  generalize hv : a.eval X = vx at h1
  generalize hw : a.eval K = vk at h2
  obtain ⟨vz, hzr, hzz⟩ := zero_rep (P := P) (w := w) (ok := ok) (β := β) hz
  rcases mes_rep hs.mem hes h1 with ⟨rfl, rfl, rfl⟩ | ⟨id, bb, cap, ents, rfl, hid, hb, rfl, g1, g2⟩
  · simp [mfind] at hf; subst hf
    obtain ⟨r', hrun, hfd⟩ := run_find (es := []) (ents := []) hk h2 ⟨rfl, by simp⟩ rfl
    have hr0 : r' = none := by cases r' with | none => rfl | some x => exact hfd.elim
    subst hr0
    refine .value hs ?_ (vopLook_rep (okb := okb) (r := none) (r' := none) hzz trivial)
    simp only [execOp, ho]
    refine exec_value ?_
    simp only [Instr.lookup, Sem.run_bind, run_und hu, Result.andThen_ok, hv, hw, Sem.run_pure, key_check hk hkk h2, Array.toList_empty, hrun, hzr]
    cases okb <;> rfl
  · obtain ⟨r', hrun, hfd⟩ := run_find hk h2 g2 hf
    refine .value hs ?_ (vopLook_rep (okb := okb) (r := r) (r' := r') hzz hfd)
    simp only [execOp, ho]
    refine exec_value ?_
    simp only [Instr.lookup, Sem.run_bind, run_und hu, Result.andThen_ok, hv, hw, Sem.run_pure, run_getObj g1 rfl, key_check hk hkk h2, hrun, hzr]
    cases r' <;> cases okb <;> simp [hzr]

end
end Go.Vx
