/- The engine, part 13b: maps that are turned; ranges over maps. -/
import Derived.Test.YtgkkffhoflgpoaaVma
set_option linter.unusedVariables false
set_option linter.unusedSimpArgs false
namespace Go.Vx
open Go Go.RowKit

section
variable {P : Program} {F : Fr} {β : Ids} {ok : Nat → Prop} {e : Nat → Option PV} {m : Mem} {a : Act} {w : World} {b : Nat} {o : Oper} {p : PV} {d : Delta} {g : Bool} {ks : List PV} {t : TypeId}

theorem exec_skip {s : Sem Unit} {w' : World} (h : s.run P w = .ok () w') : ((do s; pure Next.skip) : Sem Next).run P w = .ok .skip w' := by
  simp [Sem.run_bind, h]

theorem exec_val2 {s : Sem Value} {v : Value} {w' : World} (h : s.run P w = .ok v w') : ((do pure (Next.value (← s))) : Sem Next).run P w = .ok (.value v) w' := by
  simp [Sem.run_bind, h]
def mputA (ents : Array MapEntry) (n : Nat) (vk vv : Value) : Option (Nat × Value) → Array MapEntry
  | some x => ents.modify x.1 fun e => { e with key := vk, val := vv }
  | none => ents.push { key := vk, val := vv, born := n }

theorem setB_frame {r : Nat} {O : Go.Obj} : (setB w r O).os = w.os ∧ (setB w r O).tape = w.tape ∧ (setB w r O).output = w.output ∧ (setB w r O).drawn = w.drawn := ⟨rfl, rfl, rfl, rfl⟩

/-- An object that lies in a block without cells is turned. -/
theorem OpOk.turn (hs : Sat0 F β ok e m a w) {id : Nat} {ob ob' : Obj} {g cap : Nat} {O : Go.Obj} {v : Value} (hid : m id = some ob) (hf : ob.fz = false) (hf' : ob'.fz = false) (hb : β id = some (.at g cap))
    (hrun : (execOp a.eval o).run P w = .ok (.value v) (setB w g O) ∨ ((execOp a.eval o).run P w = .ok .skip (setB w g O) ∧ v = undef)) (hp : (∀ p v, Rep w ok β p v → Rep (setB w g O) ok β p v) → Rep (setB w g O) ok β p v)
    (ho : (∀ p v, Rep w ok β p v → Rep (setB w g O) ok β p v) → (∀ p v, Rep w ok noIds p v → Rep (setB w g O) ok noIds p v) → ORep (setB w g O) ok β (.at g cap) ob') : OpOk P F β ok e m a w b o p [(id, some ob')] := by
  have hown : Owns β m g := ⟨id, ob, cap, hid, hf, hb⟩
  have hokw : ∀ k, ok k → (setB w g O).heap[k]? = w.heap[k]? := fun k hk => setB_other k fun h => hs.mem.not_ok hown (h ▸ hk)
  refine ⟨v, setB w g O, β, hrun, hp fun p v h => h.mono hokw (fun _ h => h) _ (fun _ _ h => h), ?_, fun _ _ => rfl⟩
  exact hs.change hid hf hf' hb rfl rfl rfl setB_size (Nat.le_refl _) (fun k hk => setB_other k hk) ho

theorem op_mkmap (hs : Sat0 F β ok e m a w) (hb : β b = none) {t : TypeId} (ho : o.op = .makeMap t none) (h : vopF .mkmap e m b = some (p, d)) : OpOk P F β ok e m a w b o p d := by
  simp only [vopF, Option.some.injEq, Prod.mk.injEq] at h
  obtain ⟨rfl, rfl⟩ := h
  refine ⟨.map (some w.heap.size), w.alloc (.map #[] 0), upd β b (some (.at w.heap.size 0)), .inl ?_, .map b _ 0 (by simp [upd]), ?_, fun id h => by simp [upd, h]⟩
  · simp only [execOp, ho]
    refine exec_val2 ?_
    simp [Instr.makeMap]
  · exact hs.alloc hb _ _ 0 ⟨⟨#[], heap_alloc_new w _, rfl, by simp⟩, not_ok_new hs⟩

theorem mput_ents {w' : World} {es : List (PV × PV)} {ents : Array MapEntry} {q pv : PV} {vk vv : Value} {r : Option (Nat × PV)} {r' : Option (Nat × Value)} (hs1 : ∀ p v, Rep w ok β p v → Rep w' ok β p v) (hs2 : ∀ p v, Rep w ok noIds p v → Rep w' ok noIds p v)
    (he : Ents w ok β es ents.toList) (hq : Rep w ok noIds q vk) (hv : Rep w ok β pv vv) (hf : Found w ok β r r') (hr : ∀ j x, r = some (j, x) → j < es.length) :
    Ents w' ok β (mput es q pv r) (mputA ents es.length vk vv r').toList := by
  have hl : ents.size = es.length := by simpa using he.1
  cases r with
  | none =>
    cases r' with
    | some _ => exact hf.elim
    | none =>
      refine ⟨by simp [mput, mputA, hl], fun j e x h1 h2 => ?_⟩
      simp only [mput, mputA, Array.toList_push] at h1 h2
      by_cases hj : j < es.length
      · rw [List.getElem?_append_left hj] at h1
        rw [List.getElem?_append_left (by rw [he.1]; exact hj)] at h2
        obtain ⟨g1, g2, g3⟩ := he.2 j e x h1 h2
        exact ⟨hs2 _ _ g1, hs1 _ _ g2, g3⟩
      · rw [List.getElem?_append_right (by omega)] at h1
        rw [List.getElem?_append_right (by rw [he.1]; omega), he.1] at h2
        have hj0 : j - es.length = 0 := by have := (List.getElem?_eq_some_iff.1 h1).1; simp at this; omega
        rw [hj0] at h1 h2
        simp at h1 h2
        subst h1; subst h2
        exact ⟨hs2 _ _ hq, hs1 _ _ hv, by show es.length = j; omega⟩
  | some x =>
    obtain ⟨i, p0⟩ := x
    cases r' with
    | none => exact hf.elim
    | some y =>
      obtain ⟨i', v0⟩ := y
      obtain ⟨rfl, _⟩ := hf
      have hi := hr i p0 rfl
      refine ⟨by simp [mput, mputA, hl], fun j e x h1 h2 => ?_⟩
      simp only [mput, mputA, Array.toList_modify, List.getElem?_modify, List.getElem?_set] at h1 h2
      by_cases hj : i = j
      · subst hj
        simp only [if_true, hi] at h1 h2
        simp only [Option.map_eq_map, Option.map_eq_some_iff] at h2
        obtain ⟨y, hy, rfl⟩ := h2
        injection h1 with h1; subst h1
        have := (he.2 i es[i] y (by simp [hi]) hy).2.2
        exact ⟨hs2 _ _ hq, hs1 _ _ hv, this⟩
      · rw [if_neg hj] at h1
        obtain ⟨g1, g2, g3⟩ := he.2 j e x h1 (by simpa [hj] using h2)
        exact ⟨hs2 _ _ g1, hs1 _ _ g2, g3⟩

theorem mput_len {es : List (PV × PV)} {q v : PV} {r : Option (Nat × PV)} : (mput es q v r).length = (match r with | some _ => es.length | none => es.length + 1) := by
  cases r <;> simp [mput]

theorem key_stays (hk : keyKs P t = some (g, ks)) {q : PV} {vk : Value} {es : List (PV × PV)} {ents : Array MapEntry} {i : Nat} {x : PV} {v : Value} (he : Ents w ok β es ents.toList) (hq : Rep w ok β q vk) (hf : mfind g ks q es 0 = some (some (i, x))) :
    i < es.length ∧ (Instr.keyThatStays (((ents[i]?).map (·.key)).getD vk) vk).run P w = .ok vk w := by
  obtain ⟨k, q', h1, h2, h3⟩ := mfind_inv hf
  obtain rfl : i = k := by omega
  have hi : i < es.length := (List.getElem?_eq_some_iff.1 h2).1
  have hi' : i < ents.size := by have h5 : ents.size = es.length := by simpa using he.1
                                 omega
  obtain ⟨g1, _, _⟩ := he.2 i _ ents[i] h2 (by simp [hi'])
  refine ⟨hi, ?_⟩
  simp only [Array.getElem?_eq_getElem hi', Option.map_some, Option.getD_some, Instr.keyThatStays, key_bits h3 hq g1, if_true, Sem.run_pure]

theorem op_mapUpd (hs : Sat0 F β ok e m a w) {tm key elem : TypeId} {X K Y : Operand} {x k y : XA} (ho : o.op = .mapUpdate tm X K Y ∨ o.op = .insert tm X K Y) (hu : P.underlying tm = some (.map key elem)) (hk : keyKs P key = some (g, ks))
    (hx : cA X = some x) (hK : cA K = some k) (hY : cA Y = some y) (h : vopF (.mapUpd g ks x k y) e m b = some (p, d)) : OpOk P F β ok e m a w b o p d := by
  simp only [vopF, Option.bind_eq_some_iff] at h
  obtain ⟨pm, hpm, q, hq, pv, hpv, h⟩ := h
  have h1 := ev_rep hs hx hpm
  have h2 := ev_rep hs hK hq
  have h3 := ev_rep hs hY hpv
  cases pm <;> simp only [reduceCtorEq] at h
  rename_i id
  cases hid : m id with
  | none => simp [hid] at h
  | some ob =>
    rw [hid] at h
    cases ob <;> simp only [reduceCtorEq, Option.bind_eq_some_iff] at h
    rename_i es
    obtain ⟨r, hr, h⟩ := h
    split at h
    case isFalse => cases h
    rename_i hnt
    simp only [Option.some.injEq, Prod.mk.injEq] at h
    obtain ⟨rfl, rfl⟩ := h
    obtain ⟨hkk, hf⟩ := mget_some hr
    generalize hv : a.eval X = vx at h1
    generalize hw : a.eval K = vk at h2
    generalize hwy : a.eval Y = vy at h3
    cases h1 with
    | map _ bb cap hb =>
      have hor := hs.mem.orep hid hb
      obtain ⟨ents, g1, g2⟩ := ents_of hor
      obtain ⟨r', hrun, hfd⟩ := run_find hk h2 g2 hf
      have hri : ∀ j x, r = some (j, x) → j < es.length := fun j x h => by subst h; exact (key_stays (v := vk) hk g2 h2 hf).1
      have hbl : bb < w.heap.size := (Array.getElem?_eq_some_iff.1 g1).1
      refine OpOk.turn (v := undef) hs (ob' := .map (mput es q pv r)) (O := .map (mputA ents es.length vk vy r') (mput es q pv r).length) hid rfl rfl hb (.inr ⟨?_, rfl⟩) (fun _ => .tup [] [] rfl (by simp)) fun hs1 hs2 => ?_
      · have hex : (execOp a.eval o).run P w = ((do Instr.mapUpdate tm (a.eval X) (a.eval K) (a.eval Y); pure Next.skip) : Sem Next).run P w := by
          rcases ho with ho | ho <;> simp only [execOp, ho]
        rw [hex]
        refine exec_skip ?_
        simp only [Instr.mapUpdate, Sem.run_bind, run_und hu, Result.andThen_ok, hv, hw, hwy, run_getObj g1 rfl, key_check hk hkk h2, hrun]
        cases r with
        | none =>
          cases r' with
          | some _ => exact hfd.elim
          | none => simp only [run_setObj _ g1 rfl, mput, mputA, List.length_append, List.length_cons, List.length_nil]
        | some z =>
          obtain ⟨i, p0⟩ := z
          cases r' with
          | none => exact hfd.elim
          | some z' =>
            obtain ⟨i', v0⟩ := z'
            obtain ⟨rfl, _⟩ := hfd
            have hst := (key_stays (v := vk) hk g2 h2 hf).2
            simp only [Sem.run_bind, hst, Result.andThen_ok, run_setObj _ g1 rfl, mput, mputA, List.length_set]
      · refine of_ents (setB_same hbl) ?_ hor.2
        exact mput_ents hs1 hs2 g2 (key_any hkk h2) h3 hfd hri

theorem op_mapEnt (hs : Sat0 F β ok e m a w) {tm key elem : TypeId} {X K : Operand} {x k : XA} {z : PV} (ho : o.op = .mapEntry tm X K) (hu : P.underlying tm = some (.map key elem)) (hk : keyKs P key = some (g, ks)) (hz : tyZ P elem = some z)
    (hx : cA X = some x) (hK : cA K = some k) (h : vopF (.mapEnt g ks z x k) e m b = some (p, d)) : OpOk P F β ok e m a w b o p d := by
  simp only [vopF, Option.bind_eq_some_iff] at h
  obtain ⟨pm, hpm, q, hq, h⟩ := h
  have h1 := ev_rep hs hx hpm
  have h2 := ev_rep hs hK hq
  cases pm <;> simp only [reduceCtorEq] at h
  rename_i id
  cases hid : m id with
  | none => simp [hid] at h
  | some ob =>
    rw [hid] at h
    cases ob <;> simp only [reduceCtorEq, Option.bind_eq_some_iff] at h
    rename_i es
    obtain ⟨r, hr, h⟩ := h
    split at h
    case isFalse => cases h
    rename_i hnt
    simp only [Option.some.injEq, Prod.mk.injEq] at h
    obtain ⟨rfl, rfl⟩ := h
    obtain ⟨hkk, hf⟩ := mget_some hr
    generalize hv : a.eval X = vx at h1
    generalize hw : a.eval K = vk at h2
    obtain ⟨vz, hzr, hzz⟩ := zero_rep (P := P) (w := w) (ok := ok) (β := β) hz
    cases h1 with
    | map _ bb cap hb =>
      have hor := hs.mem.orep hid hb
      obtain ⟨ents, g1, g2⟩ := ents_of hor
      obtain ⟨r', hrun, hfd⟩ := run_find hk h2 g2 hf
      have hri : ∀ j x, r = some (j, x) → j < es.length := fun j x h => by subst h; exact (key_stays (v := vk) hk g2 h2 hf).1
      have hbl : bb < w.heap.size := (Array.getElem?_eq_some_iff.1 g1).1
      have hl : ents.size = es.length := by simpa using g2.1
      obtain ⟨vv, hvv⟩ : ∃ vv, vv = (match r' with | some x => x.2 | none => vz) := ⟨_, rfl⟩
      have hval : Rep w ok β (mval z r) vv := by
        subst hvv
        cases r <;> cases r' <;> simp only [Found] at hfd
        · exact hzz
        · exact hfd.2
      obtain ⟨v2, hv2⟩ : ∃ v2, v2 = (match r' with | some x => ((ents[x.1]?).map (fun (e : MapEntry) => e.val)).getD vz | none => vz) := ⟨_, rfl⟩
      have hval2 : Rep w ok β (mval z r) v2 := by
        subst hv2
        cases r with
        | none =>
          cases r' with
          | none => exact hzz
          | some _ => exact hfd.elim
        | some y =>
          obtain ⟨i, p0⟩ := y
          cases r' with
          | none => exact hfd.elim
          | some z' =>
            obtain ⟨i', v0⟩ := z'
            obtain ⟨rfl, _⟩ := hfd
            have hi := hri i p0 rfl
            have hi' : i < ents.size := by omega
            obtain ⟨j, q', j1, j2, j3⟩ := mfind_inv hf
            obtain rfl : i = j := by omega
            have := (g2.2 i _ ents[i] j2 (by simp [hi'])).2.1
            simpa [hi', mval] using this
      refine OpOk.turn (v := .tuple #[vv, .int .i64 (mstamp es r)]) hs (ob' := .map (mput es q (mval z r) r)) (O := .map (mputA ents es.length vk v2 r') (mput es q (mval z r) r).length) hid rfl rfl hb (.inl ?_) (fun hs1 => ?_) fun hs1 hs2 => ?_
      · simp only [execOp, ho]
        refine exec_val2 ?_
        simp only [Instr.mapEntry, Sem.run_bind, run_und hu, Result.andThen_ok, hv, hw, run_getObj g1 rfl, key_check hk hkk h2, hrun]
        cases r with
        | none =>
          cases r' with
          | some _ => exact hfd.elim
          | none =>
            simp only at hvv hv2; subst hvv; subst hv2
            simp only [Sem.run_bind, hzr, Result.andThen_ok, run_setObj _ g1 rfl, mput, mputA, mval, mstamp, List.length_append, List.length_cons, List.length_nil, Sem.run_pure, goInt]
        | some y =>
          obtain ⟨i, p0⟩ := y
          cases r' with
          | none => exact hfd.elim
          | some z' =>
            obtain ⟨i', v0⟩ := z'
            obtain ⟨rfl, _⟩ := hfd
            simp only at hvv hv2; subst hvv; subst hv2
            have hst := (key_stays (v := vk) hk g2 h2 hf).2
            have hi := hri i p0 rfl
            have hi' : i < ents.size := by omega
            obtain ⟨j, q', j1, j2, j3⟩ := mfind_inv hf
            obtain rfl : i = j := by omega
            obtain ⟨_, e2, e3⟩ := g2.2 i _ ents[i] j2 (by simp [hi'])
            have hsame : (ents.modify i fun e => { e with key := vk }) = (ents.modify i fun e => { e with key := vk, val := ents[i].val }) := by
              refine Array.ext (by simp) fun j h1 h2 => ?_
              simp only [Array.getElem_modify]
              split
              · rename_i hij; subst hij; rfl
              · rfl
            simp only [Array.getElem?_eq_getElem hi', Option.map_some, Option.getD_some] at hst ⊢
            simp only [Sem.run_bind, hst, Result.andThen_ok, run_setObj _ g1 rfl, mput, mputA, mval, mstamp, List.length_set, Sem.run_pure, goInt, Array.getElem?_eq_getElem hi', Option.map_some, Option.getD_some, e3, hsame]
      · refine .tup _ [_, _] rfl fun j c v hc hv' => ?_
        match j with
        | 0 => simp at hc hv'; subst hc; subst hv'; exact hs1 _ _ hval
        | 1 => simp at hc hv'; subst hc; subst hv'; exact .int _ _
        | j + 2 => simp at hc
      · refine of_ents (setB_same hbl) ?_ hor.2
        exact mput_ents hs1 hs2 g2 (key_any hkk h2) hval2 hfd hri

theorem op_entSto (hs : Sat0 F β ok e m a w) {tm : TypeId} {X S Y : Operand} {x s y : XA} (ho : o.op = .entryStore tm X S Y) (hx : cA X = some x) (hS : cA S = some s) (hY : cA Y = some y) (h : vopF (.entSto x s y) e m b = some (p, d)) : OpOk P F β ok e m a w b o p d := by
  simp only [vopF, Option.bind_eq_some_iff] at h
  obtain ⟨pm, hpm, q, hq, pv, hpv, i, hi, h⟩ := h
  have h1 := ev_rep hs hx hpm
  have h2 := ev_rep hs hS hq
  have h3 := ev_rep hs hY hpv
  cases pm <;> simp only [reduceCtorEq] at h
  rename_i id
  cases hid : m id with
  | none => simp [hid] at h
  | some ob =>
    rw [hid] at h
    cases ob <;> simp only [reduceCtorEq, Option.bind_eq_some_iff] at h
    rename_i es
    obtain ⟨r, hr, h⟩ := h
    split at h
    case isFalse => cases h
    simp only [Option.some.injEq, Prod.mk.injEq] at h
    obtain ⟨rfl, rfl⟩ := h
    generalize hv : a.eval X = vx at h1
    generalize hw : a.eval S = vk at h2
    generalize hwy : a.eval Y = vy at h3
    obtain ⟨K, rfl⟩ := idx_rep hi h2
    cases h1 with
    | map _ bb cap hb =>
      have hor := hs.mem.orep hid hb
      obtain ⟨ents, g1, g2⟩ := ents_of hor
      have hbl : bb < w.heap.size := (Array.getElem?_eq_some_iff.1 g1).1
      have hl : ents.size = es.length := by simpa using g2.1
      have hil : i < es.length := (List.getElem?_eq_some_iff.1 hr).1
      have hi' : i < ents.size := by omega
      have hfi : ents.findIdx? (fun e => ((e.born : Int) == (i : Int))) = some i := by
        rw [Array.findIdx?_eq_some_iff_getElem]
        refine ⟨hi', ?_, fun j hj => ?_⟩
        · rw [(g2.2 i es[i] ents[i] (by simp [hil]) (by simp [hi'])).2.2]; simp
        · rw [(g2.2 j es[j] ents[j] (by simp) (by simp)).2.2]; simp; omega
      refine OpOk.turn (v := undef) hs (ob' := .map (es.set i (r.1, pv))) (O := .map (ents.modify i fun e => { e with val := vy }) es.length) hid rfl rfl hb (.inr ⟨?_, rfl⟩) (fun _ => .tup [] [] rfl (by simp)) fun hs1 hs2 => ?_
      · simp only [execOp, ho]
        refine exec_skip ?_
        simp only [Instr.entryStore, Sem.run_bind, Result.andThen_ok, hv, hw, hwy, run_getObj g1 rfl, asInt, asIntOf, Sem.run_pure, hfi, run_setObj _ g1 rfl]
      · refine of_ents (ents := ents.modify i fun e => { e with val := vy }) (by rw [List.length_set]; exact setB_same hbl) ?_ hor.2
        refine ⟨by simp [hl], fun j e x h1 h2 => ?_⟩
        simp only [Array.toList_modify, List.getElem?_modify, List.getElem?_set] at h1 h2
        by_cases hj : i = j
        · subst hj
          simp only [if_true, hil] at h1 h2
          simp only [Option.map_eq_map, Option.map_eq_some_iff] at h2
          obtain ⟨y, hy, rfl⟩ := h2
          injection h1 with h1; subst h1
          obtain ⟨j1, j2, j3⟩ := g2.2 i r y hr hy
          exact ⟨hs2 _ _ j1, hs1 _ _ h3, j3⟩
        · rw [if_neg hj] at h1
          obtain ⟨g1, g2, g3⟩ := g2.2 j e x h1 (by simpa [hj] using h2)
          exact ⟨hs2 _ _ g1, hs1 _ _ g2, g3⟩

theorem op_lenM (hs : Sat0 F β ok e m a w) {X : Operand} {x : XA} {t kt et : TypeId} (ho : o.op = .call { callee := .builtin .len, args := #[X], argTypes := #[t] }) (ht : P.underlying t = some (.map kt et)) (hx : cA X = some x)
    (h : vopF (.lenM x) e m b = some (p, d)) : OpOk P F β ok e m a w b o p d := by
  simp only [vopF, Option.bind_eq_some_iff] at h
  obtain ⟨pm, hpm, es, hes, h⟩ := h
  simp only [Option.some.injEq, Prod.mk.injEq] at h
  obtain ⟨rfl, rfl⟩ := h
  have h1 := ev_rep hs hx hpm
  generalize hv : a.eval X = vx at h1
  refine .value hs (v := .int .i64 es.length) ?_ (.int _ _)
  rcases mes_rep hs.mem hes h1 with ⟨rfl, rfl, rfl⟩ | ⟨id, bb, cap, ents, rfl, hid, hb, rfl, g1, g2⟩
  · simp [execOp, ho, resolve, invoke, builtin, hv, Builtin.len_, run_und ht, goInt]
  · have hl : ents.size = es.length := by simpa using g2.1
    simp [execOp, ho, resolve, invoke, builtin, hv, Builtin.len_, run_und ht, run_getObj g1 rfl, goInt, hl]

theorem run_eqNilM {t kt et : TypeId} (ht : P.underlying t = some (.map kt et)) (c : Option Nat) : (Op.equal t (.map none) (.map c)).run P w = .ok c.isNone w := by
  have : ∀ n, (Op.equalIn (n + 1) t (.map none) (.map c)).run P w = .ok c.isNone w := fun n => by simp [Op.equalIn, run_und ht]
  exact this 9999
theorem run_eqNilM' {t kt et : TypeId} (ht : P.underlying t = some (.map kt et)) (c : Nat) : (Op.equal t (.map (some c)) (.map none)).run P w = .ok false w := by
  have : ∀ n, (Op.equalIn (n + 1) t (.map (some c)) (.map none)).run P w = .ok false w := fun n => by simp [Op.equalIn, run_und ht]
  exact this 9999

theorem op_eqm (hs : Sat0 F β ok e m a w) {X Y : Operand} {x y : XA} {neg : Bool} {t u kt et : TypeId} (ho : o.op = .binOp (if neg then .neq else .eql) t X Y u) (ht : P.underlying t = some (.map kt et)) (hx : cA X = some x) (hy : cA Y = some y)
    (h : vopF (.eqm neg x y) e m b = some (p, d)) : OpOk P F β ok e m a w b o p d := by
  simp only [vopF, Option.bind_eq_some_iff] at h
  obtain ⟨q, hq, r, hr, h⟩ := h
  have h1 := ev_rep hs hx hq
  have h2 := ev_rep hs hy hr
  generalize hv : a.eval X = vx at h1
  generalize hu : a.eval Y = vy at h2
  have hg : ∀ op c d, (eqGuard op t X Y (.map c) (.map d)).run P w = .ok () w := fun op c d => by cases op <;> rfl
  cases q <;> cases r <;> simp at h <;> obtain ⟨rfl, rfl⟩ := h <;> cases h1 <;> cases h2 <;>
    (refine .value hs (v := .bool _) ?_ (.bool _); cases neg <;> simp only [execOp, ho, hv, hu, Bool.false_eq_true, if_false, if_true, binOp, Sem.run_bind, hg, Result.andThen_ok, run_eqNilM ht, run_eqNilM' ht, Sem.run_pure] <;> rfl)

theorem op_range (hs : Sat0 F β ok e m a w) (hb : β b = none) {X : Operand} {x : XA} {t kt et : TypeId} (ho : o.op = .range t X) (ht : P.underlying t = some (.map kt et)) (hx : cA X = some x)
    (h : vopF (.range x) e m b = some (p, d)) : OpOk P F β ok e m a w b o p d := by
  simp only [vopF, Option.bind_eq_some_iff] at h
  obtain ⟨q, hq, h⟩ := h
  have h1 := ev_rep hs hx hq
  generalize hv : a.eval X = vx at h1
  have key : ∀ (mid : Option Nat) (n : Nat) (mo : Option Nat), (Instr.range t vx).run P w = .ok (.pointer (some ⟨w.heap.size, 0, none⟩)) (w.alloc (.mapIter mo n #[] n)) → (match (mid : Option Nat) with
      | none => mo = none
      | some id => ∃ mb cap, mo = some mb ∧ β id = some (.at mb cap)) → OpOk P F β ok e m a w b o (.ptr b 0 0 0) [(b, some (.iter mid n [] n))] := by
    intro mid n mo hrun hmid
    refine ⟨.pointer (some ⟨w.heap.size, 0, none⟩), w.alloc (.mapIter mo n #[] n), upd β b (some (.at w.heap.size 0)), .inl ?_, ?_, ?_, fun id h => by simp [upd, h]⟩
    · simp only [execOp, ho, hv]
      exact exec_val2 hrun
    · exact .ptr b 0 0 0 _ 0 (by simp [upd])
    · refine hs.alloc hb _ _ 0 ⟨⟨mo, heap_alloc_new w _, ?_, by simp⟩, not_ok_new hs⟩
      cases mid with
      | none => exact hmid
      | some id =>
        obtain ⟨mb, cap, e1, e2⟩ := hmid
        exact ⟨mb, cap, e1, beta_upd hb _ _ e2⟩
  cases q <;> simp only [reduceCtorEq] at h
  · simp only [Option.some.injEq, Prod.mk.injEq] at h
    obtain ⟨rfl, rfl⟩ := h
    cases h1
    exact key none 0 none (by simp [Instr.range, run_und ht]) rfl
  · rename_i id
    cases hid : m id with
    | none => simp [hid] at h
    | some ob =>
      rw [hid] at h
      cases ob <;> simp only [reduceCtorEq, Option.some.injEq, Prod.mk.injEq] at h
      rename_i es
      obtain ⟨rfl, rfl⟩ := h
      cases h1 with
      | map _ bb cap hbb =>
        obtain ⟨ents, g1, g2⟩ := ents_of (hs.mem.orep hid hbb)
        exact key (some id) es.length (some bb) (by simp [Instr.range, run_und ht, run_getObj g1 rfl]) ⟨bb, cap, rfl, hbb⟩

theorem op_entry (hs : Sat0 F β ok e m a w) {X : Operand} {x : XA} (ho : o.op = .entry X) (hx : cA X = some x) (h : vopF (.entry x) e m b = some (p, d)) : OpOk P F β ok e m a w b o p d := by
  simp only [vopF, Option.bind_eq_some_iff] at h
  obtain ⟨q, hq, h⟩ := h
  have h1 := ev_rep hs hx hq
  generalize hv : a.eval X = vx at h1
  split at h
  case h_2 => cases h
  rename_i it
  split at h
  case h_2 => cases h
  rename_i id n seen last hit
  split at h
  case h_2 => cases h
  rename_i es hid
  simp only [Option.bind_eq_some_iff] at h
  obtain ⟨i, hi, h⟩ := h
  split at h
  case isFalse => cases h
  rename_i hlast
  simp only [Option.bind_eq_some_iff] at h
  obtain ⟨r, hr, h⟩ := h
  simp only [Option.some.injEq, Prod.mk.injEq] at h
  obtain ⟨rfl, rfl⟩ := h
  cases h1 with
  | ptr _ _ _ _ bl cap hb =>
    obtain ⟨⟨mo, k1, k2, k3⟩, _⟩ := hs.mem.orep hit hb
    obtain ⟨mb, cap2, rfl, hmb⟩ := k2
    obtain ⟨ents, g1, g2⟩ := ents_of (hs.mem.orep hid hmb)
    have hil : i < es.length := (List.getElem?_eq_some_iff.1 hr).1
    have hl : ents.size = es.length := by simpa using g2.1
    have hi' : i < ents.size := by omega
    obtain ⟨j1, j2, j3⟩ := g2.2 i r ents[i] hr (by simp [hi'])
    have hfi : ents.find? (fun e => e.born == i) = some ents[i] := by
      rw [Array.find?_eq_some_iff_getElem]
      refine ⟨by simp [j3], i, hi', rfl, fun j hj => ?_⟩
      rw [(g2.2 j es[j] ents[j] (by simp) (by simp)).2.2]; simp; omega
    have hbk : seen.toArray.back? = some i := by simpa using hi
    refine .value hs (v := .tuple #[ents[i].key, ents[i].val]) ?_ (.tup _ [_, _] rfl fun j c v hc hv' => ?_)
    · simp only [execOp, ho, hv]
      refine exec_value ?_
      simp [Instr.entry, run_getObj k1 rfl, run_getObj g1 rfl, hbk, hfi, hlast]
    · match j with
      | 0 => simp at hc hv'; subst hc; subst hv'; exact j1.any
      | 1 => simp at hc hv'; subst hc; subst hv'; exact j2
      | j + 2 => simp at hc

end
end Go.Vx
