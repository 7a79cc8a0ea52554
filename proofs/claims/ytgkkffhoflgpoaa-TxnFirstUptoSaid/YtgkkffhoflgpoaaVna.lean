/- The engine, part 14a: a step of a range over a map. -/
import Derived.Test.YtgkkffhoflgpoaaVn
set_option linter.unusedVariables false
set_option linter.unusedSimpArgs false
namespace Go.Vx
open Go Go.RowKit

/-- A step of a range over a map: whatever entry comes, or the end. -/
def nextP (p : PV) (m : Mem) (K : PV → Mem → Prop) : Prop :=
  match p with
  | .ptr it 0 0 0 => match m it with
    | some (.iter none _ _ _) => K (.tup [.bool false]) m
    | some (.iter (some id) n seen last) => match m id with
      | some (.map es) => last ≤ es.length ∧ (∀ i r, i ∉ seen → es[i]? = some r → K (.tup [.bool true, r.1, r.2]) (upd m it (some (.iter (some id) n (seen ++ [i]) es.length)))) ∧
          ((∀ i, i < n → i < es.length → i ∈ seen) → K (.tup [.bool false]) m)
      | _ => False
    | _ => False
  | _ => False

section
variable {P : Program} {F : Fr} {β : Ids} {ok : Nat → Prop} {e : Nat → Option PV} {m : Mem} {a : Act} {w : World} {b : Nat} {o : Oper}

theorem Sat0.drew (hs : Sat0 F β ok e m a w) : Sat0 F β ok e m a { w with drawn := w.drawn + 1 } :=
  hs.step (fun _ => False) (fun _ _ _ => rfl) (fun _ _ h => h.elim) rfl rfl rfl (Nat.le_refl _) (Nat.le_succ _) (fun _ _ h => h)
    ⟨fun id o h => by
      obtain ⟨l, hl, hr⟩ := hs.mem.objs id o h
      exact ⟨l, hl, hr.mono (fun _ _ => rfl) (fun _ h => h) (fun _ _ h => h) fun _ _ _ => ⟨rfl, fun h => h⟩⟩, hs.mem.disj⟩ (fun _ h => .inl h)

theorem run_mapNext {n : Nat} (h : 0 < n) : ∃ (j : Nat) (w1 : World), j < n ∧ (w1 = w ∨ w1 = { w with drawn := w.drawn + 1 }) ∧ (choose (Question.mapNext n)).run P w = .ok j w1 := by
  by_cases hf : n ≤ 1
  · exact ⟨0, w, by omega, .inl rfl, by simp [choose, Sem.run, Question.forced, hf]⟩
  · exact ⟨_, _, Nat.mod_lt _ h, .inr rfl, by
      simp only [choose, Sem.run, Question.forced, decide_eq_true_eq, hf, if_false, Question.cut]
      rfl⟩

/-- What a step comes to. -/
theorem next_sound (hs : Sat0 F β ok e m a w) {X : Operand} {x : XA} {p : PV} (ho : o.op = .next X false) (hx : cA X = some x) (hp : x.ev e = some p) {K : PV → Mem → Prop} (h : nextP p m K) :
    ∃ v q m' w', (execOp a.eval o).run P w = .ok (.value v) w' ∧ K q m' ∧ Rep w' ok β q v ∧ Sat0 F β ok e m' a w' := by
  have h1 := ev_rep hs hx hp
  generalize hv : a.eval X = vx at h1
  have over : ∀ w1, (w1 = w ∨ w1 = { w with drawn := w.drawn + 1 }) → Rep w1 ok β (.tup [.bool false]) (.tuple #[.bool false]) ∧ Sat0 F β ok e m a w1 := by
    intro w1 hw1
    refine ⟨.tup _ [_] rfl fun j c v hc hv' => ?_, ?_⟩
    · match j with
      | 0 => simp at hc hv'; subst hc; subst hv'; exact .bool _
      | j + 1 => simp at hc
    · rcases hw1 with rfl | rfl
      · exact hs
      · exact hs.drew
  unfold nextP at h
  split at h
  case h_2 => exact h.elim
  rename_i it
  split at h
  case h_3 => exact h.elim
  case h_1 =>
    rename_i n seen last hit
    cases h1 with
    | ptr _ _ _ _ bl cap hb =>
      obtain ⟨⟨mo, k1, k2, k3⟩, _⟩ := hs.mem.orep hit hb
      simp only at k2; subst k2
      obtain ⟨o1, o2⟩ := over w (.inl rfl)
      refine ⟨_, _, m, w, ?_, h, o1, o2⟩
      simp only [execOp, ho, hv]
      refine exec_value ?_
      simp [Instr.next, run_getObj k1 rfl]
  case h_2 =>
    rename_i id n seen last hit
    split at h
    case h_2 => exact h.elim
    rename_i es hid
    obtain ⟨hlast, hstep, hend⟩ := h
    cases h1 with
    | ptr _ _ _ _ bl cap hb =>
      have hor := hs.mem.orep hit hb
      obtain ⟨⟨mo, k1, k2, k3⟩, k4⟩ := hor
      obtain ⟨mb, cap2, rfl, hmb⟩ := k2
      obtain ⟨ents, g1, g2⟩ := ents_of (hs.mem.orep hid hmb)
      have hl : ents.size = es.length := by simpa using g2.1
      have hborn : ∀ (j : Nat) (hj : j < ents.size), (ents[j]'hj).born = j := fun j hj => (g2.2 j es[j] ents[j] (by simp) (by simp [hj])).2.2
      have hmem : ∀ x, x ∈ ents → ∃ (hj : x.born < ents.size), ents[x.born]'hj = x := fun x hx => by
        obtain ⟨j, hj, rfl⟩ := Array.mem_iff_getElem.1 hx
        have := hborn j hj
        exact ⟨by omega, by simp [this]⟩
      have hgone : (!seen.toArray.isEmpty && !ents.isEmpty && ents.all fun x => decide (x.born ≥ last)) = false := by
        rcases seen with _ | ⟨s0, sr⟩
        · simp
        · have hl0 := k3 (by simp)
          by_cases he : ents.size = 0
          · have : ents = #[] := Array.eq_empty_of_size_eq_zero he
            simp [this]
          · have : ents.all (fun x => decide (x.born ≥ last)) = false := by
              rw [Bool.eq_false_iff]
              intro hall
              rw [Array.all_eq_true] at hall
              have := hall 0 (by omega)
              rw [hborn 0 (by omega)] at this
              simp at this; omega
            simp [this]
      obtain ⟨left, hleft⟩ : ∃ left, left = ents.filter fun x => !seen.toArray.contains x.born := ⟨_, rfl⟩
      obtain ⟨C, hC⟩ : ∃ C : Array (Option MapEntry), C = (if (left.filter (fun x => decide (x.born < n))).isEmpty then #[none] else #[]) ++ ((left.filter (fun x => decide (x.born < n))) ++ (left.filter (fun x => decide (x.born ≥ n)))).map some := ⟨_, rfl⟩
      have hCpos : 0 < C.size := by
        rw [hC]
        by_cases he : (left.filter (fun x => decide (x.born < n))).isEmpty = true
        · simp [he]; omega
        · simp only [he, if_false, Array.size_append, Array.size_map]
          have : 0 < (left.filter (fun x => decide (x.born < n))).size := by
            rcases Nat.eq_zero_or_pos (left.filter (fun x => decide (x.born < n))).size with h | h
            · exact absurd (by simpa [Array.isEmpty] using h) he
            · exact h
          omega
      obtain ⟨j, w1, hj, hw1, hch⟩ := run_mapNext (P := P) (w := w) hCpos
      have k1' : w1.heap[bl]? = w.heap[bl]? := by rcases hw1 with rfl | rfl <;> rfl
      have hCj : C[j]? = some (C[j]'hj) := by simp [hj]
      have hin : C[j]'hj ∈ C := Array.getElem_mem hj
      obtain ⟨o1, o2⟩ := over w1 hw1
      cases hc : C[j]'hj with
      | none =>
        refine ⟨_, _, m, w1, ?_, hend fun i hi hil => ?_, o1, o2⟩
        · simp only [execOp, ho, hv]
          refine exec_val2 ?_
          simp only [Instr.next, Sem.run_bind, run_getObj k1 rfl, run_getObj g1 rfl, Result.andThen_ok, hgone, Bool.false_eq_true, if_false, Sem.run_pure, ← hleft, ← hC, hch, hCj, hc]
        · rw [hc, hC] at hin
          have he : (left.filter (fun x => decide (x.born < n))).isEmpty = true := by
            by_cases he : (left.filter (fun x => decide (x.born < n))).isEmpty = true
            · exact he
            · simp [he] at hin
          have he2 : left.filter (fun x => decide (x.born < n)) = #[] := by simpa using he
          rw [Array.filter_eq_empty_iff] at he2
          rcases Classical.em (i ∈ seen) with h | h
          · exact h
          · exfalso
            have hi' : i < ents.size := by omega
            have := he2 (ents[i]'hi') (by rw [hleft, Array.mem_filter]; exact ⟨Array.getElem_mem hi', by simp [hborn i hi', h]⟩)
            rw [hborn i hi'] at this
            simp at this; omega
      | some x =>
        have hx : x ∈ left := by
          rw [hc, hC, Array.mem_append] at hin
          rcases hin with h | h
          · split at h <;> simp at h
          · simp at h; rcases h with h | h <;> exact h.1
        rw [hleft, Array.mem_filter] at hx
        obtain ⟨hxe, hxs⟩ := hx
        obtain ⟨hxb, hxq⟩ := hmem x hxe
        have hns : x.born ∉ seen := by simpa using hxs
        have hb' : x.born < es.length := by omega
        obtain ⟨j1, j2, j3⟩ := g2.2 x.born (es[x.born]'hb') x (by simp [hb']) (by simp [hxb, hxq])
        have key := hstep x.born (es[x.born]'hb') hns (by simp [hb'])
        have hbl : bl < w1.heap.size := (Array.getElem?_eq_some_iff.1 (k1'.trans k1)).1
        obtain ⟨O, hO⟩ : ∃ O, O = Go.Obj.mapIter (some mb) n (seen.toArray.push x.born) es.length := ⟨_, rfl⟩
        have hs2 : Sat0 F β ok e (upd m it (some (.iter (some id) n (seen ++ [x.born]) es.length))) a (setB w1 bl O) := by
          refine o2.change hit rfl rfl hb rfl rfl rfl setB_size (Nat.le_refl _) (fun k hk => setB_other k hk) fun hr1 hr2 => ?_
          refine ⟨⟨some mb, by rw [setB_same hbl, hO]; simp, ⟨mb, cap2, rfl, hmb⟩, fun _ => by omega⟩, k4⟩
        refine ⟨.tuple #[.bool true, x.key, x.val], _, _, setB w1 bl O, ?_, key, ?_, hs2⟩
        · simp only [execOp, ho, hv]
          refine exec_val2 ?_
          simp only [Instr.next, Sem.run_bind, run_getObj k1 rfl, run_getObj g1 rfl, Result.andThen_ok, hgone, Bool.false_eq_true, if_false, Sem.run_pure, ← hleft, ← hC, hch, hCj, hc, run_setObj _ (k1'.trans k1) rfl, hO]
        · have hown : Owns β m bl := ⟨it, _, cap, hit, rfl, hb⟩
          have hokw : ∀ k, ok k → (setB w1 bl O).heap[k]? = w.heap[k]? := fun k hk => by
            have hne : k ≠ bl := fun h => hs.mem.not_ok hown (by rw [← h]; exact hk)
            rw [setB_other k hne]
            rcases hw1 with rfl | rfl <;> rfl
          refine .tup _ [_, _, _] rfl fun j c v hc hv' => ?_
          match j with
          | 0 => simp at hc hv'; subst hc; subst hv'; exact .bool _
          | 1 => simp at hc hv'; subst hc; subst hv'; exact (j1.any).mono hokw (fun _ h => h) _ (fun _ _ h => h)
          | 2 => simp at hc hv'; subst hc; subst hv'; exact j2.mono hokw (fun _ h => h) _ (fun _ _ h => h)
          | j + 3 => simp at hc

end
end Go.Vx
