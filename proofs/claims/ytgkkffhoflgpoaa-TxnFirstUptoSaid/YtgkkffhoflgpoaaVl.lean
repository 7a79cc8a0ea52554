/- The engine, part 12: append. -/
import Derived.Test.YtgkkffhoflgpoaaVk
set_option linter.unusedVariables false
set_option linter.unusedSimpArgs false
namespace Go.Vx
open Go Go.RowKit

section
variable {P : Program} {F : Fr} {β : Ids} {ok : Nat → Prop} {e : Nat → Option PV} {m : Mem} {a : Act} {w : World} {b : Nat} {o : Oper} {p : PV} {d : Delta}

theorem run_append_nothing (base : Nat) (t ty e : TypeId) (i : TypeInfo) (size : Nat) (ht : P.underlying t = some (.slice e)) (hi : P.info? e = some i)
    (v : Value) (n : Nat) (xs : List Value) (hown : w.ownsRow base e size v n xs) (A : Option Addr) (c : Nat) : (Builtin.append_ #[t, t] ty #[v, .slice A 0 c]).run P w = .ok v w := by
  rcases hown.2 with ⟨rfl, rfl⟩ | ⟨g, cap, cur, rfl, _, _, hnc, _⟩
  · cases A <;> simp [Builtin.append_, run_underlying ht, sizeOf, typeInfo, hi, Builtin.lenOf, Builtin.firstCells, loadCells, loadCellsFrom]
  · cases A <;> simp [Builtin.append_, run_underlying ht, sizeOf, typeInfo, hi, Builtin.lenOf, Builtin.firstCells, hnc, storeCells, loadCells, loadCellsFrom]

/-- An empty slice without room is appended to as the nil slice is. -/
theorem run_append_zero (t ty e : TypeId) (i : TypeInfo) (ht : P.underlying t = some (.slice e)) (hi : P.info? e = some i) (A B : Option Addr) (n c : Nat) (hn : 0 < n) (hby : n * i.bytes ≤ 281474976710656) :
    (Builtin.append_ #[t, t] ty #[.slice A 0 0, .slice B n c]).run P w = (Builtin.append_ #[t, t] ty #[.slice none 0 0, .slice B n c]).run P w := by
  have h1 : ¬ n = 0 := by omega
  have h2 : Builtin.nextslicecap n 0 = n := by simp [Builtin.nextslicecap, hn]
  have h3 : ¬ (281474976710656 < n * i.bytes) := by omega
  cases A <;> simp [Builtin.append_, run_underlying ht, sizeOf, typeInfo, hi, Builtin.lenOf, Builtin.firstCells, h1, h2, h3, loadCells, loadCellsFrom]

/-- The row behind an object. -/
theorem ORep.owns {l : Loc} {k : Nat} {xs : List (List PV)} {T : TypeId} {fz : Bool} {v : Value} {id : Nat} (h : ORep w ok β l (.row k xs T fz)) (hb : β id = some l) (hv : Rep w ok β (.osl id xs.length) v) :
    ∃ (vs : List Value) (v' : Value), (v = v' ∨ (v' = .slice none 0 0 ∧ xs = [] ∧ ∃ A, v = .slice A 0 0)) ∧ w.ownsRow 0 T k v' xs.length vs ∧ vs.length = xs.length * k ∧ (∀ x ∈ xs, x.length = k) ∧ (∀ c ∈ xs.flatten, c.one = true) ∧ (∀ (j : Nat) c, xs.flatten[j]? = some c → ∃ u, vs[j]? = some u ∧ Rep w ok noIds c u) ∧
      (v' = .slice none 0 0 ∧ l = .nil ∨ ∃ g cap, v' = .slice (some ⟨g, 0, none⟩) xs.length cap ∧ l = .at g cap) := by
  generalize hn : xs.length = n at hv
  cases hv with
  | osl0 _ A hb' =>
    rw [hb] at hb'; injection hb' with hb'; subst hb'
    have : xs = [] := h
    subst this
    exact ⟨[], .slice none 0 0, .inr ⟨rfl, rfl, A, rfl⟩, World.ownsRow_nil w 0 T k, by simp, by simp, by simp, by simp, .inl ⟨rfl, rfl⟩⟩
  | osl _ _ g cap hb' hle =>
    rw [hb] at hb'; injection hb' with hb'; subst hb'
    obtain ⟨⟨cur, h1, h2, h3, h4, h5, h6, h7⟩, _⟩ := h
    have hlen : (cur.toList.take (n * k)).length = n * k := by
      rw [List.length_take, Array.length_toList, h2, Nat.min_eq_left (Nat.mul_le_mul_right k hle)]
    refine ⟨cur.toList.take (n * k), _, .inl rfl, ⟨hlen, .inr ⟨g, cap, cur, rfl, Nat.zero_le _, h1, hle, h4, h2, rfl⟩⟩, hlen, h5, h6, fun j c hj => ?_, .inr ⟨g, cap, rfl, rfl⟩⟩
    obtain ⟨u, hu, hr⟩ := h7 j c hj
    have hlt : j < n * k := by have := (List.getElem?_eq_some_iff.1 hj).1; rw [flat_len h5, hn] at this; exact this
    exact ⟨u, by rw [List.getElem?_take_of_lt hlt]; simpa using hu, hr⟩

theorem elems_rep (hm : MSat w ok β m) {q : PV} {ys : List (List PV)} {v : Value} (h : elems m q = some ys) (hr : Rep w ok β q v) :
    ∃ A c, v = .slice A ys.length c ∧ (ys = [] ∨ ∃ ad k, A = some ad ∧ (∀ y ∈ ys, y.length = k) ∧ (∀ c ∈ ys.flatten, c.one = true) ∧
      ∀ (j : Nat) c, ys.flatten[j]? = some c → ∃ u, w.cell? (ad.add j) = some u ∧ Rep w ok noIds c u) := by
  cases q <;> unfold elems at h <;> dsimp only at h <;> try (simp only [reduceCtorEq] at h; done)
  · rename_i xs
    simp at h; subst h
    cases hr with
    | sl0 A c => exact ⟨A, c, rfl, .inl rfl⟩
    | sl k _ A cap f hne hl hcap hk hsp hok h1 hc hr => exact ⟨some A, cap, rfl, .inr ⟨A, k, rfl, hk, h1, fun j c hj => ⟨f j, hc j c hj, hr j c hj⟩⟩⟩
  rotate_left
  · injection h with h; subst h; cases hr; exact ⟨none, 0, rfl, .inl rfl⟩
  · rename_i id n
    cases hid : m id with
    | none => simp [hid] at h
    | some ob =>
      rw [hid] at h
      obtain ⟨l, hl, ho⟩ := hm.objs id ob hid
      cases ob <;> simp at h
      rename_i k xs T fz
      obtain ⟨hle, rfl⟩ := h
      cases hr with
      | osl0 _ A hb => exact ⟨A, 0, by simp, .inl (by simp)⟩
      | osl _ _ g cap hb hcap =>
        rw [hb] at hl; injection hl with hl; subst hl
        obtain ⟨⟨cur, h1, h2, h3, h4, h5, h6, h7⟩, _⟩ := ho
        have hlen : (xs.take n).length = n := by simp; omega
        refine ⟨some ⟨g, 0, none⟩, cap, by rw [hlen], .inr ⟨⟨g, 0, none⟩, k, rfl, fun y hy => h5 y (List.mem_of_mem_take hy), fun c hc => ?_, fun j c hj => ?_⟩⟩
        · obtain ⟨x, hx, hcx⟩ := List.mem_flatten.1 hc
          exact h6 c (mem_flat (List.mem_of_mem_take hx) hcx)
        · rw [flat_take h5, List.getElem?_take] at hj
          split at hj
          · obtain ⟨u, hu, hru⟩ := h7 j c hj
            exact ⟨u, by rw [add_mk, cell_of h1, Nat.zero_add]; exact hu, hru⟩
          · cases hj

theorem upds_two (m : Mem) (i j : Nat) (x y : Option Obj) : m.upds [(i, x), (j, y)] = upd (upd m i x) j y := rfl

theorem append_core (hs : Sat0 F β ok e m a w) (hb : β b = none) {t : TypeId} {T' k' bytes : Nat} {S X : Operand} (ho : o.op = .call { callee := .builtin .append, args := #[S, X], argTypes := #[t, t] })
    {i : TypeInfo} {zv : Value} (hu1 : P.underlying t = some (.slice T')) (hi : P.info? T' = some i) (hzv : i.zero = some zv) (hi1 : i.size = k') (hi2 : i.bytes = bytes) (hzl : zv.cells.size = k') (hk0 : 0 < k') (hb0 : 0 < bytes)
    {xs ys : List (List PV)} {vs : List Value} {sv sv' : Value} {A : Option Addr} {c : Nat} {id : Nat} (hsv : a.eval S = sv) (hxv : a.eval X = .slice A ys.length c) (hsv' : sv = sv' ∨ (sv' = .slice none 0 0 ∧ xs = [] ∧ ∃ A, sv = .slice A 0 0))
    (hown : w.ownsRow 0 T' k' sv' xs.length vs) (hvl : vs.length = xs.length * k') (g5 : ∀ x ∈ xs, x.length = k') (g6 : ∀ c ∈ xs.flatten, c.one = true) (g7 : ∀ (j : Nat) c, xs.flatten[j]? = some c → ∃ u, vs[j]? = some u ∧ Rep w ok noIds c u)
    (hel : ys = [] ∨ ∃ ad k, A = some ad ∧ (∀ y ∈ ys, y.length = k) ∧ (∀ c ∈ ys.flatten, c.one = true) ∧ ∀ (j : Nat) c, ys.flatten[j]? = some c → ∃ u, w.cell? (ad.add j) = some u ∧ Rep w ok noIds c u)
    (hyk : ∀ y ∈ ys, y.length = k') (hby : (xs.length + ys.length) * bytes ≤ 140737488355328) (hownB : ∀ g, sv'.ownBlock = some g → Owns β m g)
    (hcl : ∀ i o1 bb cc, m i = some o1 → i ≠ id → β i = some (.at bb cc) → sv'.ownBlock = some bb → False) :
    OpOk P F β ok e m a w b o (.osl b (xs.length + ys.length)) [(id, none), (b, some (.row k' (xs ++ ys) T' false))] := by
  have hlen63 : xs.length + ys.length ≤ maxLen := by
    have := Nat.le_mul_of_pos_right (xs.length + ys.length) hb0
    simp only [maxLen]; omega
  have hres : ∃ v1 v' w' news, (Builtin.append_ #[t, t] o.type #[sv, .slice A ys.length c]).run P w = .ok v1 w' ∧ (v1 = v' ∨ (v' = .slice none 0 0 ∧ ∃ A, v1 = .slice A 0 0)) ∧ w'.ownsRow 0 T' k' v' (xs.length + ys.length) (vs ++ news) ∧ w.grownBy w' sv'.ownBlock ∧
      (v'.ownBlock = sv'.ownBlock ∨ v'.ownBlock = some w.heap.size) ∧ (∀ c ∈ ys.flatten, c.one = true) ∧ ∀ (j : Nat) c, ys.flatten[j]? = some c → ∃ u, news[j]? = some u ∧ Rep w ok noIds c u := by
    have hel' : ys = [] ∨ 0 < ys.length ∧ ∃ ad k, A = some ad ∧ (∀ y ∈ ys, y.length = k) ∧ (∀ c ∈ ys.flatten, c.one = true) ∧ ∀ (j : Nat) c, ys.flatten[j]? = some c → ∃ u, w.cell? (ad.add j) = some u ∧ Rep w ok noIds c u := by
      rcases hel with h | h
      · exact .inl h
      · rcases Nat.eq_zero_or_pos ys.length with h0 | h0
        · exact .inl (List.eq_nil_of_length_eq_zero h0)
        · exact .inr ⟨h0, h⟩
    rcases hel' with rfl | ⟨h0, ad, k2, rfl, hk2, hy1, hyr⟩
    · rcases hsv' with rfl | ⟨rfl, rfl, A', rfl⟩
      · exact ⟨sv, sv, w, [], run_append_nothing 0 t o.type T' i k' hu1 hi sv xs.length vs hown A c, .inl rfl, by simpa using hown, World.grownBy.refl w _, .inl rfl, by simp, by simp⟩
      · have hvs : vs = [] := List.eq_nil_of_length_eq_zero (by simpa using hvl)
        subst hvs
        refine ⟨.slice A' 0 0, .slice none 0 0, w, [], ?_, .inr ⟨rfl, A', rfl⟩, by simpa using hown, World.grownBy.refl w _, .inl rfl, by simp, by simp⟩
        cases A <;> cases A' <;> simp [Builtin.append_, run_underlying hu1, sizeOf, typeInfo, hi, Builtin.lenOf, Builtin.firstCells, storeCells, loadCells, loadCellsFrom]
    · obtain ⟨news, hnl, hnv⟩ := exists_list (n := ys.flatten.length) (R := fun j u => w.cell? (ad.add j) = some u ∧ ∀ c, ys.flatten[j]? = some c → Rep w ok noIds c u) (fun j hj => by
        obtain ⟨u, h1, h2⟩ := hyr j (ys.flatten[j]) (by simp [hj])
        exact ⟨u, h1, fun c hc => by rw [List.getElem?_eq_getElem hj] at hc; injection hc with hc; exact hc ▸ h2⟩)
      have hrn : ∀ (j : Nat) c, ys.flatten[j]? = some c → ∃ u, news[j]? = some u ∧ Rep w ok noIds c u := fun j c hj => by
        have hlt : j < news.length := by rw [hnl]; exact (List.getElem?_eq_some_iff.1 hj).1
        exact ⟨news[j], by simp [hlt], (hnv j _ (by simp [hlt])).2 c hj⟩
      obtain ⟨v', w', hr, h1, h2, _, h3⟩ := run_append_own_at (P := P) w 0 t o.type T' i zv k' bytes hu1 hi hzv hi1 hi2 hzl hk0 sv' xs.length vs hown ad ys.length c news (by rw [hnl, flat_len hyk]) (fun j u hu => (hnv j u hu).1)
        (fun u hu => by
          obtain ⟨j, hj, rfl⟩ := List.getElem_of_mem hu
          have hlt : j < ys.flatten.length := by rw [← hnl]; exact hj
          exact ((hnv j _ (List.getElem?_eq_getElem hj)).2 _ (List.getElem?_eq_getElem hlt)).one_of (hy1 _ (List.getElem_mem hlt))) hlen63 hby (Nat.zero_le _)
      refine ⟨v', v', w', news, ?_, .inl rfl, h1, h2, h3, hy1, hrn⟩
      rcases hsv' with rfl | ⟨rfl, rfl, A', rfl⟩
      · exact hr
      · rw [run_append_zero t o.type T' i hu1 hi _ _ _ _ h0 (by rw [hi2]; simp at hby; omega)]; exact hr
  obtain ⟨v1, v', w', news, hrun, hv1, hown', hgr, hat, hy1, hnr⟩ := hres
  have hrun' : (execOp a.eval o).run P w = .ok (.value v1) w' := by
    simp only [execOp, ho, resolve, invoke, builtin, Sem.run_bind, Sem.run_pure, Result.andThen_ok, List.map_toArray, List.map_cons, List.map_nil, hsv, hxv, hrun]
  have hoth : ∀ k, k < w.heap.size → ¬ (sv'.ownBlock = some k) → w'.heap[k]? = w.heap[k]? := fun k hk hn => hgr.block k hk fun h => hn h.symm
  have hch : ∀ k, k < w.heap.size → sv'.ownBlock = some k → Owns β m k := fun k _ hk => hownB k hk
  have hokw := hs.okw hoth hch
  -- where the new row lies
  obtain ⟨loc, hor, hrep, hlocb⟩ : ∃ loc, ORep w' ok (upd β b (some loc)) loc (.row k' (xs ++ ys) T' false) ∧ Rep w' ok (upd β b (some loc)) (.osl b (xs.length + ys.length)) v1 ∧
      ∀ g cap, loc = .at g cap → (sv'.ownBlock = some g ∨ g = w.heap.size) := by
    rcases hown'.2 with ⟨rfl, hn0⟩ | ⟨g, cap, cur, rfl, _, hg, hnc, hcm, hcs, htake⟩
    · have e1 : xs = [] := List.eq_nil_of_length_eq_zero (by omega)
      have e2 : ys = [] := List.eq_nil_of_length_eq_zero (by omega)
      subst e1; subst e2
      have : ∃ A, v1 = .slice A 0 0 := by
        rcases hv1 with h | ⟨_, h⟩
        · exact ⟨none, h⟩
        · exact h
      obtain ⟨A1, rfl⟩ := this
      exact ⟨.nil, rfl, .osl0 b A1 (by simp [upd]), fun g cap h => by cases h⟩
    · have : v1 = .slice (some ⟨g, 0, none⟩) (xs.length + ys.length) cap := by
        rcases hv1 with h | ⟨h, _⟩
        · exact h
        · cases h
      subst this
      have hgg : sv'.ownBlock = some g ∨ g = w.heap.size := by
        rcases hat with h | h
        · exact .inl (by rw [← h]; rfl)
        · simp [Value.ownBlock] at h; exact .inr h
      refine ⟨.at g cap, ⟨⟨cur, hg, hcs, by simpa using hnc, hcm, fun x hx => ?_, fun c hc => ?_, fun j c hj => ?_⟩, by simp, fun _ hokg => ?_⟩, .osl b _ g cap (by simp [upd]) hnc, fun g' cap' h => by injection h with h1 h2; exact h1 ▸ hgg⟩
      · rcases List.mem_append.1 hx with h | h
        · exact g5 x h
        · exact hyk x h
      · rw [List.flatten_append] at hc
        rcases List.mem_append.1 hc with h | h
        · exact g6 c h
        · exact hy1 c h
      · have hcur : ∀ (j : Nat) u, (vs ++ news)[j]? = some u → cur[j]? = some u := fun j u hu => by
          have hjl : j < (xs.length + ys.length) * k' := by rw [← hown'.1]; exact (List.getElem?_eq_some_iff.1 hu).1
          rw [← htake, List.getElem?_take_of_lt hjl] at hu
          simpa using hu
        rw [List.flatten_append] at hj
        by_cases hjx : j < xs.flatten.length
        · rw [List.getElem?_append_left hjx] at hj
          obtain ⟨u, hu, hr⟩ := g7 j c hj
          refine ⟨u, hcur j u ?_, hr.mono hokw (fun _ h => h) _ (fun _ _ h => h)⟩
          rw [List.getElem?_append_left (by rw [hvl, ← flat_len g5]; exact hjx)]; exact hu
        · rw [List.getElem?_append_right (by omega)] at hj
          obtain ⟨u, hu, hr⟩ := hnr _ c hj
          refine ⟨u, hcur j u ?_, hr.mono hokw (fun _ h => h) _ (fun _ _ h => h)⟩
          have hxl : xs.flatten.length = vs.length := by rw [flat_len g5, hvl]
          rw [List.getElem?_append_right (by omega), ← hxl]; exact hu
      · rcases hgg with h | h
        · exact hs.mem.not_ok (hownB g h) hokg
        · exact not_ok_new hs (h ▸ hokg)
  have hbm := beta_upd (l := loc) hb
  refine ⟨v1, w', upd β b (some loc), .inl hrun', hrep, ?_, fun id' h => by simp [upd, h]⟩
  rw [upds_two]
  refine hs.step (fun k => sv'.ownBlock = some k) hoth hch hgr.os hgr.tape hgr.output hgr.size (run_drawn hrun) hbm ⟨?_, ?_⟩ ?_
  · intro id' o' hid'
    by_cases he : id' = b
    · subst he
      rw [upd_same] at hid'; injection hid' with hid'; subst hid'
      exact ⟨loc, by rw [upd_same], hor⟩
    · rw [upd_other _ _ he] at hid'
      by_cases he2 : id' = id
      · subst he2; rw [upd_same] at hid'; cases hid'
      · rw [upd_other _ _ he2] at hid'
        obtain ⟨l', hl', hr'⟩ := hs.mem.objs id' o' hid'
        refine ⟨l', hbm _ _ hl', hr'.mono hokw (fun _ h => h) hbm fun bb cap' hll => ?_⟩
        subst hll
        refine ⟨hoth bb hr'.lt fun hbb => ?_, fun h => h⟩
        exact hcl id' o' bb cap' hid' he2 hl' hbb
  · have look : ∀ i o1 bb cc, upd (upd m id none) b (some (Obj.row k' (xs ++ ys) T' false)) i = some o1 → upd β b (some loc) i = some (.at bb cc) →
        (i = b ∧ loc = .at bb cc) ∨ (i ≠ b ∧ i ≠ id ∧ m i = some o1 ∧ β i = some (.at bb cc)) := by
      intro i o1 bb cc h1 h2
      by_cases he : i = b
      · subst he; rw [upd_same] at h2; injection h2 with h2; exact .inl ⟨rfl, h2⟩
      · rw [upd_other _ _ he] at h1 h2
        by_cases he2 : i = id
        · subst he2; rw [upd_same] at h1; cases h1
        · rw [upd_other _ _ he2] at h1
          exact .inr ⟨he, he2, h1, h2⟩
    have clash : ∀ i o1 bb cc, m i = some o1 → i ≠ id → β i = some (.at bb cc) → ∀ cc', loc = .at bb cc' → False := by
      intro i o1 bb cc h1 h2 h3 cc' h4
      rcases hlocb bb cc' h4 with h | h
      · exact hcl i o1 bb cc h1 h2 h3 h
      · have := hs.mem.lt h1 h3; omega
    intro i1 i2 o1 o2 bb c1 c2 h1 h2 h3 h4 f1 f2
    rcases look i1 o1 bb c1 h1 h3 with ⟨rfl, q1⟩ | ⟨q1, q2, q3, q4⟩ <;> rcases look i2 o2 bb c2 h2 h4 with ⟨rfl, r1⟩ | ⟨r1, r2, r3, r4⟩
    · rfl
    · exact (clash i2 o2 bb c2 r3 r2 r4 c1 q1).elim
    · exact (clash i1 o1 bb c1 q3 q2 q4 c2 r1).elim
    · exact hs.mem.disj i1 i2 o1 o2 bb c1 c2 q3 r3 q4 r4 f1 f2
  · rintro bb ⟨i, o1, cc, h1, hf, h2⟩
    by_cases he : i = b
    · subst he; rw [upd_same] at h2; injection h2 with h2
      rcases hlocb bb cc h2 with h | h
      · exact .inl (hownB bb h)
      · exact .inr (by omega)
    · rw [upd_other _ _ he] at h1 h2
      by_cases he2 : i = id
      · subst he2; rw [upd_same] at h1; cases h1
      · rw [upd_other _ _ he2] at h1
        exact .inl ⟨i, o1, cc, h1, hf, h2⟩


theorem op_append (hs : Sat0 F β ok e m a w) (hb : β b = none) {t : TypeId} {T k bytes : Nat} {S X : Operand} {s x : XA} (ho : o.op = .call { callee := .builtin .append, args := #[S, X], argTypes := #[t, t] })
    (hu : slElem P t = some (T, k, bytes)) (hz : ∃ z, tyZero P T = some z ∧ z.length = k) (hS : cA S = some s) (hX : cA X = some x) (h : vopF (.append T k bytes s x) e m b = some (p, d)) :
    OpOk P F β ok e m a w b o p d := by
  obtain ⟨hu1, hk0, hsz, i, hi, hi1, hi2, hb0⟩ := slElem_some hu
  obtain ⟨z, hz, hzk⟩ := hz
  obtain ⟨zv, hzv, hzl, _⟩ : ∃ v, i.zero = some v ∧ v.cells.size = k ∧ True := by
    unfold tyZero at hz
    cases hz0 : i.zero with
    | none => simp [hi, hz0] at hz
    | some v =>
      simp [hi, hz0] at hz
      have := (mapM_some hz).1
      exact ⟨v, rfl, by rw [← hzk]; simpa using this.symm, trivial⟩
  simp only [vopF, Option.bind_eq_some_iff] at h
  obtain ⟨ps, hps, q, hq, ys, hys, h⟩ := h
  have hrs := ev_rep hs hS hps
  have hrx := ev_rep hs hX hq
  cases ps <;> simp only [reduceCtorEq] at h
  rotate_left
  · split at h
    case isFalse => cases h
    rename_i hc
    simp only [Option.some.injEq, Prod.mk.injEq] at h
    obtain ⟨rfl, rfl⟩ := h
    generalize hsv : a.eval S = sv at *
    cases hrs
    obtain ⟨A, c, hv, hel⟩ := elems_rep hs.mem hys hrx
    have := append_core (id := b) (xs := []) (vs := []) hs hb ho hu1 hi hzv hi1 hi2 hzl hk0 hb0 hsv hv (.inl rfl) (World.ownsRow_nil w 0 T k) (by simp) (by simp) (by simp) (by simp) hel hc.1 (by simpa using hc.2) (fun g hg => by simp [Value.ownBlock] at hg) (fun _ _ _ _ _ _ _ h4 => by simp [Value.ownBlock] at h4)
    simp only [List.length_nil, Nat.zero_add, List.nil_append] at this
    obtain ⟨v, w', β', h1, h2, h3, h4⟩ := this
    refine ⟨v, w', β', h1, h2, ?_, h4⟩
    have e : m.upds [(b, none), (b, some (.row k ys T false))] = m.upds [(b, some (.row k ys T false))] := by
      funext id'; simp only [Mem.upds, List.foldl_cons, List.foldl_nil, upd]; split <;> simp_all
    rw [e] at h3
    exact h3
  rename_i id n
  cases hid : m id with
  | none => simp [hid] at h
  | some ob =>
    rw [hid] at h
    cases ob with
    | box => simp at h
    | map => simp at h
    | iter => simp at h
    | loop => simp at h
    | row k' xs T' fz =>
      cases fz with
      | true => simp at h
      | false =>
        dsimp only at h
        split at h
        case isFalse => cases h
        rename_i hc
        obtain ⟨rfl, rfl, rfl, hyk, hby⟩ := hc
        simp only [Option.some.injEq, Prod.mk.injEq] at h
        obtain ⟨rfl, rfl⟩ := h
        obtain ⟨l, hl, hob⟩ := hs.mem.objs id _ hid
        obtain ⟨vs, sv', hsv', hown, hvl, g5, g6, g7, hloc⟩ := hob.owns hl hrs
        obtain ⟨A, c, hv, hel⟩ := elems_rep hs.mem hys hrx
        generalize hsv : a.eval S = sv at *
        generalize hxv : a.eval X = xv at *
        subst hv
        refine append_core hs hb ho hu1 hi hzv hi1 hi2 hzl hk0 hb0 hsv hxv hsv' hown hvl g5 g6 g7 hel hyk hby (fun g hg => ?_) fun i' o1 bb cc h1 h2 h3 h4 => ?_
        · rcases hloc with ⟨rfl, _⟩ | ⟨g', cap, rfl, rfl⟩
          · simp [Value.ownBlock] at hg
          · simp [Value.ownBlock] at hg
            subst hg
            exact ⟨id, _, cap, hid, rfl, hl⟩
        · rcases hloc with ⟨rfl, _⟩ | ⟨g', cap, rfl, rfl⟩
          · simp [Value.ownBlock] at h4
          · simp [Value.ownBlock] at h4
            subst h4
            exact h2 (hs.mem.disj' h1 hid h3 hl rfl)

end
end Go.Vx
