/- The engine, part 19: code. -/
import Derived.Test.YtgkkffhoflgpoaaVr
set_option linter.unusedVariables false
set_option linter.unusedSimpArgs false
namespace Go.Vx
open Go Go.RowKit

section
variable {P : Program} {F : Fr} {base : Nat} {ops : Array Oper} {xs : List XOp} {es : Nat → Env} {ms : Nat → Mem} {pv : Nat → PV} {D : Nat → Nat → Prop} {f : Nat → Mem}

theorem envL_agree {e0 : Env} {L L' : Nat → Bool} {t : Nat} : ∀ (k : Nat), (∀ j, j < k → dstOf xs j = some t → L j = L' j) → envL xs e0 pv L k t = envL xs e0 pv L' k t
  | 0, _ => rfl
  | k + 1, h => by
    have ih := envL_agree (e0 := e0) (L := L) (L' := L') (t := t) k fun j hj => h j (by omega)
    simp only [envL]
    by_cases hd : dstOf xs k = some t
    · rw [h k (by omega) hd, hd]
      split
      · simp only [putE, upd_same]
      · exact ih
    · have e : ∀ (c : Bool) (E : Env), (if c = true then putE E (dstOf xs k) (pv k) else E) t = E t := fun c E => by
        cases c
        · rfl
        · exact putE_none hd
      rw [e, e]; exact ih

def add (L : Nat → Bool) (i : Nat) : Nat → Bool := fun j => if j = i then true else L j

theorem env_add (hO : OrdOk ops xs) {e0 : Env} {L : Nat → Bool} {i : Nat} (hi : i < xs.length) : envL xs e0 pv (add L i) xs.length = putE (envL xs e0 pv L xs.length) (dstOf xs i) (pv i) := by
  funext t
  by_cases hd : dstOf xs i = some t
  · rw [envL_yes (dst_uniq hO) (L := add L i) (j := i) (by simp [add]) hd _ hi, hd]
    simp [putE, upd_same]
  · rw [putE_none hd]
    exact envL_agree _ fun j hj hjt => by
      have : j ≠ i := fun h => hd (h ▸ hjt)
      simp [add, this]

theorem mem_add (hO : OrdOk ops xs) (ht : Tr P base 0 xs es ms pv D f) (h0 : ∀ id, base ≤ id → ms 0 id = none) {L : Nat → Bool} (hc : Closed ops L) {i : Nat} {X : XOp} (hX : xs[i]? = some X) (hL : L i = false) :
    memL (ms 0) D f (add L i) xs.length = ov (D i) (f i) (memL (ms 0) D f L xs.length) := by
  have hi : i < xs.length := (List.getElem?_eq_some_iff.1 hX).1
  funext id
  by_cases hd : D i id
  · simp only [ov, if_pos hd]
    rw [memL_same xs.length (i + 1) (by omega) fun j hij hjl hLj hdj => ?_]
    · simp only [memL, add, if_true, ov, if_pos hd]
    · have hne : j ≠ i := by omega
      simp [add, hne] at hLj
      have hY : xs[j]? = some (xs[j]'hjl) := by simp
      obtain ⟨hti, hci⟩ := chg hO ht hX hd
      obtain ⟨htj, hcj⟩ := chg hO ht hY hdj
      have hjo : j < ops.size := by rw [← hO.len]; exact hjl
      have up : InA i (xs[j]'hjl).anc → False := fun h => by
        have := anc_in hO hc j _ ops[j] hY (by simp [hjo]) (hc j _ (by simp [hjo]) hLj) i h
        rw [hL] at this; cases this
      rcases hcj with h | ⟨hbar, oj, hoj⟩
      · rcases hci with h2 | ⟨_, o, ho⟩
        · omega
        · have := ms_fresh hO ht h0 i (by omega) id (by omega)
          rw [(restr_some ho).1] at this; cases this
      · have two : InA i (xs[j]'hjl).anc ∨ InA j X.anc := by
          rcases hci with h2 | ⟨_, o, ho⟩
          · have hv := (restr_some hoj).2.resolve_left (by omega)
            have : (id - base) / 8 = i := by omega
            exact .inl (this ▸ hv)
          · exact tied hO ht h0 hX hY hne htj hti hbar (o' := oj) hoj fun hle => (restr_some ho).2.resolve_left (by omega)
        rcases two with h | h
        · exact up h
        · have := anc_lt hO i X hX j h; omega
  · simp only [ov, if_neg hd]
    exact memL_agree _ fun j hj hdj => by
      have : j ≠ i := fun h => hd (h ▸ hdj)
      simp [add, this]

theorem vguard_congr {g : Option (Nat × Bool)} {e e' : Env} {A B : Prop} (h : ∀ t want, g = some (t, want) → e' t = e t) : vguard g e' A B = vguard g e A B := by
  cases g with
  | none => rfl
  | some tw => obtain ⟨t, want⟩ := tw; simp only [vguard, h t want rfl]

/-- What the parts of a region are turned into. -/
def Parts (P : Program) (n : Nat) (ops : Array Oper) (xs : List XOp) : Prop :=
  ∀ (i : Nat) (o : Oper) (X : XOp), ops[i]? = some o → xs[i]? = some X → Turned P o X.xi ∧ guardOf ops o.guard = some X.guard ∧ X.dst = o.dst ∧ dstOk n o.dst = true

def Inv (F : Fr) (base : Nat) (xs : List XOp) (es : Nat → Env) (ms : Nat → Mem) (pv : Nat → PV) (D : Nat → Nat → Prop) (f : Nat → Mem) (L : Nat → Bool) (a : Act) (w : World) : Prop :=
  ∃ β ok, Sat0 F β ok (envL xs (es 0) pv L xs.length) (memL (ms 0) D f L xs.length) a w ∧ (∀ id, base + 8 * xs.length ≤ id → β id = none) ∧
    (∀ i, i < xs.length → L i = false → ∀ id, base + 8 * i ≤ id → id < base + 8 * i + 8 → β id = none) ∧ ∀ id, id < F.b0 → β id = F.β0 id

theorem inv_step {ro : Option Nat} (hb0 : F.b0 ≤ base) (hO : OrdOk ops xs) (hp : Parts P F.n ops xs) (ht : Tr P base 0 xs es ms pv D f) (h0 : ∀ id, base ≤ id → ms 0 id = none) {L : Nat → Bool} (hc : Closed ops L) {i : Nat} {o : Oper} (ho : ops[i]? = some o) (hL : L i = false)
    (hr : ∀ ed ∈ o.after.toList, Region.binds .any ed = true → L ed.on = true) {a : Act} {w : World} (hI : Inv F base xs es ms pv D f L a w) {Q : Exit → Act → World → Prop} {K : Act → World → Prop}
    (hK : ∀ a w, Inv F base xs es ms pv D f (add L i) a w → K a w) : wpOpIn (wf ro) 0 P ops Q i K a w := by
  obtain ⟨β, ok, hs, hf1, hf2, hf3⟩ := hI
  have hio : i < ops.size := by
    rcases Nat.lt_or_ge i ops.size with h | h
    · exact h
    · simp [Array.getElem?_eq_none h] at ho
  have hi : i < xs.length := by rw [hO.len]; exact hio
  have hX : xs[i]? = some xs[i] := by simp
  generalize hxe : xs[i] = X at hX
  obtain ⟨htu, hg, hdst, hdok⟩ := hp i o X ho hX
  have hag := env_agree hO ht hc hX ho hL hr
  have hgag : ∀ A B, vguard X.guard (envL xs (es 0) pv L xs.length) A B = vguard X.guard (es i) A B := fun A B => vguard_congr fun t want hh => hag t (by simp [looks, hh])
  have hda : dstOf xs i = o.dst := by simp [dstOf, hX, hdst]
  -- the new state
  have next : ∀ v β' ok' w', Rep w' ok' β' (pv i) v → Sat0 F β' ok' (envL xs (es 0) pv L xs.length) (ov (D i) (f i) (memL (ms 0) D f L xs.length)) a w' →
      (∀ id, (id < base + 8 * i ∨ base + 8 * i + 8 ≤ id) → β' id = β id) → K (a.put o.dst v) w' := by
    intro v β' ok' w' hrep hsat hfar
    refine hK _ _ ⟨β', ok', ?_, fun id hid => by rw [hfar id (by omega)]; exact hf1 id hid, fun j hj hLj id h1 h2 => ?_, fun id hid => by rw [hfar id (by omega)]; exact hf3 id hid⟩
    · rw [env_add hO hi, mem_add hO ht h0 hc hX hL, hda]
      exact hsat.put hdok hrep
    · by_cases he : j = i
      · simp [add, he] at hLj
      · simp [add, he] at hLj
        rw [hfar id (by omega)]
        exact hf2 j hj hLj id h1 h2
  unfold wpOpIn
  simp only [ho]
  rcases ht.step i X hX with ⟨hgd, hdo⟩ | ⟨hgd, hpv, hnd⟩
  · rcases guard_sound hs hg (by rw [hgag]; exact hgd) with ⟨hw, _⟩ | ⟨_, hfalse⟩
    · rw [if_pos hw]
      rw [Nat.zero_add] at hdo
      have hv := hdo.runs (envL xs (es 0) pv L xs.length) (memL (ms 0) D f L xs.length) (fun t htt => hag t (by simp [looks, htt])) (fun htc => mem_agree hO ht h0 hc hX ho hL hr htc)
      have := vop_sound (ro := ro) hs (fun id h1 h2 => hf2 i hi hL id h1 h2) (fun _ _ h => h) htu (fun _ _ _ h => h) hv (Q := Q)
      refine Oper.wpIn_mono ?_ this
      rintro a' w' ⟨v, p, m', β', ok', rfl, ⟨rfl, rfl⟩, hrep, hsat, hfar⟩
      exact next v β' ok' w' hrep hsat hfar
    · exact hfalse.elim
  · rcases guard_sound hs hg (by rw [hgag]; exact hgd) with ⟨_, hfalse⟩ | ⟨hw, _⟩
    · exact hfalse.elim
    · rw [if_neg (by simp [hw])]
      refine ⟨fun _ _ => trivial, ?_⟩
      have h1 : ov (D i) (f i) (memL (ms 0) D f L xs.length) = memL (ms 0) D f L xs.length := by funext id; simp only [ov, if_neg (hnd id)]
      exact next undef β ok w (by rw [hpv]; exact .tup [] [] rfl (by simp)) (by rw [h1]; exact hs) (fun _ _ => rfl)

def cnt (L : Nat → Bool) : Nat → Nat
  | 0 => 0
  | n + 1 => cnt L n + if L n then 0 else 1
theorem cnt_zero {L : Nat → Bool} : ∀ (n : Nat), cnt L n = 0 → ∀ i, i < n → L i = true
  | 0, _, i, h => by omega
  | n + 1, h, i, hi => by
    simp only [cnt] at h
    by_cases he : i = n
    · subst he
      cases hh : L i with
      | true => rfl
      | false => rw [hh] at h; simp at h
    · exact cnt_zero n (by omega) i (by omega)
theorem cnt_add {L : Nat → Bool} {i : Nat} (hL : L i = false) : ∀ (n : Nat), (i < n → cnt (add L i) n + 1 = cnt L n) ∧ (n ≤ i → cnt (add L i) n = cnt L n)
  | 0 => ⟨fun h => by omega, fun _ => rfl⟩
  | n + 1 => by
    obtain ⟨h1, h2⟩ := cnt_add hL n
    simp only [cnt]
    refine ⟨fun h => ?_, fun h => ?_⟩
    · by_cases he : n = i
      · subst he
        rw [h2 (Nat.le_refl _)]
        simp [add, hL]
      · have := h1 (by omega)
        have : add L i n = L n := by simp [add, he]
        rw [this]; omega
    · have : add L i n = L n := by simp [add]; omega
      rw [this, h2 (by omega)]

theorem any_sound {ro : Option Nat} (hb0 : F.b0 ≤ base) (hO : OrdOk ops xs) (hp : Parts P F.n ops xs) (ht : Tr P base 0 xs es ms pv D f) (h0 : ∀ id, base ≤ id → ms 0 id = none) {Q : Exit → Act → World → Prop}
    (hQ : ∀ L a w, (∀ i, i < xs.length → L i = true) → Inv F base xs es ms pv D f L a w → Q .normal a w) :
    ∀ (fuel : Nat) (listed : Array Bool) (a : Act) (w : World), listed.size = ops.size → cnt (fun i => listed.getD i true) ops.size ≤ fuel → Closed ops (fun i => listed.getD i true) →
      Inv F base xs es ms pv D f (fun i => listed.getD i true) a w → wpAnyIn (wf ro) 0 P .any ops Q fuel listed a w := by
  have ready_of : ∀ (listed : Array Bool) i, i ∈ Region.ready .any ops listed → listed.getD i true = false ∧ ∃ o, ops[i]? = some o ∧ ∀ ed ∈ o.after.toList, Region.binds .any ed = true → listed.getD ed.on false = true := by
    intro listed i hi
    simp only [Region.ready, List.mem_filter, List.mem_range, Bool.and_eq_true, Bool.not_eq_true'] at hi
    obtain ⟨hlt, h1, h2⟩ := hi
    refine ⟨h1, ops[i], by simp [hlt], fun ed hed hb => ?_⟩
    simp only [Array.getElem?_eq_getElem hlt, Option.map_some, Option.getD_some, Array.all_eq_true] at h2
    obtain ⟨k, hk, hke⟩ := List.getElem_of_mem hed
    have := h2 k (by simpa using hk)
    simp only [Array.getElem_toList] at hke
    rw [hke, hb] at this
    simpa using this
  have none_of : ∀ (listed : Array Bool), listed.size = ops.size → Region.ready .any ops listed = [] → ∀ i, i < ops.size → listed.getD i true = true := by
    intro listed hsz hn i
    induction i using Nat.strongRecOn with
    | _ i ih =>
      intro hi
      cases hh : listed.getD i true with
      | true => rfl
      | false =>
        exfalso
        have : i ∈ Region.ready .any ops listed := by
          simp only [Region.ready, List.mem_filter, List.mem_range, Bool.and_eq_true, Bool.not_eq_true']
          refine ⟨hi, hh, ?_⟩
          simp only [Array.getElem?_eq_getElem hi, Option.map_some, Option.getD_some, Array.all_eq_true]
          intro k hk
          have hmem : ops[i].after[k] ∈ ops[i].after.toList := by simp
          cases hb : Region.binds .any ops[i].after[k] with
          | false => simp
          | true =>
            have hlt := hO.back i ops[i] (by simp [hi]) _ hmem hb
            have hlo : ops[i].after[k].on < ops.size := by omega
            have := ih _ hlt hlo
            simp [Array.getD, hsz, hlo] at this ⊢
            exact this
        rw [hn] at this
        cases this
  intro fuel
  induction fuel with
  | zero =>
    intro listed a w hsz hcnt hc hI
    have hall : ∀ i, i < ops.size → listed.getD i true = true := cnt_zero _ (by omega)
    refine ⟨?_, hQ _ a w (fun i hi => hall i (by rw [← hO.len]; exact hi)) hI⟩
    rcases hre : Region.ready .any ops listed with _ | ⟨i, l⟩
    · rfl
    · have hm : i ∈ Region.ready .any ops listed := by rw [hre]; exact List.mem_cons_self
      obtain ⟨h1, o, ho, _⟩ := ready_of listed i hm
      have : i < ops.size := by
        rcases Nat.lt_or_ge i ops.size with h | h
        · exact h
        · simp [Array.getElem?_eq_none h] at ho
      rw [hall i this] at h1; cases h1
  | succ fuel ih =>
    intro listed a w hsz hcnt hc hI
    refine ⟨fun hn => hQ _ a w (fun i hi => none_of listed hsz hn i (by rw [← hO.len]; exact hi)) hI, fun i hi => ?_⟩
    obtain ⟨hL, o, ho, hr⟩ := ready_of listed i hi
    have hio : i < ops.size := by
      rcases Nat.lt_or_ge i ops.size with h | h
      · exact h
      · simp [Array.getElem?_eq_none h] at ho
    have hr' : ∀ ed ∈ o.after.toList, Region.binds .any ed = true → listed.getD ed.on true = true := fun ed hed hb => by
      have h1 := hr ed hed hb
      have hlt := hO.back i o ho ed hed hb
      have : ed.on < listed.size := by omega
      simp [Array.getD, this] at h1 ⊢
      exact h1
    have hadd : (fun j => (listed.setIfInBounds i true).getD j true) = add (fun i => listed.getD i true) i := by
      funext j
      unfold add
      by_cases he : j = i
      · subst he; simp [Array.getD, hsz, hio]
      · rw [if_neg he]
        by_cases hj : j < listed.size
        · simp [Array.getD, hj, Array.getElem_setIfInBounds_ne, Ne.symm he]
        · simp [Array.getD, hj]
    refine inv_step hb0 hO hp ht h0 hc ho hL hr' hI fun a' w' hI' => ?_
    refine ih _ a' w' (by simpa using hsz) ?_ ?_ (by rw [hadd]; exact hI')
    · rw [hadd]
      have := (cnt_add (L := fun i => listed.getD i true) hL ops.size).1 hio
      omega
    · rw [hadd]
      intro j oj hoj hLj ed hed hb
      by_cases he : j = i
      · subst he
        rw [ho] at hoj; injection hoj with hoj; subst hoj
        have := hr' ed hed hb
        unfold add
        split
        · rfl
        · exact this
      · have hLj' : listed.getD j true = true := by simpa only [add, if_neg he] using hLj
        have := hc j oj hoj hLj' ed hed hb
        unfold add
        split
        · rfl
        · exact this

theorem regD_sound {ro : Option Nat} (hm : P.follows .mixedOrders = true) (hO : OrdOk ops xs) (hp : Parts P F.n ops xs) {e : Env} {m : Mem} {β : Ids} {ok : Nat → Prop} {a : Act} {w : World} {id : Nat} {K : Env → Mem → Prop} {Q : Exit → Act → World → Prop} (hb0 : F.b0 ≤ base)
    (hK : ∀ e m β ok a w, Sat0 F β ok e m a w → (∀ id, base + 8 * xs.length ≤ id → β id = none) → (∀ id, id < F.b0 → β id = F.β0 id) → K e m → Q .normal a w)
    (hs : Sat0 F β ok e m a w) (hf : ∀ id, base ≤ id → β id = none) (hst : ∀ id, id < F.b0 → β id = F.β0 id) (h : vopsD P base 0 xs e m K) : (Code.region id ops true).wpIn (wf ro) 0 P Q a w := by
  obtain ⟨es, ms, pv, D, f, rfl, rfl, ht, hk⟩ := trace base K xs 0 e m h
  have h0 : ∀ id, base ≤ id → ms 0 id = none := fun id hid => by
    cases hh : ms 0 id with
    | none => rfl
    | some o =>
      obtain ⟨l, hl, _⟩ := hs.mem.objs id o hh
      rw [hf id hid] at hl; cases hl
  have hL0 : ∀ i, i < ops.size → (Array.replicate ops.size false).getD i true = false := fun i hi => by simp [Array.getD, hi]
  have hnoE : ∀ (L : Nat → Bool), (∀ i, i < xs.length → L i = false) → envL xs (es 0) pv L xs.length = es 0 := fun L hL => by
    funext t; exact envL_no _ fun j hj hLj => by rw [hL j hj] at hLj; cases hLj
  have hnoM : ∀ (L : Nat → Bool), (∀ i, i < xs.length → L i = false) → memL (ms 0) D f L xs.length = ms 0 := fun L hL => by
    funext id; exact memL_same xs.length 0 (Nat.zero_le _) fun j _ hj hLj => by rw [hL j hj] at hLj; cases hLj
  refine wpIn_region_any hm (any_sound hb0 hO hp ht h0 (fun L a w hL hI => ?_) ops.size _ a _ (by simp) ?_ ?_ ?_)
  · obtain ⟨β, ok, hs, hf1, _, hf3⟩ := hI
    have e1 : envL xs (es 0) pv L xs.length = es xs.length := by
      rw [es_eq ht _ (Nat.le_refl _)]
      funext t
      exact envL_agree _ fun j hj _ => hL j hj
    have e2 : memL (ms 0) D f L xs.length = ms xs.length := by
      rw [ms_eq ht _ (Nat.le_refl _)]
      funext id
      exact memL_agree _ fun j hj _ => hL j hj
    rw [e1, e2] at hs
    exact hK _ _ β ok a w hs hf1 hf3 hk
  · have : ∀ n (L : Nat → Bool), cnt L n ≤ n := fun n L => by
      induction n with
      | zero => exact Nat.le_refl _
      | succ n ih => simp only [cnt]; split <;> omega
    exact this _ _
  · intro i o ho hLi ed hed hb
    have hio : i < ops.size := by
      rcases Nat.lt_or_ge i ops.size with h | h
      · exact h
      · simp [Array.getElem?_eq_none h] at ho
    have h1 := hL0 i hio
    rw [show (Array.replicate ops.size false).getD i true = true from hLi] at h1; cases h1
  · refine ⟨β, ok, ?_, fun id hid => hf id (by omega), fun i hi _ id h1 _ => hf id (by omega), hst⟩
    rw [hnoE _ fun i hi => hL0 i (by rw [← hO.len]; exact hi), hnoM _ fun i hi => hL0 i (by rw [← hO.len]; exact hi)]
    exact hs.drew

end
end Go.Vx
