/- The engine, part 15: regions and code. -/
import Derived.Test.YtgkkffhoflgpoaaVna
set_option linter.unusedVariables false
set_option linter.unusedSimpArgs false
namespace Go.Vx
open Go Go.RowKit

def obind {α : Type} (o : Option α) (k : α → Prop) : Prop :=
  match o with
  | some x => k x
  | none => False

/-- May a row be appended to, by the region's own order? nd: the region's first number, where its order is open. -/
def wloc : Option Nat → Option PV → Prop
  | none, _ => True
  | some base, some (.osl id _) => base ≤ id
  | some _, some .nsl => True
  | some _, _ => False

def vop (P : Program) (b : Nat) (bar : Bool) (nd : Option Nat) (x : XI) (e : Env) (mR m : Mem) (K : PV → Mem → Prop) : Prop :=
  match x with
  | .call f args => obind (args.mapM fun x => x.ev e) fun ps => VCall P b (.f f) ps mR m bar nd.isNone K
  | .callv f args => obind (f.ev e) fun
    | .fn g caps => obind (args.mapM fun x => x.ev e) fun ps => VCall P b (.f g) (ps ++ caps) mR m bar nd.isNone K
    | .yld L => obind (args.mapM fun x => x.ev e) fun ps => VCall P b (.y L) ps mR m bar nd.isNone K
    | _ => False
  | .appendL T k bytes s y => wloc nd (s.ev e) ∧ obind (vopF (.append T k bytes s y) e mR b) fun r => K r.1 (m.upds r.2)
  | .next x => nd = none ∧ obind (x.ev e) fun p => nextP p m K
  | x => obind (vopF x e mR b) fun r => K r.1 (m.upds r.2)

def vguard (g : Option (Nat × Bool)) (e : Env) (A B : Prop) : Prop :=
  match g with
  | none => A
  | some (t, want) => obind (e t) fun
    | .bool c => (c = want → A) ∧ (c ≠ want → B)
    | .tup [] => B
    | _ => False

def vops (P : Program) (base : Nat) : Nat → List XOp → Env → Mem → (Env → Mem → Prop) → Prop
  | _, [], e, m, K => K e m
  | i, o :: l, e, m, K =>
    vguard o.guard e (vop P (base + 8 * i) true none o.xi e m m fun p m' => vops P base (i + 1) l (putE e o.dst p) m' K) (vops P base (i + 1) l (putE e o.dst (.tup [])) m K)

/-- What an operation of a region without an order may see: what was there, and what those ahead of it by order made. -/
def restr (base : Nat) (anc : Nat) (m : Mem) : Mem := fun id => if id < base ∨ InA ((id - base) / 8) anc then m id else none

def vopsD (P : Program) (base : Nat) : Nat → List XOp → Env → Mem → (Env → Mem → Prop) → Prop
  | _, [], e, m, K => K e m
  | i, o :: l, e, m, K =>
    vguard o.guard e (vop P (base + 8 * i) o.bar (some base) o.xi e (restr base o.anc m) m fun p m' => vopsD P base (i + 1) l (putE e o.dst p) m' K) (vopsD P base (i + 1) l (putE e o.dst (.tup [])) m K)

abbrev Post := XEx → Env → Mem → Nat → Prop
def Post.then (next : Env → Mem → Nat → Prop) (Q : Post) : Post
  | .normal => next
  | x => Q x
def Post.block (i : Nat) (Q : Post) : Post
  | .exit j => if j = i then Q .normal else Q (.exit j)
  | x => Q x

inductive Turned (P : Program) (o : Oper) : XI → Prop
  | still (x : XI) (h : comp P o = some x) (hs : x.still = true) : Turned P o x
  | call (c : Call) (f : Nat) (xs : List XA) (ho : o.op = .call c) (hc : c.callee = .value (.func f)) (ha : c.args.toList.mapM cA = some xs) : Turned P o (.call f xs)
  | never : Turned P o .never
  | appL (T k bytes : Nat) (s y : XA) (h : comp P o = some (.append T k bytes s y)) : Turned P o (.appendL T k bytes s y)
  | next (X : Operand) (x : XA) (ho : o.op = .next X false) (hx : cA X = some x) : Turned P o (.next x)
  | callv (c : Call) (t : Nat) (xs : List XA) (ho : o.op = .call c) (hc : c.callee = .value (.tmp t)) (ha : c.args.toList.mapM cA = some xs) : Turned P o (.callv (.t t) xs)

theorem turned' {P : Program} {o : Oper} {x : XI} (h : compX P o = some x) : Turned P o x := by
  have still : (comp P o).bind (fun x => if x.still then some x else none) = some x → Turned P o x := fun h => by
    simp only [Option.bind_eq_some_iff] at h
    obtain ⟨y, hy, h⟩ := h
    split at h
    case isFalse => cases h
    rename_i hs
    injection h with h; subst h
    exact .still y hy hs
  unfold compX at h
  split at h
  · rename_i c ho
    split at h
    · rename_i hc
      simp only [Option.map_eq_some_iff] at h
      obtain ⟨xs, hxs, rfl⟩ := h
      exact .call c _ xs ho hc hxs
    · rename_i hc
      simp only [Option.map_eq_some_iff] at h
      obtain ⟨xs, hxs, rfl⟩ := h
      exact .callv c _ xs ho hc hxs
    · exact still h
  · rename_i X s ho
    split at h
    case isTrue => cases h
    rename_i hs
    simp only [Option.map_eq_some_iff] at h
    obtain ⟨y, hy, rfl⟩ := h
    exact .next X y (by rw [ho]; simpa using hs) hy
  · exact still h

theorem turned {P : Program} {o : Oper} : Turned P o ((compX P o).getD .never) := by
  cases h : compX P o with
  | none => exact .never
  | some x => exact turned' h

theorem turned_own {P : Program} {o : Oper} {x : XI} (h : Turned P o x) : Turned P o x.own := by
  cases h with
  | still x h hs => cases x <;> first | exact .appL _ _ _ _ _ h | exact .still _ h hs
  | never => exact .never
  | appL T k bytes s y h => exact .appL T k bytes s y h
  | next X x ho hx => exact .next X x ho hx
  | call c f xs ho hc ha => exact .call c f xs ho hc ha
  | callv c t xs ho hc ha => exact .callv c t xs ho hc ha

section
variable {P : Program} {F : Fr} {β : Ids} {ok : Nat → Prop} {e : Env} {m : Mem} {a : Act} {w : World} {b : Nat} {o : Oper}

theorem obind_some {α : Type} {o : Option α} {k : α → Prop} (h : obind o k) : ∃ x, o = some x ∧ k x := by
  cases o with
  | none => exact h.elim
  | some x => exact ⟨x, rfl, h⟩

theorem Sat0.put (hs : Sat0 F β ok e m a w) {dst : Option Nat} {p : PV} {v : Value} (hd : dstOk F.n dst = true) (hr : Rep w ok β p v) : Sat0 F β ok (putE e dst p) m (a.put dst v) w := by
  cases dst with
  | none => exact hs
  | some d =>
    have hd' : d < a.tmps.size := by rw [hs.size]; simpa [dstOk] using hd
    refine ⟨by simpa [Act.put] using hs.size, by simpa [Act.put] using hs.defers, fun t q ht => ?_, hs.mem, hs.okb, hs.keeps, hs.own, hs.ok0, hs.oks⟩
    by_cases he : t = d
    · subst he
      simp [putE, upd] at ht
      subst ht
      exact ⟨v, by simp [Act.put, hd'], hr⟩
    · simp [putE, upd, he] at ht
      obtain ⟨u, hu, hru⟩ := hs.env t q ht
      exact ⟨u, by simp [Act.put, Array.getElem?_setIfInBounds_ne (Ne.symm he), hu], hru⟩

/-- What one operation leaves. -/
def After (F : Fr) (β : Ids) (e : Env) (b : Nat) (o : Oper) (a : Act) (K : PV → Mem → Prop) (a' : Act) (w' : World) : Prop :=
  ∃ v p m' β' ok', a' = a.put o.dst v ∧ K p m' ∧ Rep w' ok' β' p v ∧ Sat0 F β' ok' e m' a w' ∧ ∀ id, (id < b ∨ b + 8 ≤ id) → β' id = β id

/-- The fence of a frame: a function's, or a round's. -/
abbrev wf (ro : Option Nat) : Fence := { fn := fun _ => True, depth := none, alive := false, round := ro }

theorem not_defer {x : XI} (hx : Turned P o x) (hn : x ≠ .never) : ∀ c, o.op ≠ .defer c := by
  intro c hc
  cases hx with
  | never => exact hn rfl
  | appL _ _ _ _ _ h => simp [comp, hc] at h
  | still _ h => simp [comp, hc] at h
  | call c f xs ho => rw [hc] at ho; cases ho
  | next X x ho => rw [hc] at ho; cases ho
  | callv c t xs ho => rw [hc] at ho; cases ho

/-- One operation: carried out, or by contract. -/
theorem vop_sound (hs : Sat0 F β ok e m a w) (hf : ∀ id, b ≤ id → id < b + 8 → β id = none) {ro : Option Nat} {mR : Mem} {bar : Bool} {nd : Option Nat} (hR : ∀ id o, mR id = some o → m id = some o) {x : XI} (hx : Turned P o x)
    (hF : ∀ y p d, vopF y e mR b = some (p, d) → vopF y e m b = some (p, d)) {K : PV → Mem → Prop} {Q : Exit → Act → World → Prop} (h : vop P b bar nd x e mR m K) :
    o.wpIn (wf ro) 0 P a w (After F β e b o a K) Q := by
  have hnv : x ≠ .never := fun hn => by subst hn; exact h
  have hsem : o.semAt (wf ro).round a.eval = execOp a.eval o := Oper.semAt_eq _ _ _ (not_defer hx hnv)
  refine ⟨fun _ _ => trivial, ?_⟩
  rw [hsem]
  have enter : ∀ (f : Nat) (vs : List Value) (ps : List PV), Reps w ok β ps vs → VCall P b (.f f) ps mR m bar nd.isNone K → (Enters P f → (execOp a.eval o).run P w = .ok (.enter f vs.toArray) w) → o.uponIn (wf ro) 0 P a (After F β e b o a K) Q ((execOp a.eval o).run P w) := by
    intro f vs ps hr hc hrun
    obtain ⟨hent, hcalls⟩ := call_sound hs hf hR hr hc
    rw [hrun hent]
    simp only [Oper.uponIn_enter]
    refine ⟨fun h => (by cases h), ?_⟩
    have h2 : CallsIn Fence.wide 0 P f vs.toArray w _ := callsIn_wide.2 hcalls
    refine CallsIn.mono (F := wf ro) (R := _) h2 ?_
    rintro e' w' ⟨v, p, m', β', ok', rfl, hk, hrep, hsat, hfar⟩
    exact ⟨v, p, m', β', ok', rfl, hk, hrep, hsat, hfar⟩
  cases hx with
  | never => exact absurd rfl hnv
  | appL T k bytes s y hx =>
    obtain ⟨⟨p, d⟩, hr, hk⟩ := obind_some h.2
    obtain ⟨v, w', β', hrun, hrep, hsat, hb'⟩ := op_sound hs (hf b (Nat.le_refl _) (by omega)) hx (hF _ p d hr)
    have hfar : ∀ id, (id < b ∨ b + 8 ≤ id) → β' id = β id := fun id h => hb' id (by omega)
    rcases hrun with hrun | ⟨hrun, rfl⟩
    · rw [hrun]; exact ⟨v, p, _, β', ok, rfl, hk, hrep, hsat, hfar⟩
    · rw [hrun]; exact ⟨undef, p, _, β', ok, rfl, hk, hrep, hsat, hfar⟩
  | still _ hx hst =>
    have hx' : obind (vopF x e mR b) fun r => K r.1 (m.upds r.2) := by cases x <;> first | exact h | simp [XI.still] at hst
    obtain ⟨⟨p, d⟩, hr, hk⟩ := obind_some hx'
    obtain ⟨v, w', β', hrun, hrep, hsat, hb'⟩ := op_sound hs (hf b (Nat.le_refl _) (by omega)) hx (hF _ p d hr)
    have hfar : ∀ id, (id < b ∨ b + 8 ≤ id) → β' id = β id := fun id h => hb' id (by omega)
    rcases hrun with hrun | ⟨hrun, rfl⟩
    · rw [hrun]; exact ⟨v, p, _, β', ok, rfl, hk, hrep, hsat, hfar⟩
    · rw [hrun]; exact ⟨undef, p, _, β', ok, rfl, hk, hrep, hsat, hfar⟩
  | next X x ho hx =>
    obtain ⟨_, h⟩ := h
    obtain ⟨p, hp, h⟩ := obind_some h
    obtain ⟨v, q, m', w', hrun, hk, hrep, hsat⟩ := next_sound (P := P) hs ho hx hp h
    rw [hrun]
    exact ⟨v, q, m', β, ok, rfl, hk, hrep, hsat, fun _ _ => rfl⟩
  | call c f xs ho hcal hargs =>
    obtain ⟨ps, hps, hc⟩ := obind_some h
    refine enter f _ ps (evs_rep hs hargs hps) hc fun hent => ?_
    have : (c.args.map a.eval) = (c.args.toList.map a.eval).toArray := by apply Array.ext'; simp
    simp only [execOp, ho, resolve, hcal, Act.eval, Deferred.ofValue, Sem.run_bind, Sem.run_pure, Result.andThen_ok, invoke, this, Array.append_empty, Array.empty_append]
    exact hent _ _
  | callv c t xs ho hcal hargs =>
    obtain ⟨pf, hpf, h⟩ := obind_some h
    have h1 : (c.args.map a.eval) = (c.args.toList.map a.eval).toArray := by apply Array.ext'; simp
    cases pf <;> try exact h.elim
    · rename_i g caps
      obtain ⟨ps, hps, hc⟩ := obind_some h
      obtain ⟨vf, hvf, hrf⟩ := hs.env t _ hpf
      obtain ⟨q1, q2⟩ := evs_rep hs hargs hps
      cases hrf with
      | fn _ _ us hul hur =>
        refine enter g ((c.args.toList.map a.eval) ++ us) (ps ++ caps) ⟨by simp at q1 ⊢; omega, fun j p v hp hv => ?_⟩ hc fun hent => ?_
        · by_cases hj : j < ps.length
          · rw [List.getElem?_append_left hj] at hp
            rw [List.getElem?_append_left (by omega)] at hv
            exact q2 j p v hp hv
          · rw [List.getElem?_append_right (by omega)] at hp
            rw [List.getElem?_append_right (by omega), q1] at hv
            exact hur _ p v hp hv
        · have h2 : (c.args.toList.map a.eval).toArray ++ us.toArray = ((c.args.toList.map a.eval) ++ us).toArray := by simp
          have h3 : a.eval (.tmp t) = .func (.func g) #[] us.toArray := by simp [Act.eval, hvf]
          simp only [execOp, ho, resolve, hcal, h3, Deferred.ofValue, Sem.run_bind, Sem.run_pure, Result.andThen_ok, invoke, h1, Array.empty_append, h2]
          exact hent _ _
    · rename_i L
      obtain ⟨ps, hps, hc⟩ := obind_some h
      obtain ⟨vf, hvf, hrf⟩ := hs.env t _ hpf
      have hreps : Reps w ok β ps (c.args.toList.map a.eval) := evs_rep hs hargs hps
      cases hrf with
      | yld _ bl cap hb =>
        obtain ⟨_, l, cap', hl, fn, tm, ca, cb, hy, hround⟩ := call_sound hs hf hR hreps hc
        rw [hb] at hl
        injection hl with hl; injection hl with hl _; subst hl
        have h3 : a.eval (.tmp t) = .func (.yield bl) #[] #[] := by simp [Act.eval, hvf]
        have hrun : (execOp a.eval o).run P w = .ok (.round bl fn tm ca cb) w := by
          simp only [execOp, ho, resolve, hcal, h3, Deferred.ofValue, Sem.run_bind, Sem.run_pure, Result.andThen_ok, invoke, h1, Array.empty_append, Array.append_empty]
          exact hy
        rw [hrun]
        simp only [Oper.uponIn_round]
        refine ⟨fun h => (by cases h), ?_⟩
        have h2 : RoundIn (wf ro) 0 P bl fn tm ca cb w _ := hround
        refine h2.mono ?_
        rintro e' w' ⟨v, p, m', β', ok', rfl, hk, hrep, hsat, hfar⟩
        exact ⟨v, p, m', β', ok', rfl, hk, hrep, hsat, hfar⟩

theorem wanted_none {ops : Array Oper} {t : Array Value} (h : o.guard = none) : Region.wanted o (yielded ops t) = true := by simp [Region.wanted, h]

/-- The guard: what is wanted. -/
theorem guard_sound (hs : Sat0 F β ok e m a w) {ops : Array Oper} {g : Option (Nat × Bool)} (hg : guardOf ops o.guard = some g) {A B : Prop} (h : vguard g e A B) :
    (Region.wanted o (yielded ops a.tmps) = true ∧ A) ∨ (Region.wanted o (yielded ops a.tmps) = false ∧ B) := by
  cases hgd : o.guard with
  | none =>
    rw [hgd] at hg
    simp [guardOf] at hg; subst hg
    exact .inl ⟨wanted_none hgd, h⟩
  | some jw =>
    obtain ⟨j, want⟩ := jw
    rw [hgd] at hg
    simp only [guardOf, Option.map_eq_some_iff] at hg
    obtain ⟨t, ht, rfl⟩ := hg
    obtain ⟨p, hp, h⟩ := obind_some h
    obtain ⟨v, hv, hr⟩ := hs.env t p hp
    have hy : yielded ops a.tmps j = match v with | .bool b => some b | _ => none := by
      simp only [yielded, ht, Option.bind_some, hv]
      cases v <;> rfl
    have hw : Region.wanted o (yielded ops a.tmps) = (yielded ops a.tmps j == some want) := by simp [Region.wanted, hgd]
    cases p <;> try exact h.elim
    · rename_i c
      cases hr
      rw [hw, hy]
      by_cases hc : c = want
      · subst hc; exact .inl ⟨by simp, h.1 rfl⟩
      · exact .inr ⟨by simp [hc], h.2 hc⟩
    · rename_i vs
      cases vs with
      | nil =>
        cases hr
        rw [hw, hy]
        exact .inr ⟨by simp, h⟩
      | cons => exact h.elim

theorem fresh_le {n n' : Nat} (h : ∀ id, n ≤ id → β id = none) (hn : n ≤ n') : ∀ id, n' ≤ id → β id = none := fun id hi => h id (Nat.le_trans hn hi)

theorem reg_sound {ro : Option Nat} {ops : Array Oper} {xs : List XOp} (hx : ops.toList.mapM (compOp P F.n ops) = some xs) {base : Nat} {K : Env → Mem → Prop} {Q : Exit → Act → World → Prop}
    (hb0 : F.b0 ≤ base)
    (hK : ∀ e m β ok a w, Sat0 F β ok e m a w → (∀ id, base + 8 * xs.length ≤ id → β id = none) → (∀ id, id < F.b0 → β id = F.β0 id) → K e m → Q .normal a w) :
    ∀ (k i : Nat) (e : Env) (m : Mem) (β : Ids) (ok : Nat → Prop) (a : Act) (w : World), i + k = ops.size → Sat0 F β ok e m a w → (∀ id, base + 8 * i ≤ id → β id = none) → (∀ id, id < F.b0 → β id = F.β0 id) → vops P base i (xs.drop i) e m K →
      wpOpsIn (wf ro) 0 P ops Q (List.range' i k) a w := by
  obtain ⟨hlen, hel⟩ := mapM_some hx
  have hlen' : xs.length = ops.size := by simpa using hlen
  intro k
  induction k with
  | zero =>
    intro i e m β ok a w hi hs hfr hst h
    have : xs.drop i = [] := List.drop_eq_nil_of_le (by omega)
    rw [this] at h
    exact hK e m β ok a w hs (fun id hid => hfr id (by rw [hlen'] at hid; omega)) hst h
  | succ k ih =>
    intro i e m β ok a w hi hs hfr hst h
    have hio : i < ops.size := by omega
    have hix : i < xs.length := by omega
    have hc := hel i ops[i] xs[i] (by simp [hio]) (by simp [hix])
    rw [List.drop_eq_getElem_cons hix] at h
    generalize hxe : xs[i] = X at h hc
    simp only [compOp, Option.bind_eq_some_iff] at hc
    obtain ⟨g, hg, hc⟩ := hc
    split at hc
    case isFalse => cases hc
    rename_i hd
    injection hc with hc; subst hc
    simp only [vops] at h
    rw [List.range'_succ]
    simp only [wpOpsIn, Array.getElem?_eq_getElem hio]
    rcases guard_sound hs hg h with ⟨hw, hA⟩ | ⟨hw, hB⟩
    · rw [if_pos hw]
      have := vop_sound (ro := ro) hs (fun id h1 _ => hfr id h1) (fun _ _ h => h) turned (fun _ _ _ h => h) hA (Q := Q)
      refine Oper.wpIn_mono ?_ this
      rintro a' w' ⟨v, p, m', β', ok', rfl, hk, hrep, hsat, hfar⟩
      exact ih (i + 1) _ m' β' ok' _ w' (by omega) (hsat.put hd hrep) (fun id hid => by rw [hfar id (by omega)]; exact hfr id (by omega)) (fun id hid => by rw [hfar id (by omega)]; exact hst id hid) hk
    · rw [if_neg (by simp [hw])]
      refine ⟨fun _ _ => trivial, ?_⟩
      exact ih (i + 1) _ m β ok _ w (by omega) (hs.put hd (.tup [] [] rfl (by simp))) (fun id hid => hfr id (by omega)) hst hB

end
end Go.Vx
