/- The engine, part 22: steps, for simp. -/
import Derived.Test.YtgkkffhoflgpoaaVub
set_option linter.unusedVariables false
set_option linter.unusedSimpArgs false
namespace Go.Vx
open Go Go.RowKit

def goOn (P : Program) (base i : Nat) (l : List XOp) (e : Env) (d : Option Nat) (K : Env → Mem → Prop) (p : PV) (m : Mem) : Prop := vops P base (i + 1) l (putE e d p) m K
def goD (P : Program) (base i : Nat) (l : List XOp) (e : Env) (d : Option Nat) (K : Env → Mem → Prop) (p : PV) (m : Mem) : Prop := vopsD P base (i + 1) l (putE e d p) m K
def goA (P : Program) (base i : Nat) (x : XI) (l : List XOp) (e : Env) (d : Option Nat) (K : Env → Mem → Prop) (m : Mem) (u : Unit) : Prop := vop P (base + 8 * i) true none x e m m (goOn P base i l e d K)
def goAD (P : Program) (base i : Nat) (x : XI) (an : Nat) (bar : Bool) (l : List XOp) (e : Env) (d : Option Nat) (K : Env → Mem → Prop) (m : Mem) (u : Unit) : Prop := vop P (base + 8 * i) bar (some base) x e (restr base an m) m (goD P base i l e d K)
def goB (P : Program) (base i : Nat) (l : List XOp) (e : Env) (d : Option Nat) (K : Env → Mem → Prop) (m : Mem) (u : Unit) : Prop := vops P base (i + 1) l (putE e d (.tup [])) m K
def goBD (P : Program) (base i : Nat) (l : List XOp) (e : Env) (d : Option Nat) (K : Env → Mem → Prop) (m : Mem) (u : Unit) : Prop := vopsD P base (i + 1) l (putE e d (.tup [])) m K
/-- A guard. -/
def vg (o : Option PV) (want : Bool) (A B : Unit → Prop) : Prop :=
  match o with
  | some (.bool c) => (c = want → A ()) ∧ (c ≠ want → B ())
  | some (.tup []) => B ()
  | _ => False
def ob (o : Option (PV × Delta)) (m : Mem) (K : PV → Mem → Prop) : Prop :=
  match o with
  | some r => K r.1 (m.upds r.2)
  | none => False
def vc (P : Program) (b f : Nat) (mR m : Mem) (bar nd : Bool) (K : PV → Mem → Prop) (o : Option (List PV)) : Prop :=
  match o with
  | some ps => VCall P b (.f f) ps mR m bar nd K
  | none => False
/-- A call of a function value. -/
def vcv (P : Program) (b : Nat) (mR m : Mem) (bar nd : Bool) (K : PV → Mem → Prop) (f : Option PV) (o : Option (List PV)) : Prop :=
  match f, o with
  | some (.fn g caps), some ps => VCall P b (.f g) (ps ++ caps) mR m bar nd K
  | some (.yld L), some ps => VCall P b (.y L) ps mR m bar nd K
  | _, _ => False
/-- A step of a range over a map. -/
def vnx (nd : Option Nat) (m : Mem) (K : PV → Mem → Prop) (o : Option PV) : Prop :=
  match o with
  | some p => nd = none ∧ nextP p m K
  | none => False
def evs (e : Env) (l : List XA) : Option (List PV) := l.mapM fun x => x.ev e

/-- So many of one; each of one length: words that simp does not take apart. -/
def repl (n : Nat) (z : List PV) : List (List PV) := List.replicate n z
def allLen (k : Nat) (ys : List (List PV)) : Prop := ∀ y ∈ ys, y.length = k
instance {k : Nat} {ys : List (List PV)} : Decidable (allLen k ys) := inferInstanceAs (Decidable (∀ y ∈ ys, y.length = k))
theorem allLen_nil {k : Nat} : allLen k [] = True := by simp [allLen]
theorem allLen_cons {k : Nat} {y : List PV} {ys : List (List PV)} : allLen k (y :: ys) = (y.length = k ∧ allLen k ys) := by simp [allLen]
theorem vopF_mkslice {e : Env} {m : Mem} {b T k bytes : Nat} {z : List PV} {l c : XA} : vopF (.mkslice T k bytes z l c) e m b = (l.ev e).bind fun p => (c.ev e).bind fun q => (idx p).bind fun l => (idx q).bind fun c =>
    if z.length = k ∧ l ≤ c ∧ c * bytes ≤ 281474976710656 ∧ c ≤ maxLen then some (.osl b l, [(b, some (.row k (repl l z) T false))]) else none := rfl
theorem vopF_append {e : Env} {m : Mem} {b T k bytes : Nat} {s x : XA} : vopF (.append T k bytes s x) e m b = (s.ev e).bind fun p => (x.ev e).bind fun q => (elems m q).bind fun ys =>
    match p with
    | .osl id n => match m id with
      | some (.row k' xs T' false) => if k' = k ∧ T' = T ∧ n = xs.length ∧ allLen k ys ∧ (n + ys.length) * bytes ≤ 140737488355328 then
          some (.osl b (n + ys.length), [(id, none), (b, some (.row k (xs ++ ys) T false))]) else none
      | _ => none
    | .nsl => if allLen k ys ∧ ys.length * bytes ≤ 140737488355328 then some (.osl b ys.length, [(b, some (.row k ys T false))]) else none
    | _ => none := rfl

section
variable {P : Program} {base i : Nat} {l : List XOp} {e : Env} {m mR : Mem} {K : Env → Mem → Prop} {Kv : PV → Mem → Prop} {d : Option Nat} {b : Nat} {bar nd : Bool} {no : Option Nat} {p : PV} {an : Nat} {x : XI}

theorem goOn_eq : goOn P base i l e d K p m = vops P base (i + 1) l (putE e d p) m K := rfl
theorem goD_eq : goD P base i l e d K p m = vopsD P base (i + 1) l (putE e d p) m K := rfl
theorem goA_eq : goA P base i x l e d K m () = vop P (base + 8 * i) true none x e m m (goOn P base i l e d K) := rfl
theorem goAD_eq : goAD P base i x an bar l e d K m () = vop P (base + 8 * i) bar (some base) x e (restr base an m) m (goD P base i l e d K) := rfl
theorem goB_eq : goB P base i l e d K m () = vops P base (i + 1) l (putE e d (.tup [])) m K := rfl
theorem goBD_eq : goBD P base i l e d K m () = vopsD P base (i + 1) l (putE e d (.tup [])) m K := rfl
theorem vops_nil : vops P base i [] e m K = K e m := rfl
theorem vopsD_nil : vopsD P base i [] e m K = K e m := rfl
theorem vops_cons : vops P base i (⟨d, x, none, an, bar⟩ :: l) e m K = vop P (base + 8 * i) true none x e m m (goOn P base i l e d K) := rfl
theorem vopsD_cons : vopsD P base i (⟨d, x, none, an, bar⟩ :: l) e m K = vop P (base + 8 * i) bar (some base) x e (restr base an m) m (goD P base i l e d K) := rfl
theorem vg_eq {t : Nat} {want : Bool} {A B : Unit → Prop} : vguard (some (t, want)) e (A ()) (B ()) = vg (e t) want A B := by
  simp only [vguard, vg]
  cases e t with
  | none => rfl
  | some p =>
    cases p with
    | tup vs => cases vs <;> rfl
    | _ => rfl
theorem vops_guard {t : Nat} {want : Bool} : vops P base i (⟨d, x, some (t, want), an, bar⟩ :: l) e m K = vg (e t) want (goA P base i x l e d K m) (goB P base i l e d K m) := vg_eq (A := goA P base i x l e d K m) (B := goB P base i l e d K m)
theorem vopsD_guard {t : Nat} {want : Bool} : vopsD P base i (⟨d, x, some (t, want), an, bar⟩ :: l) e m K = vg (e t) want (goAD P base i x an bar l e d K m) (goBD P base i l e d K m) := vg_eq (A := goAD P base i x an bar l e d K m) (B := goBD P base i l e d K m)
theorem vg_tt {A B : Unit → Prop} : vg (some (.bool true)) true A B = A () := by simp [vg]
theorem vg_ff {A B : Unit → Prop} : vg (some (.bool false)) false A B = A () := by simp [vg]
theorem vg_tf {A B : Unit → Prop} : vg (some (.bool true)) false A B = B () := by simp [vg]
theorem vg_ft {A B : Unit → Prop} : vg (some (.bool false)) true A B = B () := by simp [vg]
theorem vg_un {want : Bool} {A B : Unit → Prop} : vg (some (.tup [])) want A B = B () := rfl
theorem vg_split {c want : Bool} {A B : Unit → Prop} (h1 : c = want → A ()) (h2 : c ≠ want → B ()) : vg (some (.bool c)) want A B := ⟨h1, h2⟩
theorem ob_some {dl : Delta} : ob (some (p, dl)) m Kv = Kv p (m.upds dl) := rfl
theorem ob_none : ob none m Kv = False := rfl
theorem upds_nil : m.upds [] = m := rfl
theorem upds_cons {id : Nat} {o : Option Obj} {dl : Delta} : m.upds ((id, o) :: dl) = Mem.upds (upd m id o) dl := rfl
theorem putE_some {t : Nat} : putE e (some t) p = upd e t (some p) := rfl
theorem putE_non : putE e none p = e := rfl
theorem evs_nil : evs e [] = some [] := rfl
theorem evs_cons {y : XA} {ys : List XA} : evs e (y :: ys) = (y.ev e).bind fun q => (evs e ys).map (q :: ·) := by
  simp only [evs, List.mapM_cons, Option.bind_eq_bind, Option.pure_def]
  cases y.ev e <;> simp
  cases List.mapM (fun x => XA.ev e x) ys <;> rfl
theorem vc_some {f : Nat} {ps : List PV} : vc P b f mR m bar nd Kv (some ps) = VCall P b (.f f) ps mR m bar nd Kv := rfl
theorem vcv_some {f : Nat} {caps ps : List PV} : vcv P b mR m bar nd Kv (some (.fn f caps)) (some ps) = VCall P b (.f f) (ps ++ caps) mR m bar nd Kv := rfl
theorem vcv_yld {L : Nat} {ps : List PV} : vcv P b mR m bar nd Kv (some (.yld L)) (some ps) = VCall P b (.y L) ps mR m bar nd Kv := rfl
theorem vnx_some : vnx none m Kv (some p) = nextP p m Kv := by simp [vnx]
theorem vop_next {x : XA} : vop P b bar no (.next x) e mR m Kv = vnx no m Kv (x.ev e) := by
  simp only [vop, vnx]
  cases x.ev e <;> simp [obind]
theorem vop_call {f : Nat} {xs : List XA} : vop P b bar no (.call f xs) e mR m Kv = vc P b f mR m bar no.isNone Kv (evs e xs) := by
  simp only [vop, evs]
  cases List.mapM (fun x => XA.ev e x) xs <;> rfl
theorem vop_callv {f : XA} {xs : List XA} : vop P b bar no (.callv f xs) e mR m Kv = vcv P b mR m bar no.isNone Kv (f.ev e) (evs e xs) := by
  simp only [vop, vcv, evs, obind]
  cases f.ev e with
  | none => rfl
  | some p => cases p <;> first | rfl | (cases List.mapM (fun x => XA.ev e x) xs <;> rfl)
theorem vop_mv {x} : vop P b bar no (.mv x) e mR m Kv = ob (vopF (.mv x) e mR b) m Kv := by simp only [vop]; cases vopF _ e mR b <;> rfl
theorem vop_nilrow {T k} : vop P b bar no (.nilrow T k) e mR m Kv = ob (vopF (.nilrow T k) e mR b) m Kv := by simp only [vop]; cases vopF _ e mR b <;> rfl
theorem vop_pick {c x y} : vop P b bar no (.pick c x y) e mR m Kv = ob (vopF (.pick c x y) e mR b) m Kv := by simp only [vop]; cases vopF _ e mR b <;> rfl
theorem vop_alloc {T z} : vop P b bar no (.alloc T z) e mR m Kv = ob (vopF (.alloc T z) e mR b) m Kv := by simp only [vop]; cases vopF _ e mR b <;> rfl
theorem vop_box {T k x} : vop P b bar no (.box T k x) e mR m Kv = ob (vopF (.box T k x) e mR b) m Kv := by simp only [vop]; cases vopF _ e mR b <;> rfl
theorem vop_build {z ps} : vop P b bar no (.build z ps) e mR m Kv = ob (vopF (.build z ps) e mR b) m Kv := by simp only [vop]; cases vopF _ e mR b <;> rfl
theorem vop_mkrow {T k len z ps} : vop P b bar no (.mkrow T k len z ps) e mR m Kv = ob (vopF (.mkrow T k len z ps) e mR b) m Kv := by simp only [vop]; cases vopF _ e mR b <;> rfl
theorem vop_load1 {x} : vop P b bar no (.load1 x) e mR m Kv = ob (vopF (.load1 x) e mR b) m Kv := by simp only [vop]; cases vopF _ e mR b <;> rfl
theorem vop_loadn {n x} : vop P b bar no (.loadn n x) e mR m Kv = ob (vopF (.loadn n x) e mR b) m Kv := by simp only [vop]; cases vopF _ e mR b <;> rfl
theorem vop_store {n x y} : vop P b bar no (.store n x y) e mR m Kv = ob (vopF (.store n x y) e mR b) m Kv := by simp only [vop]; cases vopF _ e mR b <;> rfl
theorem vop_nilck {x} : vop P b bar no (.nilck x) e mR m Kv = ob (vopF (.nilck x) e mR b) m Kv := by simp only [vop]; cases vopF _ e mR b <;> rfl
theorem vop_fieldA {off x} : vop P b bar no (.fieldA off x) e mR m Kv = ob (vopF (.fieldA off x) e mR b) m Kv := by simp only [vop]; cases vopF _ e mR b <;> rfl
theorem vop_indexS {k x i} : vop P b bar no (.indexS k x i) e mR m Kv = ob (vopF (.indexS k x i) e mR b) m Kv := by simp only [vop]; cases vopF _ e mR b <;> rfl
theorem vop_indexA {k len x i} : vop P b bar no (.indexA k len x i) e mR m Kv = ob (vopF (.indexA k len x i) e mR b) m Kv := by simp only [vop]; cases vopF _ e mR b <;> rfl
theorem vop_field1 {off x} : vop P b bar no (.field1 off x) e mR m Kv = ob (vopF (.field1 off x) e mR b) m Kv := by simp only [vop]; cases vopF _ e mR b <;> rfl
theorem vop_fieldn {off n x} : vop P b bar no (.fieldn off n x) e mR m Kv = ob (vopF (.fieldn off n x) e mR b) m Kv := by simp only [vop]; cases vopF _ e mR b <;> rfl
theorem vop_indexT {x i} : vop P b bar no (.indexT x i) e mR m Kv = ob (vopF (.indexT x i) e mR b) m Kv := by simp only [vop]; cases vopF _ e mR b <;> rfl
theorem vop_bin {op x y} : vop P b bar no (.bin op x y) e mR m Kv = ob (vopF (.bin op x y) e mR b) m Kv := by simp only [vop]; cases vopF _ e mR b <;> rfl
theorem vop_eqb {neg x y} : vop P b bar no (.eqb neg x y) e mR m Kv = ob (vopF (.eqb neg x y) e mR b) m Kv := by simp only [vop]; cases vopF _ e mR b <;> rfl
theorem vop_eqp {neg x y} : vop P b bar no (.eqp neg x y) e mR m Kv = ob (vopF (.eqp neg x y) e mR b) m Kv := by simp only [vop]; cases vopF _ e mR b <;> rfl
theorem vop_eqs {neg ks x y} : vop P b bar no (.eqs neg ks x y) e mR m Kv = ob (vopF (.eqs neg ks x y) e mR b) m Kv := by simp only [vop]; cases vopF _ e mR b <;> rfl
theorem vop_not {x} : vop P b bar no (.not x) e mR m Kv = ob (vopF (.not x) e mR b) m Kv := by simp only [vop]; cases vopF _ e mR b <;> rfl
theorem vop_neg {x} : vop P b bar no (.neg x) e mR m Kv = ob (vopF (.neg x) e mR b) m Kv := by simp only [vop]; cases vopF _ e mR b <;> rfl
theorem vop_conv {k x} : vop P b bar no (.conv k x) e mR m Kv = ob (vopF (.conv k x) e mR b) m Kv := by simp only [vop]; cases vopF _ e mR b <;> rfl
theorem vop_sliceT {x lo hi} : vop P b bar no (.sliceT x lo hi) e mR m Kv = ob (vopF (.sliceT x lo hi) e mR b) m Kv := by simp only [vop]; cases vopF _ e mR b <;> rfl
theorem vop_sliceS {k x lo hi} : vop P b bar no (.sliceS k x lo hi) e mR m Kv = ob (vopF (.sliceS k x lo hi) e mR b) m Kv := by simp only [vop]; cases vopF _ e mR b <;> rfl
theorem vop_lenT {x} : vop P b bar no (.lenT x) e mR m Kv = ob (vopF (.lenT x) e mR b) m Kv := by simp only [vop]; cases vopF _ e mR b <;> rfl
theorem vop_lenS {x} : vop P b bar no (.lenS x) e mR m Kv = ob (vopF (.lenS x) e mR b) m Kv := by simp only [vop]; cases vopF _ e mR b <;> rfl
theorem vop_max2 {x y} : vop P b bar no (.max2 x y) e mR m Kv = ob (vopF (.max2 x y) e mR b) m Kv := by simp only [vop]; cases vopF _ e mR b <;> rfl
theorem vop_min2 {x y} : vop P b bar no (.min2 x y) e mR m Kv = ob (vopF (.min2 x y) e mR b) m Kv := by simp only [vop]; cases vopF _ e mR b <;> rfl
theorem vop_append {T k bytes x y} : vop P b bar no (.append T k bytes x y) e mR m Kv = ob (vopF (.append T k bytes x y) e mR b) m Kv := by simp only [vop]; cases vopF _ e mR b <;> rfl
theorem vop_mkslice {T k bytes z x y} : vop P b bar no (.mkslice T k bytes z x y) e mR m Kv = ob (vopF (.mkslice T k bytes z x y) e mR b) m Kv := by simp only [vop]; cases vopF _ e mR b <;> rfl
theorem vop_ext {i x} : vop P b bar no (.ext i x) e mR m Kv = ob (vopF (.ext i x) e mR b) m Kv := by simp only [vop]; cases vopF _ e mR b <;> rfl
theorem vop_mkfn {f cs} : vop P b bar no (.mkfn f cs) e mR m Kv = ob (vopF (.mkfn f cs) e mR b) m Kv := by simp only [vop]; cases vopF _ e mR b <;> rfl
/-- A row of the region's own is appended to. -/
def vlo (no : Option Nat) (o : Option PV) (X : Prop) : Prop := wloc no o ∧ X
theorem vlo_none {o : Option PV} {X : Prop} : vlo none o X = X := by simp [vlo, wloc]
theorem vlo_osl {id n bs : Nat} {X : Prop} : vlo (some bs) (some (.osl id n)) X = (bs ≤ id ∧ X) := rfl
theorem vlo_nsl {bs : Nat} {X : Prop} : vlo (some bs) (some .nsl) X = X := by simp [vlo, wloc]
theorem vop_appendL {T k bytes s y} : vop P b bar no (.appendL T k bytes s y) e mR m Kv = vlo no (s.ev e) (ob (vopF (.append T k bytes s y) e mR b) m Kv) := by
  simp only [vop, vlo]; cases vopF (.append T k bytes s y) e mR b <;> rfl
theorem isNone_none : (none : Option Nat).isNone = true := rfl
theorem isNone_some {n : Nat} : (some n).isNone = false := rfl
theorem vop_mkmap : vop P b bar no (.mkmap) e mR m Kv = ob (vopF (.mkmap) e mR b) m Kv := by simp only [vop]; cases vopF _ e mR b <;> rfl
theorem vop_lookup {g ks z ok x k} : vop P b bar no (.lookup g ks z ok x k) e mR m Kv = ob (vopF (.lookup g ks z ok x k) e mR b) m Kv := by simp only [vop]; cases vopF _ e mR b <;> rfl
theorem vop_mapUpd {g ks x k v} : vop P b bar no (.mapUpd g ks x k v) e mR m Kv = ob (vopF (.mapUpd g ks x k v) e mR b) m Kv := by simp only [vop]; cases vopF _ e mR b <;> rfl
theorem vop_mapEnt {g ks z x k} : vop P b bar no (.mapEnt g ks z x k) e mR m Kv = ob (vopF (.mapEnt g ks z x k) e mR b) m Kv := by simp only [vop]; cases vopF _ e mR b <;> rfl
theorem vop_entSto {x s v} : vop P b bar no (.entSto x s v) e mR m Kv = ob (vopF (.entSto x s v) e mR b) m Kv := by simp only [vop]; cases vopF _ e mR b <;> rfl
theorem vop_lenM {x} : vop P b bar no (.lenM x) e mR m Kv = ob (vopF (.lenM x) e mR b) m Kv := by simp only [vop]; cases vopF _ e mR b <;> rfl
theorem vop_eqm {neg x y} : vop P b bar no (.eqm neg x y) e mR m Kv = ob (vopF (.eqm neg x y) e mR b) m Kv := by simp only [vop]; cases vopF _ e mR b <;> rfl
theorem vop_range {x} : vop P b bar no (.range x) e mR m Kv = ob (vopF (.range x) e mR b) m Kv := by simp only [vop]; cases vopF _ e mR b <;> rfl
theorem vop_entry {x} : vop P b bar no (.entry x) e mR m Kv = ob (vopF (.entry x) e mR b) m Kv := by simp only [vop]; cases vopF _ e mR b <;> rfl
theorem vop_indexV {k len one x i} : vop P b bar no (.indexV k len one x i) e mR m Kv = ob (vopF (.indexV k len one x i) e mR b) m Kv := by simp only [vop]; cases vopF _ e mR b <;> rfl
theorem vop_slice0 {T k x} : vop P b bar no (.slice0 T k x) e mR m Kv = ob (vopF (.slice0 T k x) e mR b) m Kv := by simp only [vop]; cases vopF _ e mR b <;> rfl
theorem vop_slice3 {k x lo hi mx} : vop P b bar no (.slice3 k x lo hi mx) e mR m Kv = ob (vopF (.slice3 k x lo hi mx) e mR b) m Kv := by simp only [vop]; cases vopF _ e mR b <;> rfl

theorem restr_old {id : Nat} (h : id < base) : restr base an m id = m id := by simp [restr, h]
theorem restr_new {k : Nat} : restr base an m (base + k) = if an.testBit (k / 8) = true then m (base + k) else none := by
  unfold restr
  rw [Nat.add_sub_cancel_left]
  by_cases h : an.testBit (k / 8) = true
  · simp [h]
  · rw [if_neg h, if_neg fun h2 => h2.elim (fun h2 => by omega) fun h2 => h h2]
theorem restr_new0 : restr base an m base = if an.testBit 0 = true then m base else none := by
  have := restr_new (base := base) (an := an) (m := m) (k := 0)
  simpa using this
theorem restr_at2 {a c k : Nat} : restr (a + c) an m (a + k) = if k < c ∨ an.testBit ((k - c) / 8) = true then m (a + k) else none := by
  unfold restr
  rw [Nat.add_sub_add_left]
  by_cases h : k < c
  · rw [if_pos (.inl (by omega)), if_pos (.inl h)]
  · by_cases h2 : an.testBit ((k - c) / 8) = true
    · rw [if_pos (.inr h2), if_pos (.inr h2)]
    · rw [if_neg fun h3 => h3.elim (fun h3 => by omega) h2, if_neg fun h3 => h3.elim h h2]
theorem then_normal {nx : Env → Mem → Nat → Prop} {Q : Post} : Post.then nx Q .normal = nx := rfl
theorem then_exit {nx : Env → Mem → Nat → Prop} {Q : Post} {j : Nat} : Post.then nx Q (.exit j) = Q (.exit j) := rfl
theorem then_ret {nx : Env → Mem → Nat → Prop} {Q : Post} : Post.then nx Q .ret = Q .ret := rfl
theorem block_normal {Q : Post} {j : Nat} : Post.block j Q .normal = Q .normal := rfl
theorem block_exit {Q : Post} {j k : Nat} : Post.block j Q (.exit k) = if k = j then Q .normal else Q (.exit k) := rfl
theorem block_ret {Q : Post} {j : Nat} : Post.block j Q .ret = Q .ret := rfl
theorem pret_normal {R : Env → Mem → Prop} : PRet R .normal = fun e m _ => R e m := rfl
theorem pret_ret {R : Env → Mem → Prop} : PRet R .ret = fun e m _ => R e m := rfl
theorem VC.p0 {f : Nat} {r : PV} (hv : V P f [] mt b r mt)  (hk : Kv r m) : VC P b (.f f) [] bar nd Kv mR m := .pure [] r trivial hv hk
theorem VC.n0 {f : Nat} {r : PV} {ob : Obj} (hv : V P f [] mt b r (upd mt b (some ob)))  (hk : Kv r (upd m b (some ob))) : VC P b (.f f) [] bar nd Kv mR m := .new [] r ob trivial hv hk
theorem VC.p1 {f : Nat} {r : PV} {p0 q0 : PV} (hv : V P f [q0] mt b r mt) (h0 : q0 = p0) (l0 : p0.lt b = true) (hk : Kv r m) : VC P b (.f f) [p0] bar nd Kv mR m := .pure [q0] r ⟨.inl ⟨h0, l0⟩, trivial⟩ hv hk
theorem VC.n1 {f : Nat} {r : PV} {ob : Obj} {p0 q0 : PV} (hv : V P f [q0] mt b r (upd mt b (some ob))) (h0 : q0 = p0) (l0 : p0.lt b = true) (hk : Kv r (upd m b (some ob))) : VC P b (.f f) [p0] bar nd Kv mR m := .new [q0] r ob ⟨.inl ⟨h0, l0⟩, trivial⟩ hv hk
theorem VC.p2 {f : Nat} {r : PV} {p0 p1 q0 q1 : PV} (hv : V P f [q0, q1] mt b r mt) (h0 : q0 = p0) (l0 : p0.lt b = true) (h1 : q1 = p1) (l1 : p1.lt b = true) (hk : Kv r m) : VC P b (.f f) [p0, p1] bar nd Kv mR m := .pure [q0, q1] r ⟨.inl ⟨h0, l0⟩, .inl ⟨h1, l1⟩, trivial⟩ hv hk
theorem VC.n2 {f : Nat} {r : PV} {ob : Obj} {p0 p1 q0 q1 : PV} (hv : V P f [q0, q1] mt b r (upd mt b (some ob))) (h0 : q0 = p0) (l0 : p0.lt b = true) (h1 : q1 = p1) (l1 : p1.lt b = true) (hk : Kv r (upd m b (some ob))) : VC P b (.f f) [p0, p1] bar nd Kv mR m := .new [q0, q1] r ob ⟨.inl ⟨h0, l0⟩, .inl ⟨h1, l1⟩, trivial⟩ hv hk
theorem VC.p3 {f : Nat} {r : PV} {p0 p1 p2 q0 q1 q2 : PV} (hv : V P f [q0, q1, q2] mt b r mt) (h0 : q0 = p0) (l0 : p0.lt b = true) (h1 : q1 = p1) (l1 : p1.lt b = true) (h2 : q2 = p2) (l2 : p2.lt b = true) (hk : Kv r m) : VC P b (.f f) [p0, p1, p2] bar nd Kv mR m := .pure [q0, q1, q2] r ⟨.inl ⟨h0, l0⟩, .inl ⟨h1, l1⟩, .inl ⟨h2, l2⟩, trivial⟩ hv hk
theorem VC.n3 {f : Nat} {r : PV} {ob : Obj} {p0 p1 p2 q0 q1 q2 : PV} (hv : V P f [q0, q1, q2] mt b r (upd mt b (some ob))) (h0 : q0 = p0) (l0 : p0.lt b = true) (h1 : q1 = p1) (l1 : p1.lt b = true) (h2 : q2 = p2) (l2 : p2.lt b = true) (hk : Kv r (upd m b (some ob))) : VC P b (.f f) [p0, p1, p2] bar nd Kv mR m := .new [q0, q1, q2] r ob ⟨.inl ⟨h0, l0⟩, .inl ⟨h1, l1⟩, .inl ⟨h2, l2⟩, trivial⟩ hv hk
theorem VC.p4 {f : Nat} {r : PV} {p0 p1 p2 p3 q0 q1 q2 q3 : PV} (hv : V P f [q0, q1, q2, q3] mt b r mt) (h0 : q0 = p0) (l0 : p0.lt b = true) (h1 : q1 = p1) (l1 : p1.lt b = true) (h2 : q2 = p2) (l2 : p2.lt b = true) (h3 : q3 = p3) (l3 : p3.lt b = true) (hk : Kv r m) : VC P b (.f f) [p0, p1, p2, p3] bar nd Kv mR m := .pure [q0, q1, q2, q3] r ⟨.inl ⟨h0, l0⟩, .inl ⟨h1, l1⟩, .inl ⟨h2, l2⟩, .inl ⟨h3, l3⟩, trivial⟩ hv hk
theorem VC.n4 {f : Nat} {r : PV} {ob : Obj} {p0 p1 p2 p3 q0 q1 q2 q3 : PV} (hv : V P f [q0, q1, q2, q3] mt b r (upd mt b (some ob))) (h0 : q0 = p0) (l0 : p0.lt b = true) (h1 : q1 = p1) (l1 : p1.lt b = true) (h2 : q2 = p2) (l2 : p2.lt b = true) (h3 : q3 = p3) (l3 : p3.lt b = true) (hk : Kv r (upd m b (some ob))) : VC P b (.f f) [p0, p1, p2, p3] bar nd Kv mR m := .new [q0, q1, q2, q3] r ob ⟨.inl ⟨h0, l0⟩, .inl ⟨h1, l1⟩, .inl ⟨h2, l2⟩, .inl ⟨h3, l3⟩, trivial⟩ hv hk
theorem VC.p5 {f : Nat} {r : PV} {p0 p1 p2 p3 p4 q0 q1 q2 q3 q4 : PV} (hv : V P f [q0, q1, q2, q3, q4] mt b r mt) (h0 : q0 = p0) (l0 : p0.lt b = true) (h1 : q1 = p1) (l1 : p1.lt b = true) (h2 : q2 = p2) (l2 : p2.lt b = true) (h3 : q3 = p3) (l3 : p3.lt b = true) (h4 : q4 = p4) (l4 : p4.lt b = true) (hk : Kv r m) : VC P b (.f f) [p0, p1, p2, p3, p4] bar nd Kv mR m := .pure [q0, q1, q2, q3, q4] r ⟨.inl ⟨h0, l0⟩, .inl ⟨h1, l1⟩, .inl ⟨h2, l2⟩, .inl ⟨h3, l3⟩, .inl ⟨h4, l4⟩, trivial⟩ hv hk
theorem VC.n5 {f : Nat} {r : PV} {ob : Obj} {p0 p1 p2 p3 p4 q0 q1 q2 q3 q4 : PV} (hv : V P f [q0, q1, q2, q3, q4] mt b r (upd mt b (some ob))) (h0 : q0 = p0) (l0 : p0.lt b = true) (h1 : q1 = p1) (l1 : p1.lt b = true) (h2 : q2 = p2) (l2 : p2.lt b = true) (h3 : q3 = p3) (l3 : p3.lt b = true) (h4 : q4 = p4) (l4 : p4.lt b = true) (hk : Kv r (upd m b (some ob))) : VC P b (.f f) [p0, p1, p2, p3, p4] bar nd Kv mR m := .new [q0, q1, q2, q3, q4] r ob ⟨.inl ⟨h0, l0⟩, .inl ⟨h1, l1⟩, .inl ⟨h2, l2⟩, .inl ⟨h3, l3⟩, .inl ⟨h4, l4⟩, trivial⟩ hv hk
theorem imp_nt {c : Bool} {X : Prop} (h : c = false → X) : (!c) = true → X := fun h2 => h (by simpa using h2)
theorem imp_nf {c : Bool} {X : Prop} (h : c = true → X) : (!c) = false → X := fun h2 => h (by simpa using h2)
theorem imp_dt {p : Prop} [Decidable p] {X : Prop} (h : p → X) : decide p = true → X := fun h2 => h (by simpa using h2)
theorem imp_df {p : Prop} [Decidable p] {X : Prop} (h : ¬ p → X) : decide p = false → X := fun h2 => h (by simpa using h2)
theorem vg_t {c : Bool} {A B : Unit → Prop} (h1 : c = true → A ()) (h2 : c = false → B ()) : vg (some (.bool c)) true A B := ⟨h1, fun h => h2 (by simpa using h)⟩
theorem vg_f {c : Bool} {A B : Unit → Prop} (h1 : c = true → B ()) (h2 : c = false → A ()) : vg (some (.bool c)) false A B := ⟨h2, fun h => h1 (by simpa using h)⟩
theorem frz_one {id k T : Nat} {xs : List (List PV)} {fz : Bool} (h : m id = some (.row k xs T fz)) : frz m [id] = upd m id (some (.row k xs T true)) := by
  funext j
  by_cases he : j = id
  · subst he; simp [frz, upd, h, Obj.freeze]
  · simp [frz, upd, he]
/-- Ahead of a call a row is frozen. -/
theorem VC.fz {f : Nat} {ps : List PV} {id k T : Nat} {xs : List (List PV)} {fz : Bool} (hb : bar = true) (hR : mR id = some (.row k xs T fz)) (hm : m id = some (.row k xs T fz))
    (h : VC P b (.f f) ps bar nd Kv (upd mR id (some (.row k xs T true))) (upd m id (some (.row k xs T true)))) : VC P b (.f f) ps bar nd Kv mR m :=
  .frz hb [id] (by simp [hR, hm]) (by rw [frz_one hR, frz_one hm]; exact h)
/-- One argument: an own row, which is frozen. -/
theorem VC.o1 {f n : Nat} {r : PV} {id k T : Nat} {xs ys : List (List PV)} {fz : Bool} (hb : bar = true) (hR : mR id = some (.row k xs T fz)) (hm : m id = some (.row k xs T fz)) (hv : V P f [.sl ys] mt b r mt) (hn : n = xs.length) (he : ys = xs)
    (hk : Kv r (upd m id (some (.row k xs T true)))) : VC P b (.f f) [.osl id n] bar nd Kv mR m :=
  .fz hb hR hm (.pure [.sl ys] r ⟨.inr (by subst hn; subst he; simp [purA, pur, upd]), trivial⟩ hv hk)
/-- What a number that lies below the next one is not. -/
theorem below_ne {id nx : Nat} (h : id < nx) : (∀ k, (id = nx + k) = False) ∧ (∀ k, (nx + k = id) = False) ∧ (id = nx) = False ∧ (nx = id) = False ∧ (∀ k, (id < nx + k) = True) :=
  ⟨fun k => by simp; omega, fun k => by simp; omega, by simp; omega, by simp; omega, fun k => by simp; omega⟩
end
end Go.Vx
