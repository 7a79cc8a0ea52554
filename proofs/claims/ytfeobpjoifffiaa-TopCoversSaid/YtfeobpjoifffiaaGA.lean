/- The engine, part 0: pure values, operations, and how the model's code is turned into them. -/
import Derived.WalkKit
import Derived.OrdersIn
import Derived.RangeFuncLeaves
import Derived.Maps.AppendAt
set_option linter.unusedVariables false
set_option linter.unusedSimpArgs false
namespace Go.Vx
open Go Go.RowKit

/-- A pure value. -/
inductive PV where
  | bool (b : Bool)
  | int (k : IntKind) (n : Int)
  | str (s : List UInt8)
  | nilp | nilm | nilf
  | ptr (id k i j : Nat)
  | cptr (cs : List PV)
  | sl (xs : List (List PV))
  | osl (id n : Nat)
  | map (id : Nat)
  | fn (f : Nat) (caps : List PV)
  | agg (cs : List PV)
  | tup (vs : List PV)
  | yld (id : Nat)
  | nsl
instance : Inhabited PV := ⟨.nilp⟩

def PV.one : PV → Bool
  | .agg _ | .tup _ => false
  | _ => true

def PV.cells : PV → List PV
  | .agg cs => cs
  | p => [p]

/-- An operand: a slot, or a constant. -/
inductive XA where
  | t (n : Nat)
  | c (p : PV)
instance : Inhabited XA := ⟨.t 0⟩

def XA.ev (e : Nat → Option PV) : XA → Option PV
  | .t n => e n
  | .c p => some p

inductive XI where
  | mv (x : XA)
  | nilrow (T k : Nat)
  | pick (c a b : XA)
  | alloc (T : Nat) (z : List PV)
  | box (T k : Nat) (x : XA)
  | build (z : List PV) (parts : List (Nat × Nat × XA))
  | mkrow (T k len : Nat) (z : List PV) (parts : List (Nat × XA))
  | load1 (x : XA)
  | loadn (n : Nat) (x : XA)
  | store (n : Nat) (x y : XA)
  | nilck (x : XA)
  | fieldA (off : Nat) (x : XA)
  | indexS (k : Nat) (x i : XA)
  | indexA (k len : Nat) (x i : XA)
  | field1 (off : Nat) (x : XA)
  | fieldn (off n : Nat) (x : XA)
  | indexT (x i : XA)
  | bin (op : BinOp) (x y : XA)
  | eqb (neg : Bool) (x y : XA)
  | eqp (neg : Bool) (x y : XA)
  | eqs (neg : Bool) (ks : List PV) (x y : XA)
  | not (x : XA)
  | neg (x : XA)
  | conv (k : IntKind) (x : XA)
  | sliceT (x : XA) (lo hi : Option XA)
  | sliceS (k : Nat) (x : XA) (lo hi : Option XA)
  | lenT (x : XA)
  | lenS (x : XA)
  | max2 (x y : XA)
  | min2 (x y : XA)
  | append (T k bytes : Nat) (s x : XA)
  | appendL (T k bytes : Nat) (s x : XA)
  | mkslice (T k bytes : Nat) (z : List PV) (l c : XA)
  | ext (i : Nat) (x : XA)
  | mkfn (f : Nat) (caps : List XA)
  | mkmap
  | lookup (g : Bool) (ks : List PV) (z : PV) (ok : Bool) (x k : XA)
  | mapUpd (g : Bool) (ks : List PV) (x k v : XA)
  | mapEnt (g : Bool) (ks : List PV) (z : PV) (x k : XA)
  | entSto (x s v : XA)
  | lenM (x : XA)
  | eqm (neg : Bool) (x y : XA)
  | range (x : XA)
  | entry (x : XA)
  | indexV (k len : Nat) (one : Bool) (x i : XA)
  | slice0 (T k : Nat) (x : XA)
  | slice3 (k : Nat) (x : XA) (lo hi : Option XA) (mx : XA)
  | next (x : XA)
  | never
  | call (f : Nat) (args : List XA)
  | callv (f : XA) (args : List XA)
instance : Inhabited XI := ⟨.mv (.t 0)⟩

def ofVal1 : Value → Option PV
  | .bool b => some (.bool b)
  | .int k n => some (.int k n)
  | .string s => some (.str s.data.toList)
  | .pointer none => some .nilp
  | .slice none 0 0 => some .nsl
  | .map none => some .nilm
  | .nilFunc => some .nilf
  | _ => none
def ofVal : Value → Option PV
  | .agg cs => (cs.toList.mapM ofVal1).map .agg
  | v => ofVal1 v

def cA : Operand → Option XA
  | .tmp t => some (.t t)
  | .const v => (ofVal v).map .c
  | .func f => some (.c (.fn f []))
  | .global _ => none

def tySize (P : Program) (t : TypeId) : Option Nat := (P.info? t).map (·.size)
def tyAgg (P : Program) (t : TypeId) : Option Bool :=
  match P.underlying t with
  | some (.struct _) | some (.array _ _) => some true
  | some _ => some false
  | none => none
def tyZero (P : Program) (t : TypeId) : Option (List PV) := ((P.info? t).bind (·.zero)).bind fun v => v.cells.toList.mapM ofVal1

/-- The element type of a slice type, its cells, its bytes. -/
def slElem (P : Program) (t : TypeId) : Option (TypeId × Nat × Nat) :=
  match P.underlying t with
  | some (.slice e) => (P.info? e).bind fun i => if 0 < i.size ∧ 0 < i.bytes then some (e, i.size, i.bytes) else none
  | _ => none

/-- The kinds of a type's cells, where each can be compared by itself (whole numbers, bools, strings). -/
def scalFs (P : Program) (rec : TypeId → Option (List PV)) : Nat → List Field → Option (List PV)
  | _, [] => some []
  | off, f :: fs => if f.name = "_" ∨ f.offset ≠ off then none else (rec f.type).bind fun ks =>
    if tySize P f.type = some ks.length then (scalFs P rec (off + ks.length) fs).map (ks ++ ·) else none
def scal (P : Program) : Nat → TypeId → Option (List PV)
  | 0, _ => none
  | d + 1, t =>
    match P.underlying t with
    | some .bool => some [.bool false]
    | some (.int k) => some [.int k 0]
    | some .string => some [.str []]
    | some (.struct fs) => if P.stoodInHeld t = true ∨ P.eqGuardType P.depth t = true then none else scalFs P (scal P d) 0 fs.toList
    | _ => none

def cA2 (x y : Operand) (f : XA → XA → XI) : Option XI := (cA x).bind fun x => (cA y).map fun y => f x y
def cAo : Option Operand → Option (Option XA)
  | none => some none
  | some x => (cA x).map some

def cParts (parts : List (Nat × Operand)) (pl : Nat → Option (Nat × Nat)) : Option (List (Nat × Nat × XA)) :=
  parts.mapM fun p => (pl p.1).bind fun q => (cA p.2).map fun x => (q.1, q.2, x)
def cParts1 (parts : List (Nat × Operand)) : Option (List (Nat × XA)) := parts.mapM fun p => (cA p.2).map fun x => (p.1, x)

def isNilS : Operand → Bool
  | .const (.slice none 0 0) => true
  | _ => false
def isZ : Operand → Bool
  | .const (.int _ 0) => true
  | _ => false
/-- A type's zero, as a value. -/
def tyZ (P : Program) (t : TypeId) : Option PV := ((P.info? t).bind (·.zero)).bind ofVal
/-- A key's type: is it a struct; the kinds of its cells. -/
def keyKs (P : Program) (t : TypeId) : Option (Bool × List PV) :=
  match P.underlying t with
  | some .bool => some (false, [.bool false])
  | some (.int k) => some (false, [.int k 0])
  | some .string => some (false, [.str []])
  | some (.struct _) => (scal P 20 t).map fun ks => (true, ks)
  | _ => none
def compMap (P : Program) (f : Bool → List PV → PV → Option XI) : TypeDesc → Option XI
  | .map key elem => (keyKs P key).bind fun q => (tyZ P elem).bind fun z => f q.1 q.2 z
  | _ => none
def compMv (P : Program) (ty : TypeId) (x : Operand) : Option XI := if isNilS x then (slElem P ty).map fun q => .nilrow q.1 q.2.1 else (cA x).map .mv
def compBuild (P : Program) (t : TypeId) (parts : List (Nat × Operand)) : TypeDesc → Option XI
  | .struct fs => (tyZero P t).bind fun z => (fs.toList.mapM fun (f : Field) => (tySize P f.type).map fun k => (f.offset, k)).bind fun pls => (cParts parts fun i => pls[i]?).map fun ps => .build z ps
  | .array _ e => (tyZero P t).bind fun z => (tySize P e).bind fun k => (cParts parts fun i => some (i * k, k)).map fun ps => .build z ps
  | _ => none
def compIndexA (P : Program) (x i : Operand) : TypeDesc → Option XI
  | .slice e => (tySize P e).bind fun k => if k = 0 then none else cA2 x i fun x i => .indexS k x i
  | .array len e => (tySize P e).bind fun k => if k = 0 then none else cA2 x i fun x i => .indexA k len x i
  | _ => none
def compFieldA (P : Program) (x : Operand) (f : Nat) : TypeDesc → Option XI
  | .struct fs => (fs[f]?).bind fun (f : Field) => (tySize P f.type).bind fun k => if k = 0 then none else (cA x).map fun x => .fieldA f.offset x
  | _ => none
def compField (P : Program) (x : Operand) (f : Nat) : TypeDesc → Option XI
  | .struct fs => (fs[f]?).bind fun (f : Field) => (cA x).bind fun x => (tyAgg P f.type).bind fun g =>
    if g then (tySize P f.type).map fun k => .fieldn f.offset k x else some (.field1 f.offset x)
  | _ => none
def compBin (P : Program) (t : TypeId) (x y : Operand) (op : BinOp) : TypeDesc → Option XI
  | .int _ => cA2 x y fun x y => .bin op x y
  | .string => cA2 x y fun x y => .bin op x y
  | .bool => if op = .eql then cA2 x y fun x y => .eqb false x y else if op = .neq then cA2 x y fun x y => .eqb true x y else none
  | .map _ _ => if op = .eql then cA2 x y fun x y => .eqm false x y else if op = .neq then cA2 x y fun x y => .eqm true x y else none
  | .pointer _ => if op = .eql then cA2 x y fun x y => .eqp false x y else if op = .neq then cA2 x y fun x y => .eqp true x y else none
  | .struct _ => (scal P 20 t).bind fun ks => if op = .eql then cA2 x y fun x y => .eqs false ks x y else if op = .neq then cA2 x y fun x y => .eqs true ks x y else none
  | _ => none
def compSlice (P : Program) (x : Operand) (lo hi : Option Operand) : TypeDesc → Option XI
  | .slice e => (tySize P e).bind fun k => if k = 0 then none else (cA x).bind fun x => (cAo lo).bind fun lo => (cAo hi).map fun hi => .sliceS k x lo hi
  | .string => (cA x).bind fun x => (cAo lo).bind fun lo => (cAo hi).map fun hi => .sliceT x lo hi
  | _ => none
def compSlice3 (P : Program) (x : Operand) (lo hi mx : Option Operand) : TypeDesc → Option XI
  | .slice e => (tySize P e).bind fun k => if k = 0 then none else
    match lo, hi, mx with
    | none, some h, some m => if isZ h && isZ m then (cA x).map fun x => .slice0 e k x else none
    | _, _, _ => none
  | _ => none
def compIndex (P : Program) (x i : Operand) : TypeDesc → Option XI
  | .string => cA2 x i .indexT
  | .array len e => (tySize P e).bind fun k => (tyAgg P e).bind fun g => cA2 x i fun x i => .indexV k len (!g) x i
  | _ => none
def compConv (x : Operand) : TypeDesc → TypeDesc → Option XI
  | .int _, .int k => (cA x).map fun x => .conv k x
  | _, _ => none
def compLen (x : Operand) : TypeDesc → Option XI
  | .slice _ => (cA x).map .lenS
  | .string => (cA x).map .lenT
  | .map _ _ => (cA x).map .lenM
  | _ => none
def compB (P : Program) : Builtin → List Operand → List TypeId → Option XI
  | .len, [x], [t] => (P.underlying t).bind (compLen x)
  | .max, [x, y], _ => cA2 x y .max2
  | .min, [x, y], _ => cA2 x y .min2
  | .append, [s, x], [t, u] => if t = u then (slElem P t).bind fun q => (tyZero P q.1).bind fun z => if z.length = q.2.1 then cA2 s x fun s x => .append q.1 q.2.1 q.2.2 s x else none else none
  | _, _, _ => none
def compCall (P : Program) (c : Call) : Option XI :=
  match c.callee with
  | .builtin bi => compB P bi c.args.toList c.argTypes.toList
  | .value (.func f) => (c.args.toList.mapM cA).map fun xs => .call f xs
  | .value (.tmp t) => (c.args.toList.mapM cA).map fun xs => .callv (.t t) xs
  | _ => none
def compFn (fn : Fn) (first caps : Array Operand) : Option XI :=
  match fn with
  | .func f => if first.isEmpty then (caps.toList.mapM cA).map fun cs => .mkfn f cs else none
  | _ => none
def compUn (op : UnOp) (x : Operand) : Option XI :=
  match op with
  | .not => (cA x).map .not
  | .neg => (cA x).map .neg
  | _ => none

def comp (P : Program) (o : Oper) : Option XI :=
  match o.op with
  | .move x => compMv P o.type x
  | .assign x => compMv P o.type x
  | .pick c a b => (cA c).bind fun c => cA2 a b fun a b => .pick c a b
  | .alloc T => (tyZero P T).map fun z => .alloc T z
  | .box T x => (tySize P T).bind fun k => (cA x).map fun x => .box T k x
  | .build t parts => (P.underlying t).bind (compBuild P t parts.toList)
  | .buildSlice t len parts => (slElem P t).bind fun q => (tyZero P q.1).bind fun z => if len * q.2.1 ≤ 2 ^ 24 then (cParts1 parts.toList).map fun ps => .mkrow q.1 q.2.1 len z ps else none
  | .load t x => (cA x).bind fun x => (tyAgg P t).bind fun g => if g then (tySize P t).map fun n => .loadn n x else some (.load1 x)
  | .store t x y => (tySize P t).bind fun n => cA2 x y fun x y => .store n x y
  | .nilCheck x => (cA x).map .nilck
  | .fieldAddr s x f => (P.underlying s).bind (compFieldA P x f)
  | .indexAddr t x i => (P.underlying t).bind (compIndexA P x i)
  | .field t x f => (P.underlying t).bind (compField P x f)
  | .index t x i => (P.underlying t).bind (compIndex P x i)
  | .binOp op t x y _ => (P.underlying t).bind (compBin P t x y op)
  | .unOp op _ x => compUn op x
  | .convert src dst x => (P.underlying src).bind fun d => (P.underlying dst).bind fun d' => compConv x d d'
  | .slice t x lo hi mx => if mx.isNone then (P.underlying t).bind (compSlice P x lo hi) else (P.underlying t).bind (compSlice3 P x lo hi mx)
  | .makeSlice t l c => (slElem P t).bind fun q => (tyZero P q.1).bind fun z => cA2 l c fun l c => .mkslice q.1 q.2.1 q.2.2 z l c
  | .makeMap t r => if r.isNone then some .mkmap else none
  | .lookup t x k okb => (P.underlying t).bind (compMap P fun g ks z => cA2 x k fun x k => .lookup g ks z okb x k)
  | .mapUpdate t x k v | .insert t x k v => (P.underlying t).bind (compMap P fun g ks _ => (cA v).bind fun v => cA2 x k fun x k => .mapUpd g ks x k v)
  | .mapEntry t x k => (P.underlying t).bind (compMap P fun g ks z => cA2 x k fun x k => .mapEnt g ks z x k)
  | .entryStore t x st v => (cA v).bind fun v => cA2 x st fun x st => .entSto x st v
  | .range t x => (P.underlying t).bind fun d => if d matches .map _ _ then (cA x).map .range else none
  | .entry x => (cA x).map .entry
  | .extract t i => (cA t).map fun x => .ext i x
  | .makeFunc fn first caps => compFn fn first caps
  | .call c => compCall P c
  | _ => none

/-- Is it no call of a function? -/
def XI.still : XI → Bool
  | .call .. | .callv .. | .next _ | .never | .appendL .. => false
  | _ => true

/-- Is j among the ancestors? -/
abbrev InA (j s : Nat) : Prop := s.testBit j = true

structure XOp where
  dst : Option Nat
  xi : XI
  guard : Option (Nat × Bool)
  anc : Nat
  bar : Bool
  /-- A call that changes what is there, behind all that lies ahead of it, but beside some that lie behind. -/
  soft : Bool
instance : Inhabited XOp := ⟨⟨none, default, none, 0, false, false⟩⟩

inductive XCode where
  | skip
  | reg (ops : List XOp)
  | regD (ops : List XOp)
  | seq (a b : XCode)
  | cond (c : XA) (a b : XCode)
  | block (i : Nat) (a : XCode)
  | loop (a : XCode)
  | rangeF (g : XA) (ps : List Nat) (a b : XCode)
  | exit (i : Nat)
  | ret
  | stop
instance : Inhabited XCode := ⟨.ret⟩

/-- Is there no range over a function in it? -/
def XCode.flat : XCode → Bool
  | .seq a b | .cond _ a b => a.flat && b.flat
  | .block _ a | .loop a => a.flat
  | .rangeF .. => false
  | _ => true

inductive XEx where
  | normal
  | exit (i : Nat)
  | ret

def upd {α : Type} (f : Nat → Option α) (i : Nat) (x : Option α) : Nat → Option α := fun j => if j = i then x else f j
theorem upd_same {α : Type} (f : Nat → Option α) (i : Nat) (x : Option α) : upd f i x i = x := by simp [upd]
theorem upd_other {α : Type} (f : Nat → Option α) {i j : Nat} (x : Option α) (h : j ≠ i) : upd f i x j = f j := by simp [upd, h]
theorem upd_at {α : Type} (f : Nat → Option α) (i j : Nat) (x : Option α) : upd f i x j = if j = i then x else f j := rfl

abbrev Env := Nat → Option PV
def putE (e : Env) : Option Nat → PV → Env
  | none, _ => e
  | some d, p => upd e d (some p)

/-! How code is turned. -/

/-- Does an operation touch objects; does it change some? -/
def XI.touch : XI → Bool
  | .mv _ | .pick .. | .build .. | .fieldA .. | .field1 .. | .fieldn .. | .indexT .. | .bin .. | .eqb .. | .eqp .. | .eqs .. | .not _ | .neg _ | .conv .. | .sliceT .. | .lenT _ | .lenS _ | .max2 .. | .min2 .. | .ext .. | .mkfn .. | .nilck _ | .eqm .. | .indexV .. | .never => false
  | _ => true
def XI.wr : XI → Bool
  | .store .. | .append .. | .appendL .. | .mapUpd .. | .mapEnt .. | .entSto .. => true
  | _ => false

/-- May it make an object? -/
def XI.mk : XI → Bool
  | .nilrow .. | .alloc .. | .box .. | .mkrow .. | .append .. | .appendL .. | .mkslice .. | .mkmap | .range _ | .slice0 .. | .call .. | .callv .. => true
  | _ => false
/-- What a row's append is, where the row is the region's own. -/
def XI.own : XI → XI
  | .append T k b s x => .appendL T k b s x
  | x => x

def guardOf (ops : Array Oper) : Option (Nat × Bool) → Option (Option (Nat × Bool))
  | none => some none
  | some (j, want) => ((ops[j]?).bind (·.dst)).map fun t => some (t, want)
def dstOk (n : Nat) : Option Nat → Bool
  | none => true
  | some d => decide (d < n)
/-- A call of a function, of a function value; all else. -/
def compX (P : Program) (o : Oper) : Option XI :=
  match o.op with
  | .call c => match c.callee with
    | .value (.func f) => (c.args.toList.mapM cA).map fun xs => .call f xs
    | .value (.tmp t) => (c.args.toList.mapM cA).map fun xs => .callv (.t t) xs
    | _ => (comp P o).bind fun x => if x.still then some x else none
  | .next x s => if s then none else (cA x).map .next
  | _ => (comp P o).bind fun x => if x.still then some x else none

def compOp (P : Program) (n : Nat) (ops : Array Oper) (o : Oper) : Option XOp :=
  (guardOf ops o.guard).bind fun g => if dstOk n o.dst then some { dst := o.dst, xi := (compX P o).getD .never, guard := g, anc := 0, bar := true, soft := false } else none

def XI.isCall : XI → Bool
  | .call _ _ | .callv _ _ => true
  | _ => false
/-- The order of a region: each operation's ancestors; which are ordered with all that touch objects. -/
def orders (ops : Array Oper) (l : List XOp) : List XOp :=
  let bs := Region.before ops
  let tb := l.zipIdx.foldl (fun s (x, i) => if x.xi.touch then s ||| 2 ^ i else s) 0
  let de := fun i => l.zipIdx.foldl (fun s (_, j) => if (bs.getD j 0).testBit i then s ||| 2 ^ j else s) 0
  l.zipIdx.map fun (x, i) =>
    let an := bs.getD i 0
    let br := x.xi.touch && ((an ||| de i ||| 2 ^ i) &&& tb) == tb
    { x with anc := an, bar := br, soft := x.xi.isCall && !br && (an &&& (tb &&& (2 ^ i - 1))) == tb &&& (2 ^ i - 1), xi := if br then x.xi else x.xi.own }

def XA.slots : XA → List Nat
  | .t n => [n]
  | .c _ => []
def slotsO : Option XA → List Nat
  | none => []
  | some x => x.slots
def slotsL (l : List XA) : List Nat := l.flatMap XA.slots
def XI.slots : XI → List Nat
  | .mv x | .box _ _ x | .load1 x | .loadn _ x | .nilck x | .fieldA _ x | .field1 _ x | .fieldn _ _ x | .not x | .neg x | .conv _ x | .lenT x | .lenS x | .ext _ x | .lenM x | .range x | .entry x | .slice0 _ _ x | .next x => x.slots
  | .nilrow _ _ | .alloc _ _ | .mkmap | .never => []
  | .pick c a b => c.slots ++ a.slots ++ b.slots
  | .build _ ps => slotsL (ps.map (·.2.2))
  | .mkrow _ _ _ _ ps => slotsL (ps.map (·.2))
  | .store _ x y | .indexS _ x y | .indexA _ _ x y | .indexT x y | .bin _ x y | .eqb _ x y | .eqp _ x y | .eqs _ _ x y | .max2 x y | .min2 x y | .append _ _ _ x y | .appendL _ _ _ x y | .mkslice _ _ _ _ x y | .lookup _ _ _ _ x y | .mapEnt _ _ _ x y | .eqm _ x y | .indexV _ _ _ x y => x.slots ++ y.slots
  | .mapUpd _ _ c a b | .entSto c a b => c.slots ++ a.slots ++ b.slots
  | .slice3 _ x lo hi mx => x.slots ++ slotsO lo ++ slotsO hi ++ mx.slots
  | .sliceT x lo hi | .sliceS _ x lo hi => x.slots ++ slotsO lo ++ slotsO hi
  | .mkfn _ cs => slotsL cs
  | .call _ cs => slotsL cs
  | .callv f cs => f.slots ++ slotsL cs

def looks (X : XOp) : List Nat := X.xi.slots ++ (match X.guard with | some (t, _) => [t] | none => [])

def ancOf (xs : List XOp) (j : Nat) : Nat :=
  match xs[j]? with
  | some Y => Y.anc
  | none => 0
def ancEdges (o : Oper) (xs : List XOp) : Nat := o.after.toList.foldl (fun s ed => if Region.binds .any ed then s ||| (2 ^ ed.on ||| ancOf xs ed.on) else s) 0
/-- The operations that may make an object. -/
def mks (xs : List XOp) : Nat := xs.zipIdx.foldl (fun s (x, i) => if x.xi.mk then s ||| 2 ^ i else s) 0
def XI.isL : XI → Bool
  | .appendL .. => true
  | _ => false
def okLoc (mk i j : Nat) (X Y : XOp) : Bool := !X.xi.isL || !Y.xi.touch || X.anc &&& Y.anc &&& mk == 0 || X.anc.testBit j || Y.anc.testBit i
def okPair (i j : Nat) (X Y : XOp) : Bool :=
  (match Y.dst with
   | none => true
   | some t => decide (X.dst ≠ some t) && (!(looks X).contains t || (decide (j < i) && X.anc.testBit j) || (decide (i < j) && Y.anc.testBit i))) &&
  (!X.bar || !X.xi.touch || !Y.xi.touch || X.anc.testBit j || Y.anc.testBit i) && (!X.soft || !decide (j < i) || !Y.xi.touch || X.anc.testBit j)
def okAt (ops : Array Oper) (xs : List XOp) (i : Nat) (X : XOp) (o : Oper) : Bool :=
  o.after.toList.all (fun ed => !Region.binds .any ed || decide (ed.on < i)) && X.anc == ancEdges o xs && (!X.xi.wr || X.bar || X.xi.isL) && (xs.zipIdx.all fun (Y, j) => i == j || okLoc (mks xs) i j X Y) && !(X.xi matches .next _) && xs.zipIdx.all fun (Y, j) => i == j || okPair i j X Y
def okD (ops : Array Oper) (xs : List XOp) : Bool :=
  xs.length == ops.size && (xs.zip ops.toList).zipIdx.all fun ((X, o), i) => okAt ops xs i X o

def compC (P : Program) (n : Nat) : Code → Option XCode
  | .skip => some .skip
  | .region _ ops d => (ops.toList.mapM (compOp P n ops)).bind fun l =>
    if d then if okD ops (orders ops l) then some (.regD (orders ops l)) else some .stop else some (.reg l)
  | .seq a b => (compC P n a).bind fun x => (compC P n b).map fun y => .seq x y
  | .cond c a b => (cA c).bind fun c => (compC P n a).bind fun x => (compC P n b).map fun y => .cond c x y
  | .block i a => (compC P n a).map fun x => .block i x
  | .loop a => (compC P n a).map .loop
  | .rangeFunc g ps a b => if ps.toList.all (fun t => decide (t < n)) then (cA g).bind fun g => (compC P n a).bind fun x => (compC P n b).map fun y => .rangeF g ps.toList x y else some .stop
  | .exit i => some (.exit i)
  | .ret => some .ret
  | _ => some .stop

end Go.Vx
/- The engine, part 1: pure values, and how they lie in memory. -/
set_option linter.unusedVariables false
set_option linter.unusedSimpArgs false
namespace Go.Vx
open Go Go.RowKit

/-- Where an object lies: nowhere (the nil slice), or in a block, with a capacity. -/
inductive Loc where
  | nil
  | at (b cap : Nat)

abbrev Ids := Nat → Option Loc
def noIds : Ids := fun _ => none

inductive Rep (w : World) (ok : Nat → Prop) : Ids → PV → Value → Prop
  | bool {β} (b) : Rep w ok β (.bool b) (.bool b)
  | int {β} (k n) : Rep w ok β (.int k n) (.int k n)
  | str {β} (s) : Rep w ok β (.str s) (.string ⟨s.toArray⟩)
  | nilp {β} : Rep w ok β .nilp (.pointer none)
  | nilm {β} : Rep w ok β .nilm (.map none)
  | nilf {β} : Rep w ok β .nilf .nilFunc
  | ptr {β} (id k i j b cap) (h : β id = some (.at b cap)) : Rep w ok β (.ptr id k i j) (.pointer (some ⟨b, i * k + j, none⟩))
  | cptr {β} (cs : List PV) (a : Addr) (f : Nat → Value) (hs : a.spot = none) (hok : ok a.block) (h1 : ∀ c ∈ cs, c.one = true)
      (hc : ∀ (j : Nat) c, cs[j]? = some c → w.cell? (a.add j) = some (f j)) (hr : ∀ (j : Nat) c, cs[j]? = some c → Rep w ok noIds c (f j)) :
      Rep w ok β (.cptr cs) (.pointer (some a))
  | sl0 {β} (a cap) (hcap : cap ≤ maxLen) : Rep w ok β (.sl []) (.slice a 0 cap)
  | sl {β} (k : Nat) (xs : List (List PV)) (a : Addr) (cap : Nat) (f : Nat → Value) (hne : xs ≠ []) (hl : xs.length ≤ cap) (hcap : cap ≤ maxLen)
      (hk : ∀ x ∈ xs, x.length = k) (hs : a.spot = none) (hok : ok a.block) (h1 : ∀ c ∈ xs.flatten, c.one = true)
      (hc : ∀ (j : Nat) c, xs.flatten[j]? = some c → w.cell? (a.add j) = some (f j)) (hr : ∀ (j : Nat) c, xs.flatten[j]? = some c → Rep w ok noIds c (f j)) :
      Rep w ok β (.sl xs) (.slice (some a) xs.length cap)
  | osl0 {β} (id) (A) (h : β id = some .nil) : Rep w ok β (.osl id 0) (.slice A 0 0)
  | osl {β} (id n b cap) (h : β id = some (.at b cap)) (hn : n ≤ cap) : Rep w ok β (.osl id n) (.slice (some ⟨b, 0, none⟩) n cap)
  | map {β} (id b cap) (h : β id = some (.at b cap)) : Rep w ok β (.map id) (.map (some b))
  | yld {β} (id b cap) (h : β id = some (.at b cap)) : Rep w ok β (.yld id) (.func (.yield b) #[] #[])
  | nsl {β} : Rep w ok β .nsl (.slice none 0 0)
  | fn {β} (f : Nat) (caps : List PV) (vs : List Value) (hl : vs.length = caps.length) (hr : ∀ (j : Nat) c v, caps[j]? = some c → vs[j]? = some v → Rep w ok β c v) :
      Rep w ok β (.fn f caps) (.func (.func f) #[] vs.toArray)
  | agg {β} (cs : List PV) (vs : List Value) (hl : vs.length = cs.length) (h1 : ∀ c ∈ cs, c.one = true) (hr : ∀ (j : Nat) c v, cs[j]? = some c → vs[j]? = some v → Rep w ok β c v) :
      Rep w ok β (.agg cs) (.agg vs.toArray)
  | tup {β} (cs : List PV) (vs : List Value) (hl : vs.length = cs.length) (hr : ∀ (j : Nat) c v, cs[j]? = some c → vs[j]? = some v → Rep w ok β c v) :
      Rep w ok β (.tup cs) (.tuple vs.toArray)

theorem add_block (a : Addr) (n : Nat) : (a.add n).block = a.block := by unfold Addr.add; split <;> rfl

theorem Rep.mono {w w' : World} {ok ok' : Nat → Prop} {β : Ids} {p : PV} {v : Value} (h : Rep w ok β p v)
    (hw : ∀ b, ok b → w'.heap[b]? = w.heap[b]?) (ho : ∀ b, ok b → ok' b) : ∀ β' : Ids, (∀ id x, β id = some x → β' id = some x) → Rep w' ok' β' p v := by
  induction h with
  | bool b => intro β' hb; exact .bool b
  | int k n => intro β' hb; exact .int k n
  | str s => intro β' hb; exact .str s
  | nilp => intro β' hb; exact .nilp
  | nilm => intro β' hb; exact .nilm
  | nilf => intro β' hb; exact .nilf
  | ptr id k i j b cap h => intro β' hb; exact .ptr id k i j b cap (hb _ _ h)
  | cptr cs a f hs hok h1 hc hr ih =>
    intro β' hb
    exact .cptr cs a f hs (ho _ hok) h1 (fun j c hj => by
      rw [World.cell?_of_block (w := w) (w' := w') (by rw [add_block]; exact hw _ hok)]; exact hc j c hj) (fun j c hj => ih j c hj _ (fun _ _ h => h))
  | sl0 a cap hcap => intro β' hb; exact .sl0 a cap hcap
  | sl k xs a cap f hne hl hcap hk hs hok h1 hc hr ih =>
    intro β' hb
    exact .sl k xs a cap f hne hl hcap hk hs (ho _ hok) h1 (fun j c hj => by
      rw [World.cell?_of_block (w := w) (w' := w') (by rw [add_block]; exact hw _ hok)]; exact hc j c hj) (fun j c hj => ih j c hj _ (fun _ _ h => h))
  | osl0 id A h => intro β' hb; exact .osl0 id A (hb _ _ h)
  | yld id b cap h => intro β' hb; exact .yld id b cap (hb _ _ h)
  | nsl => intro β' hb; exact .nsl
  | osl id n b cap h hn => intro β' hb; exact .osl id n b cap (hb _ _ h) hn
  | map id b cap h => intro β' hb; exact .map id b cap (hb _ _ h)
  | fn f caps vs hl hr ih => intro β' hb; exact .fn f caps vs hl (fun j c v h1 h2 => ih j c v h1 h2 _ hb)
  | agg cs vs hl h1 hr ih => intro β' hb; exact .agg cs vs hl h1 (fun j c v h1 h2 => ih j c v h1 h2 _ hb)
  | tup cs vs hl hr ih => intro β' hb; exact .tup cs vs hl (fun j c v h1 h2 => ih j c v h1 h2 _ hb)

/-- A range over a function, as its rounds see it: the code, the slots at its head, where objects lay. -/
structure LoopKey where
  P : Program
  n : Nat
  e : Nat → Option PV
  ps : List Nat
  xa : XCode
  xb : XCode
  β0 : Ids
  top : Nat
  fn : Nat

/-- An object: a row of elements (the array behind a slice) with pure contents; a variable or struct with any contents; a map; where a range over a map stands; a range over a function. -/
inductive Obj where
  | row (k : Nat) (xs : List (List PV)) (T : TypeId) (fz : Bool)
  | box (cs : List PV) (T : TypeId)
  | map (es : List (PV × PV))
  | iter (mid : Option Nat) (n : Nat) (seen : List Nat) (last : Nat)
  | loop (k : LoopKey) (st : LoopState) (pend : Option (Option Nat))

abbrev Mem := Nat → Option Obj

def Obj.fz : Obj → Bool
  | .row _ _ _ fz => fz
  | _ => false

def jumpOf : Option (Option Nat) → Option Code
  | none => none
  | some none => some .ret
  | some (some i) => some (.exit i)

/-- How an object lies in memory. -/
def ORep (w : World) (ok : Nat → Prop) (β : Ids) : Loc → Obj → Prop
  | .nil, .row _ xs _ _ => xs = []
  | .at b cap, .row k xs T fz =>
    (∃ cur : Array Value, w.heap[b]? = some (.cells cur T (0, 0)) ∧ cur.size = cap * k ∧ xs.length ≤ cap ∧ cap ≤ maxLen ∧ (∀ x ∈ xs, x.length = k) ∧ (∀ c ∈ xs.flatten, c.one = true) ∧
      ∀ (j : Nat) c, xs.flatten[j]? = some c → ∃ v, cur[j]? = some v ∧ Rep w ok noIds c v) ∧ (fz = true → ok b) ∧ (fz = false → ¬ ok b)
  | .at b _, .box cs T =>
    (∃ cur : Array Value, w.heap[b]? = some (.cells cur T (0, 0)) ∧ cur.size = cs.length ∧ (∀ c ∈ cs, c.one = true) ∧
      ∀ (j : Nat) c, cs[j]? = some c → ∃ v, cur[j]? = some v ∧ Rep w ok β c v) ∧ ¬ ok b
  | .at b _, .map es =>
    (∃ ents : Array MapEntry, w.heap[b]? = some (.map ents es.length) ∧ ents.size = es.length ∧
      ∀ (j : Nat) e, es[j]? = some e → ∃ x, ents[j]? = some x ∧ Rep w ok noIds e.1 x.key ∧ Rep w ok β e.2 x.val ∧ x.born = j) ∧ ¬ ok b
  | .at b _, .iter mid n seen last =>
    (∃ mo, w.heap[b]? = some (.mapIter mo n seen.toArray last) ∧ (match mid with
      | none => mo = none
      | some id => ∃ mb cap, mo = some mb ∧ β id = some (.at mb cap)) ∧ (seen ≠ [] → 0 < last)) ∧ ¬ ok b
  | .at b _, .loop k st pend =>
    (∃ tmps ca cb dl, w.heap[b]? = some (.loop { state := st, pending := jumpOf pend, fn := k.fn, tmps := tmps, params := k.ps.toArray, assign := ca, body := cb, defers := dl }) ∧
      tmps.size = k.n ∧ (∀ t p, k.e t = some p → ∃ v, tmps[t]? = some v ∧ Rep w ok k.β0 p v) ∧ compC k.P k.n ca = some k.xa ∧ compC k.P k.n cb = some k.xb ∧
      (∀ t ∈ k.ps, t < k.n) ∧ (∀ id x, k.β0 id = some x → β id = some x) ∧ ∀ id, k.top ≤ id → k.β0 id = none) ∧ ¬ ok b
  | _, _ => False

/-- The blocks that live, unfrozen objects own. -/
def Owns (β : Ids) (m : Mem) (b : Nat) : Prop := ∃ id o cap, m id = some o ∧ o.fz = false ∧ β id = some (.at b cap)

structure MSat (w : World) (ok : Nat → Prop) (β : Ids) (m : Mem) : Prop where
  objs : ∀ id o, m id = some o → ∃ l, β id = some l ∧ ORep w ok β l o
  disj : ∀ id id' o o' b cap cap', m id = some o → m id' = some o' → β id = some (.at b cap) → β id' = some (.at b cap') → o.fz = false → o'.fz = false → id = id'

/-- What has not turned: all blocks of the world w0 but those of own0. -/
structure Keeps (w0 : World) (own0 : Nat → Prop) (w : World) : Prop where
  os : w.os = w0.os
  tape : w.tape = w0.tape
  output : w.output = w0.output
  size : w0.heap.size ≤ w.heap.size
  block : ∀ b, b < w0.heap.size → ¬ own0 b → w.heap[b]? = w0.heap[b]?
  drawn : w0.drawn ≤ w.drawn

theorem Keeps.refl (w : World) (own : Nat → Prop) : Keeps w own w := ⟨rfl, rfl, rfl, Nat.le_refl _, fun _ _ _ => rfl, Nat.le_refl _⟩

structure St where
  env : Nat → Option PV
  mem : Mem
  nxt : Nat

/-- The frame of a function's walk: the world and the memory that it found. -/
structure Fr where
  n : Nat
  w0 : World
  own0 : Nat → Prop
  ok0 : Nat → Prop
  b0 : Nat
  β0 : Ids

/-- What is deferred: marks of ranges over functions, each with an empty block of its own. -/
structure Marks (F : Fr) (β : Ids) (ok : Nat → Prop) (m : Mem) (ds : List Deferred) (w : World) : Prop where
  each : ∀ d ∈ ds, ∃ D, d.target = .collected D ∧ w.heap[D]? = some (.deferred (some [])) ∧ F.w0.heap.size ≤ D ∧ ¬ ok D ∧ ¬ Owns β m D
  apart : ds.Pairwise fun d d' => d.target ≠ d'.target

theorem Marks.nil {F : Fr} {β : Ids} {ok : Nat → Prop} {m : Mem} {w : World} : Marks F β ok m [] w := ⟨by simp, .nil⟩

structure Sat0 (F : Fr) (β : Ids) (ok : Nat → Prop) (e : Nat → Option PV) (m : Mem) (a : Act) (w : World) : Prop where
  size : a.tmps.size = F.n
  defers : Marks F β ok m a.defers w
  env : ∀ t p, e t = some p → ∃ v, a.tmps[t]? = some v ∧ Rep w ok β p v
  mem : MSat w ok β m
  okb : ∀ b, ok b → b < w.heap.size
  keeps : Keeps F.w0 F.own0 w
  own : ∀ b, Owns β m b → F.own0 b ∨ F.w0.heap.size ≤ b
  ok0 : ∀ b, F.ok0 b → ok b
  oks : ∀ b, ok b → F.ok0 b ∨ F.own0 b ∨ F.w0.heap.size ≤ b

theorem ORep.lt {w : World} {ok : Nat → Prop} {β : Ids} {b cap : Nat} {o : Obj} (h : ORep w ok β (.at b cap) o) : b < w.heap.size := by
  cases o with
  | row k xs T fz => obtain ⟨⟨cur, hc, _⟩, _⟩ := h; exact (Array.getElem?_eq_some_iff.1 hc).1
  | box cs T => obtain ⟨⟨cur, hc, _⟩, _⟩ := h; exact (Array.getElem?_eq_some_iff.1 hc).1
  | map es => obtain ⟨⟨cur, hc, _⟩, _⟩ := h; exact (Array.getElem?_eq_some_iff.1 hc).1
  | iter mid n seen last => obtain ⟨⟨cur, hc, _⟩, _⟩ := h; exact (Array.getElem?_eq_some_iff.1 hc).1
  | loop k st pend => obtain ⟨⟨t, ca, cb, dl, hc, _⟩, _⟩ := h; exact (Array.getElem?_eq_some_iff.1 hc).1

theorem ORep.froz {w : World} {ok : Nat → Prop} {β : Ids} {b cap : Nat} {o : Obj} (h : ORep w ok β (.at b cap) o) (hf : o.fz = true) : ok b := by
  cases o with
  | row k xs T fz => exact h.2.1 hf
  | _ => cases hf

theorem ORep.not_ok {w : World} {ok : Nat → Prop} {β : Ids} {b cap : Nat} {o : Obj} (h : ORep w ok β (.at b cap) o) (hf : o.fz = false) : ¬ ok b := by
  cases o with
  | row k xs T fz => exact h.2.2 hf
  | _ => exact h.2

theorem MSat.orep {w : World} {ok : Nat → Prop} {β : Ids} {m : Mem} (hm : MSat w ok β m) {id : Nat} {o : Obj} {l : Loc} (h : m id = some o) (hb : β id = some l) : ORep w ok β l o := by
  obtain ⟨l', hl, hr⟩ := hm.objs id o h
  rw [hb] at hl
  injection hl with hl
  subst hl
  exact hr

theorem MSat.disj' {w : World} {ok : Nat → Prop} {β : Ids} {m : Mem} (hm : MSat w ok β m) {id id' : Nat} {o o' : Obj} {b cap cap' : Nat} (h : m id = some o) (h' : m id' = some o') (hb : β id = some (.at b cap)) (hb' : β id' = some (.at b cap'))
    (hf : o'.fz = false) : id = id' := by
  cases hfo : o.fz with
  | false => exact hm.disj id id' o o' b cap cap' h h' hb hb' hfo hf
  | true => exact absurd ((hm.orep h hb).froz hfo) ((hm.orep h' hb').not_ok hf)

theorem ORep.mono {w w' : World} {ok ok' : Nat → Prop} {β β' : Ids} {l : Loc} {o : Obj} (h : ORep w ok β l o)
    (hw : ∀ b, ok b → w'.heap[b]? = w.heap[b]?) (ho : ∀ b, ok b → ok' b) (hβ : ∀ id x, β id = some x → β' id = some x)
    (hb : ∀ b cap, l = .at b cap → w'.heap[b]? = w.heap[b]? ∧ (ok' b → ok b)) : ORep w' ok' β' l o := by
  cases l with
  | nil => cases o <;> first | exact h | exact h.elim
  | «at» b cap =>
    obtain ⟨hbe, hbo⟩ := hb b cap rfl
    cases o with
    | row k xs T fz =>
      obtain ⟨⟨cur, h1, h2, h3, h4, h5, h6, h7⟩, h8, h9⟩ := h
      refine ⟨⟨cur, hbe.trans h1, h2, h3, h4, h5, h6, fun j c hj => ?_⟩, fun e => ho _ (h8 e), fun e k => h9 e (hbo k)⟩
      obtain ⟨v, hv, hr⟩ := h7 j c hj
      exact ⟨v, hv, hr.mono hw ho _ (fun _ _ h => h)⟩
    | box cs T =>
      obtain ⟨⟨cur, h1, h2, h3, h7⟩, h8⟩ := h
      refine ⟨⟨cur, hbe.trans h1, h2, h3, fun j c hj => ?_⟩, fun k => h8 (hbo k)⟩
      obtain ⟨v, hv, hr⟩ := h7 j c hj
      exact ⟨v, hv, hr.mono hw ho _ hβ⟩
    | map es =>
      obtain ⟨⟨cur, h1, h2, h7⟩, h8⟩ := h
      refine ⟨⟨cur, hbe.trans h1, h2, fun j c hj => ?_⟩, fun k => h8 (hbo k)⟩
      obtain ⟨x, hv, hr, hr2, hcl⟩ := h7 j c hj
      exact ⟨x, hv, hr.mono hw ho _ (fun _ _ h => h), hr2.mono hw ho _ hβ, hcl⟩
    | iter mid n seen last =>
      obtain ⟨⟨mo, h1, h2, h3⟩, h8⟩ := h
      refine ⟨⟨mo, hbe.trans h1, ?_, h3⟩, fun k => h8 (hbo k)⟩
      cases mid with
      | none => exact h2
      | some id => obtain ⟨mb, cap, g1, g2⟩ := h2; exact ⟨mb, cap, g1, hβ _ _ g2⟩
    | loop k st pend =>
      obtain ⟨⟨tm, ca, cb, dl, h1, h2, h3, h4, h5, h6, h7, h9⟩, h8⟩ := h
      refine ⟨⟨tm, ca, cb, dl, hbe.trans h1, h2, fun t p ht => ?_, h4, h5, h6, fun id x hx => hβ _ _ (h7 id x hx), h9⟩, fun k => h8 (hbo k)⟩
      obtain ⟨v, hv, hr⟩ := h3 t p ht
      exact ⟨v, hv, hr.mono hw ho _ (fun _ _ h => h)⟩

end Go.Vx
/- The engine, part 2: operations over pure values, and how the model's operations are turned into them. -/
set_option linter.unusedVariables false
set_option linter.unusedSimpArgs false
namespace Go.Vx
open Go Go.RowKit

def PV.nt : PV → Bool
  | .tup _ => false
  | _ => true

def splice (cs : List PV) (j : Nat) (ps : List PV) : List PV := cs.take j ++ ps ++ cs.drop (j + ps.length)

/-- What can be read as a value that stays; the rows that it names must be frozen (strict), or may be not. -/
def pur (strict : Bool) (m : Mem) : PV → Option PV
  | .osl id n => match m id with
    | some (.row _ xs _ fz) => if n ≤ xs.length ∧ (strict = true → fz = true) then some (.sl (xs.take n)) else none
    | _ => none
  | .ptr .. | .map _ | .agg _ | .tup _ | .yld _ => none
  | .nsl => some (.sl [])
  | .fn f cs => if cs.isEmpty then some (.fn f []) else none
  | p => some p
def purA (strict : Bool) (m : Mem) : PV → Option PV
  | .agg cs => (cs.mapM (pur strict m)).map .agg
  | p => pur strict m p

def rd (m : Mem) (n : Nat) : PV → Option (List PV)
  | .ptr id k i j => match m id with
    | some (.row k' xs _ _) => if k' = k then (xs[i]?).bind fun x => if j + n ≤ x.length then some ((x.drop j).take n) else none else none
    | some (.box cs _) => if i = 0 ∧ j + n ≤ cs.length then some ((cs.drop j).take n) else none
    | _ => none
  | .cptr cs => if n ≤ cs.length then some (cs.take n) else none
  | _ => none

def head1 : List PV → Option PV
  | [c] => some c
  | _ => none

abbrev Delta := List (Nat × Option Obj)
def Mem.upds (m : Mem) (d : Delta) : Mem := d.foldl (fun m x => upd m x.1 x.2) m

def intOp (op : BinOp) (k : IntKind) (a b : Int) : Option PV :=
  match op with
  | .add => some (.int k (k.wrap (a + b)))
  | .sub => some (.int k (k.wrap (a - b)))
  | .mul => some (.int k (k.wrap (a * b)))
  | .quo => if b ≠ 0 then some (.int k (k.wrap (a.tdiv b))) else none
  | .rem => if b ≠ 0 then some (.int k (a.tmod b)) else none
  | .eql => some (.bool (decide (a = b)))
  | .neq => some (.bool (decide (a ≠ b)))
  | .lss => some (.bool (decide (a < b)))
  | .leq => some (.bool (decide (a ≤ b)))
  | .gtr => some (.bool (decide (b < a)))
  | .geq => some (.bool (decide (b ≤ a)))
  | .and => some (.int k (k.wrap (BitVec.ofInt k.bits a &&& BitVec.ofInt k.bits b).toNat))
  | .or => some (.int k (k.wrap (BitVec.ofInt k.bits a ||| BitVec.ofInt k.bits b).toNat))
  | .xor => some (.int k (k.wrap (BitVec.ofInt k.bits a ^^^ BitVec.ofInt k.bits b).toNat))
  | .andNot => some (.int k (k.wrap (BitVec.ofInt k.bits a &&& ~~~BitVec.ofInt k.bits b).toNat))
  | _ => none

def shOp (op : BinOp) (k : IntKind) (a b : Int) : Option PV :=
  match op with
  | .shl => if 0 ≤ b then some (.int k (k.wrap (a * 2 ^ (min b.toNat k.bits)))) else none
  | .shr => if 0 ≤ b then some (.int k (a.fdiv (2 ^ (min b.toNat k.bits)))) else none
  | _ => none

def strOp (op : BinOp) (s t : List UInt8) : Option PV :=
  match op with
  | .add => if ((s.length + t.length : Nat) : Int) ≤ IntKind.i64.max then some (.str (s ++ t)) else none
  | .eql => some (.bool (decide (s = t)))
  | .neq => some (.bool (decide (s ≠ t)))
  | .lss => some (.bool (Op.bytesLess s t))
  | .leq => some (.bool (Op.bytesLess s t || decide (s = t)))
  | .gtr => some (.bool (!(Op.bytesLess s t || decide (s = t))))
  | .geq => some (.bool (!Op.bytesLess s t))
  | _ => none

def binF (op : BinOp) : PV → PV → Option PV
  | .int k a, .int k' b =>
    match op with
    | .shl | .shr => shOp op k a b
    | _ => if k = k' then intOp op k a b else none
  | .str s, .str t => strOp op s t
  | _, _ => none

/-- Are cells of scalar kinds the same? -/
def eq1 : PV → PV → PV → Option Bool
  | .bool _, .bool a, .bool b => some (decide (a = b))
  | .int k _, .int k1 a, .int k2 b => if k1 = k ∧ k2 = k then some (decide (a = b)) else none
  | .str _, .str a, .str b => some (decide (a = b))
  | _, _, _ => none
def eqCells : List PV → List PV → List PV → Option Bool
  | [], [], [] => some true
  | k :: ks, c :: cs, d :: ds => (eq1 k c d).bind fun x => (eqCells ks cs ds).bind fun r => some (x && r)
  | _, _, _ => none

def idx (i : PV) : Option Nat :=
  match i with
  | .int _ n => if 0 ≤ n then some n.toNat else none
  | _ => none
def idxo (d : Nat) (e : Nat → Option PV) : Option XA → Option Nat
  | none => some d
  | some x => (x.ev e).bind idx

/-- The elements of what is appended. -/
def elems (m : Mem) : PV → Option (List (List PV))
  | .osl id n => match m id with
    | some (.row _ ys _ _) => if n ≤ ys.length then some (ys.take n) else none
    | _ => none
  | .sl ys => some ys
  | .nsl => some []
  | _ => none

def fillP (e : Nat → Option PV) : List PV → List (Nat × Nat × XA) → Option (List PV)
  | z, [] => some z
  | z, (off, n, x) :: r => (x.ev e).bind fun p => if p.cells.length = n ∧ off + n ≤ z.length ∧ p.nt = true then fillP e (splice z off p.cells) r else none

def fillR (e : Nat → Option PV) (m : Mem) (k : Nat) : List (List PV) → List (Nat × XA) → Option (List (List PV))
  | xs, [] => some xs
  | xs, (i, x) :: r => (x.ev e).bind fun p => (purA true m p).bind fun q => if q.cells.length = k ∧ i < xs.length then fillR e m k (xs.set i q.cells) r else none

/-- Are two keys the same? -/
def keq (g : Bool) (ks : List PV) : PV → PV → Option Bool
  | .agg cs, .agg ds => if g then eqCells ks cs ds else none
  | p, q => if g then none else
    match ks with
    | [k] => eq1 k p q
    | _ => none
def mfind (g : Bool) (ks : List PV) (k : PV) : List (PV × PV) → Nat → Option (Option (Nat × PV))
  | [], _ => some none
  | e :: r, i => (keq g ks k e.1).bind fun t => if t then some (some (i, e.2)) else mfind g ks k r (i + 1)
def mes (m : Mem) : PV → Option (List (PV × PV))
  | .nilm => some []
  | .map id => match m id with
    | some (.map es) => some es
    | _ => none
  | _ => none
/-- What a key has; a key that is right. -/
def mget (g : Bool) (ks : List PV) (q : PV) (es : List (PV × PV)) : Option (Option (Nat × PV)) := if keq g ks q q = some true then mfind g ks q es 0 else none
def mput (es : List (PV × PV)) (q v : PV) : Option (Nat × PV) → List (PV × PV)
  | some r => es.set r.1 (q, v)
  | none => es ++ [(q, v)]
def mstamp (es : List (PV × PV)) : Option (Nat × PV) → Nat
  | some r => r.1
  | none => es.length
def mval (z : PV) : Option (Nat × PV) → PV
  | some r => r.2
  | none => z
def vopLook (ok : Bool) (z : PV) (r : Option (Nat × PV)) : PV := if ok then .tup [mval z r, .bool r.isSome] else mval z r

def vopEqs (neg : Bool) (ks : List PV) : PV → PV → Option (PV × Delta)
  | .agg cs, .agg ds => (eqCells ks cs ds).bind fun r => some (.bool (if neg then !r else r), [])
  | _, _ => none

/-- What an operation gives, and what it does to memory; b: the number that a new object takes. -/
def vopF (x : XI) (e : Nat → Option PV) (m : Mem) (b : Nat) : Option (PV × Delta) :=
  match x with
  | .mv x => (x.ev e).bind fun p => some (p, [])
  | .nilrow T k => some (.osl b 0, [(b, some (.row k [] T false))])
  | .pick c x y => (c.ev e).bind fun
    | .bool t => ((if t then x else y).ev e).bind fun p => some (p, [])
    | _ => none
  | .alloc T z => some (.ptr b z.length 0 0, [(b, some (.box z T))])
  | .box T k x => (x.ev e).bind fun p => if p.cells.length = k ∧ p.nt = true then some (.ptr b k 0 0, [(b, some (.box p.cells T))]) else none
  | .build z ps => (fillP e z ps).bind fun cs => some (.agg cs, [])
  | .mkrow T k len z ps => if z.length = k then (fillR e m k (List.replicate len z) ps).bind fun xs => some (.osl b len, [(b, some (.row k xs T false))]) else none
  | .load1 x => (x.ev e).bind fun p => (rd m 1 p).bind fun cs => (head1 cs).bind fun c => some (c, [])
  | .loadn n x => (x.ev e).bind fun p => (rd m n p).bind fun cs => some (.agg cs, [])
  | .store n x y => (x.ev e).bind fun p => (y.ev e).bind fun q =>
    match p with
    | .ptr id k i j =>
      match m id with
      | some (.box cs T) => if q.cells.length = n ∧ i = 0 ∧ j + n ≤ cs.length ∧ q.nt = true then some (.tup [], [(id, some (.box (splice cs j q.cells) T))]) else none
      | some (.row k' xs T false) => (purA true m q).bind fun q => (xs[i]?).bind fun r =>
        if q.cells.length = n ∧ k' = k ∧ j + n ≤ k then some (.tup [], [(id, some (.row k' (xs.set i (splice r j q.cells)) T false))]) else none
      | _ => none
    | _ => none
  | .nilck x => (x.ev e).bind fun
    | .ptr id k i j => some (.ptr id k i j, [])
    | .cptr cs => some (.cptr cs, [])
    | .fn f cs => some (.fn f cs, [])
    | _ => none
  | .fieldA off x => (x.ev e).bind fun
    | .ptr id k i j => some (.ptr id k i (j + off), [])
    | .cptr cs => some (.cptr (cs.drop off), [])
    | _ => none
  | .indexS k x i => (x.ev e).bind fun p => (i.ev e).bind fun q => (idx q).bind fun i =>
    match p with
    | .sl xs => (xs[i]?).bind fun c => if c.length = k then some (.cptr c, []) else none
    | .osl id n => match m id with
      | some (.row k' xs _ _) => if k' = k ∧ i < n ∧ n ≤ xs.length then some (.ptr id k i 0, []) else none
      | _ => none
    | _ => none
  | .indexA k len x i => (x.ev e).bind fun p => (i.ev e).bind fun q => (idx q).bind fun i => if i < len then
    match p with
    | .ptr id K i0 j => some (.ptr id K i0 (j + i * k), [])
    | .cptr cs => some (.cptr (cs.drop (i * k)), [])
    | _ => none
    else none
  | .field1 off x => (x.ev e).bind fun
    | .agg cs => (cs[off]?).bind fun c => some (c, [])
    | _ => none
  | .fieldn off n x => (x.ev e).bind fun
    | .agg cs => if off + n ≤ cs.length then some (.agg ((cs.drop off).take n), []) else none
    | _ => none
  | .indexT x i => (x.ev e).bind fun p => (i.ev e).bind fun q => (idx q).bind fun i =>
    match p with
    | .str s => (s[i]?).bind fun c => some (.int .u8 c.toNat, [])
    | _ => none
  | .bin op x y => (x.ev e).bind fun p => (y.ev e).bind fun q => (binF op p q).bind fun r => some (r, [])
  | .eqb neg x y => (x.ev e).bind fun p => (y.ev e).bind fun q =>
    match p, q with
    | .bool a, .bool b => some (.bool (if neg then decide (a ≠ b) else decide (a = b)), [])
    | _, _ => none
  | .eqp neg x y => (x.ev e).bind fun p => (y.ev e).bind fun q =>
    match p, q with
    | .nilp, .nilp => some (.bool (!neg), [])
    | .nilp, .ptr .. | .ptr .., .nilp | .nilp, .cptr _ | .cptr _, .nilp => some (.bool neg, [])
    | _, _ => none
  | .eqs neg ks x y => (x.ev e).bind fun p => (y.ev e).bind fun q => vopEqs neg ks p q
  | .not x => (x.ev e).bind fun
    | .bool b => some (.bool (!b), [])
    | _ => none
  | .neg x => (x.ev e).bind fun
    | .int k n => some (.int k (k.wrap (0 - n)), [])
    | _ => none
  | .conv k x => (x.ev e).bind fun
    | .int _ n => some (.int k (k.wrap n), [])
    | _ => none
  | .sliceT x lo hi => (x.ev e).bind fun p =>
    match p with
    | .str s => (idxo s.length e hi).bind fun h => (idxo 0 e lo).bind fun l => if l ≤ h ∧ h ≤ s.length then some (.str ((s.take h).drop l), []) else none
    | _ => none
  | .sliceS k x lo hi => (x.ev e).bind fun p =>
    match p with
    | .osl id n => (idxo n e hi).bind fun h => (idxo 0 e lo).bind fun l =>
      if l = 0 ∧ h ≤ n then some (.osl id h, []) else
      (pur true m p).bind fun
      | .sl xs => if l ≤ h ∧ h ≤ xs.length ∧ ∀ x ∈ xs, x.length = k then some (.sl ((xs.take h).drop l), []) else none
      | _ => none
    | .sl xs => (idxo xs.length e hi).bind fun h => (idxo 0 e lo).bind fun l =>
      if l = 0 ∧ h ≤ xs.length then some (.sl (xs.take h), []) else
      if l ≤ h ∧ h ≤ xs.length ∧ ∀ x ∈ xs, x.length = k then some (.sl ((xs.take h).drop l), []) else none
    | _ => none
  | .lenT x => (x.ev e).bind fun
    | .str s => some (.int .i64 s.length, [])
    | _ => none
  | .lenS x => (x.ev e).bind fun
    | .sl xs => some (.int .i64 xs.length, [])
    | .osl _ n => some (.int .i64 n, [])
    | .nsl => some (.int .i64 0, [])
    | _ => none
  | .max2 x y => (x.ev e).bind fun p => (y.ev e).bind fun q =>
    match p, q with
    | .int k a, .int _ b => some (.int k (max a b), [])
    | _, _ => none
  | .min2 x y => (x.ev e).bind fun p => (y.ev e).bind fun q =>
    match p, q with
    | .int k a, .int _ b => some (.int k (min a b), [])
    | _, _ => none
  | .append T k bytes s x => (s.ev e).bind fun p => (x.ev e).bind fun q => (elems m q).bind fun ys =>
    match p with
    | .osl id n => match m id with
      | some (.row k' xs T' false) => if k' = k ∧ T' = T ∧ n = xs.length ∧ (∀ y ∈ ys, y.length = k) ∧ (n + ys.length) * bytes ≤ 140737488355328 then
          some (.osl b (n + ys.length), [(id, none), (b, some (.row k (xs ++ ys) T false))]) else none
      | _ => none
    | .nsl => if (∀ y ∈ ys, y.length = k) ∧ ys.length * bytes ≤ 140737488355328 then some (.osl b ys.length, [(b, some (.row k ys T false))]) else none
    | _ => none
  | .mkslice T k bytes z l c => (l.ev e).bind fun p => (c.ev e).bind fun q => (idx p).bind fun l => (idx q).bind fun c =>
    if z.length = k ∧ l ≤ c ∧ c * bytes ≤ 281474976710656 ∧ c ≤ maxLen then some (.osl b l, [(b, some (.row k (List.replicate l z) T false))]) else none
  | .ext i x => (x.ev e).bind fun
    | .tup vs => (vs[i]?).bind fun p => some (p, [])
    | _ => none
  | .mkfn f cs => (cs.mapM fun (x : XA) => x.ev e).bind fun ps => some (.fn f ps, [])
  | .mkmap => some (.map b, [(b, some (.map []))])
  | .lookup g ks z ok x k => (x.ev e).bind fun p => (k.ev e).bind fun q => (mes m p).bind fun es => (mget g ks q es).bind fun r => some (vopLook ok z r, [])
  | .mapUpd g ks x k v => (x.ev e).bind fun p => (k.ev e).bind fun q => (v.ev e).bind fun v =>
    match p with
    | .map id => match m id with
      | some (.map es) => (mget g ks q es).bind fun r => if v.nt = true then some (.tup [], [(id, some (.map (mput es q v r)))]) else none
      | _ => none
    | _ => none
  | .mapEnt g ks z x k => (x.ev e).bind fun p => (k.ev e).bind fun q =>
    match p with
    | .map id => match m id with
      | some (.map es) => (mget g ks q es).bind fun r => if (mval z r).nt = true then some (.tup [mval z r, .int .i64 (mstamp es r)], [(id, some (.map (mput es q (mval z r) r)))]) else none
      | _ => none
    | _ => none
  | .entSto x s v => (x.ev e).bind fun p => (s.ev e).bind fun s => (v.ev e).bind fun v => (idx s).bind fun i =>
    match p with
    | .map id => match m id with
      | some (.map es) => (es[i]?).bind fun r => if v.nt = true then some (.tup [], [(id, some (.map (es.set i (r.1, v))))]) else none
      | _ => none
    | _ => none
  | .lenM x => (x.ev e).bind fun p => (mes m p).bind fun es => some (.int .i64 es.length, [])
  | .eqm neg x y => (x.ev e).bind fun p => (y.ev e).bind fun q =>
    match p, q with
    | .nilm, .nilm => some (.bool (!neg), [])
    | .nilm, .map _ | .map _, .nilm => some (.bool neg, [])
    | _, _ => none
  | .range x => (x.ev e).bind fun
    | .nilm => some (.ptr b 0 0 0, [(b, some (.iter none 0 [] 0))])
    | .map id => match m id with
      | some (.map es) => some (.ptr b 0 0 0, [(b, some (.iter (some id) es.length [] es.length))])
      | _ => none
    | _ => none
  | .entry x => (x.ev e).bind fun
    | .ptr it 0 0 0 => match m it with
      | some (.iter (some id) _ seen last) => match m id with
        | some (.map es) => (seen.getLast?).bind fun i => if es.length = last then (es[i]?).bind fun r => some (.tup [r.1, r.2], []) else none
        | _ => none
      | _ => none
    | _ => none
  | .indexV k len one x i => (x.ev e).bind fun p => (i.ev e).bind fun q => (idx q).bind fun i =>
    match p with
    | .agg cs => if i < len ∧ i * k + k ≤ cs.length then (if one then (head1 ((cs.drop (i * k)).take k)).bind fun c => some (c, []) else some (.agg ((cs.drop (i * k)).take k), [])) else none
    | _ => none
  | .slice0 T k x => (x.ev e).bind fun
    | .sl _ | .osl .. | .nsl => some (.osl b 0, [(b, some (.row k [] T false))])
    | _ => none
  | .slice3 k x lo hi mx => (x.ev e).bind fun p => (mx.ev e).bind fun q => (idx q).bind fun mx => (pur true m p).bind fun
    | .sl xs => (idxo xs.length e hi).bind fun h => (idxo 0 e lo).bind fun l => if l ≤ h ∧ h ≤ mx ∧ mx ≤ xs.length ∧ ∀ x ∈ xs, x.length = k then some (.sl ((xs.take h).drop l), []) else none
    | _ => none
  | .call .. | .callv .. | .next _ | .never | .appendL .. => none

end Go.Vx
/- The engine, part 3: the model's small steps. -/
set_option linter.unusedVariables false
set_option linter.unusedSimpArgs false
namespace Go.Vx
open Go Go.RowKit

section base
variable {P : Program} {w : World}

theorem add_mk (b o n : Nat) : (⟨b, o, none⟩ : Addr).add n = ⟨b, o + n, none⟩ := by unfold Addr.add; split <;> simp_all
theorem add_add (a : Addr) (i j : Nat) : (a.add i).add j = a.add (i + j) := by
  unfold Addr.add
  by_cases hi : i = 0 <;> by_cases hj : j = 0 <;> simp [hi, hj, Nat.add_assoc]
theorem add_spot (a : Addr) (h : a.spot = none) (n : Nat) : (a.add n).spot = none := by unfold Addr.add; split <;> simp [h]

theorem cell_of {b : Nat} {cur : Array Value} {T : TypeId} {fz : Nat × Nat} (h : w.heap[b]? = some (.cells cur T fz)) (o : Nat) : w.cell? ⟨b, o, none⟩ = cur[o]? := by
  simp [World.cell?, h]
theorem frozen_of {b : Nat} {cur : Array Value} {T : TypeId} (h : w.heap[b]? = some (.cells cur T (0, 0))) (o : Nat) : w.frozen? ⟨b, o, none⟩ = false := by
  simp [World.frozen?, h]

theorem run_und {t : TypeId} {d : TypeDesc} (h : P.underlying t = some d) : (underlying t).run P w = .ok d w := run_underlying h w

theorem run_isAgg {t : TypeId} {b : Bool} (h : tyAgg P t = some b) : (isAgg t).run P w = .ok b w := by
  unfold tyAgg at h
  unfold isAgg
  cases hu : P.underlying t with
  | none => simp [hu] at h
  | some d => rw [hu] at h; simp only [Sem.run_bind, run_und hu, Result.andThen_ok]; cases d <;> simp_all

theorem run_info {t : TypeId} {i : TypeInfo} (h : P.info? t = some i) : (typeInfo t).run P w = .ok i w := by
  simp [typeInfo, h]

theorem run_sizeOf {t : TypeId} {n : Nat} (h : tySize P t = some n) : (sizeOf t).run P w = .ok n w := by
  unfold tySize at h
  cases hi : P.info? t with
  | none => simp [hi] at h
  | some i => simp [hi] at h; simp [sizeOf, run_info hi, h]

theorem run_zero {t : TypeId} {z : List PV} (h : tyZero P t = some z) : ∃ v, (zeroValue t).run P w = .ok v w ∧ v.cells.toList.mapM ofVal1 = some z := by
  unfold tyZero at h
  cases hi : P.info? t with
  | none => simp [hi] at h
  | some i =>
    cases hz : i.zero with
    | none => simp [hi, hz] at h
    | some v => simp [hi, hz] at h; exact ⟨v, by simp [zeroValue, run_info hi, hz], by simpa using h⟩

theorem run_loadFrom (a : Addr) : ∀ (vs : List Value) (i : Nat) (acc : Array Value), (∀ (j : Nat) v, vs[j]? = some v → w.cell? (a.add (i + j)) = some v) →
    (loadCellsFrom a i vs.length acc).run P w = .ok (acc ++ vs.toArray) w
  | [], i, acc, _ => by simp [loadCellsFrom]
  | v :: vs, i, acc, h => by
    have h0 : w.cell? (a.add i) = some v := by simpa using h 0 v rfl
    have ih := run_loadFrom a vs (i + 1) (acc.push v) (fun j u hj => by
      have := h (j + 1) u (by simpa using hj)
      rwa [show i + (j + 1) = i + 1 + j by omega] at this)
    simp only [List.length_cons, loadCellsFrom, Sem.run_bind, run_load, h0, Result.andThen_ok, ih]
    congr 1
    simp

theorem run_loadCells (a : Addr) (vs : List Value) (n : Nat) (hn : vs.length = n) (h : ∀ (j : Nat) v, vs[j]? = some v → w.cell? (a.add j) = some v) :
    (loadCells a n).run P w = .ok vs.toArray w := by
  subst hn
  have := run_loadFrom (P := P) a vs 0 #[] (by simpa using h)
  simpa [loadCells] using this

theorem run_loadVarAgg {t : TypeId} {n : Nat} (a : Addr) (vs : List Value) (hg : tyAgg P t = some true) (hn : tySize P t = some n) (hl : vs.length = n)
    (h : ∀ (j : Nat) v, vs[j]? = some v → w.cell? (a.add j) = some v) : (loadVar t a).run P w = .ok (.agg vs.toArray) w := by
  simp [loadVar, run_isAgg hg, run_sizeOf hn, run_loadCells a vs n hl h]

theorem run_loadVarOne {t : TypeId} (a : Addr) (v : Value) (hg : tyAgg P t = some false) (h : w.cell? a = some v) : (loadVar t a).run P w = .ok v w := by
  simp [loadVar, run_isAgg hg, h]

/-- What stores into one block make of the world. -/
theorem ask_drawn {α : Type} : ∀ (x : Ask α) (w : World), w.drawn ≤ (w.ask x).2.drawn := by
  intro x
  induction x with
  | done a => intro w; exact Nat.le_refl _
  | ask what range k ih =>
    intro w
    simp only [World.ask]
    split
    · exact ih _ w
    · have h1 := ih ((Question.extern what range).cut (w.tape w.drawn (Question.extern what range))) { w with drawn := w.drawn + 1 }
      exact Nat.le_trans (Nat.le_succ _) h1

theorem sys_drawn (w : World) (c : Sys) : w.drawn ≤ (w.sys c).2.drawn := by
  have h := ask_drawn (Kernel.perform c w.os) w
  unfold World.sys
  split
  · exact Nat.le_refl _
  · rename_i heq; rw [heq] at h; exact h

theorem far_drawn {P : Program} {w w' : World} {A : Addr} {v : Value} {b : Bool} {t : List Addr} (h : w.farStore P A v b = .ok (w', t)) : w'.drawn = w.drawn := by
  unfold World.farStore at h
  split at h
  · split at h
    · rename_i hv
      injection h with h; subst h
      simp only [World.viewStore, bind, Except.bind, pure, Except.pure] at hv
      repeat' split at hv
      all_goals first | cases hv; done | (injection hv with hv; injection hv with h1 h2; rw [← h1]) | skip
    · cases h
  · cases h

/-- Whatever runs, draws only rise. -/
theorem run_drawn {α : Type} {P : Program} {s : Sem α} : ∀ {w w' : World} {x : α}, s.run P w = .ok x w' → w.drawn ≤ w'.drawn := by
  induction s with
  | pure a => intro w w' x h; simp only [Sem.run] at h; injection h with _ h; rw [h]; exact Nat.le_refl _
  | load m A k ih =>
    intro w w' x h
    simp only [Sem.run] at h
    split at h
    · exact ih _ h
    · split at h
      · exact ih _ h
      · cases h
  | store m A v k ih =>
    intro w w' x h
    have ag : ∀ vs, v = .agg vs → False := fun vs hv => by subst hv; simp only [Sem.run] at h; cases h
    have tg : ∀ vs, v = .tuple vs → False := fun vs hv => by subst hv; simp only [Sem.run] at h; cases h
    rw [Sem.run.eq_5 P w m A v k ag tg] at h
    split at h
    · split at h
      · cases h
      · show (w.setCell A v).drawn ≤ _
        exact ih h
    · split at h
      · rename_i hf
        rw [← far_drawn hf]
        exact ih h
      · cases h
  | new o k ih => intro w w' x h; simp only [Sem.run] at h; have h1 := ih _ h; exact h1
  | shape r k ih => intro w w' x h; simp only [Sem.run] at h; exact ih _ h
  | freeze A n k ih =>
    intro w w' x h; simp only [Sem.run] at h
    have : w.drawn = (w.freeze A n).drawn := by unfold World.freeze; split <;> rfl
    rw [this]; exact ih h
  | frozen A k ih => intro w w' x h; simp only [Sem.run] at h; exact ih _ h
  | getObj r k ih =>
    intro w w' x h
    simp only [Sem.run] at h
    split at h
    · cases h
    · exact ih _ h
    · cases h
  | setObj r o k ih =>
    intro w w' x h
    simp only [Sem.run] at h
    split at h
    · cases h
    · have h1 := ih h; exact h1
    · cases h
  | choose q k ih =>
    intro w w' x h
    simp only [Sem.run] at h
    split at h
    · exact ih _ h
    · have h1 := ih _ h; exact Nat.le_trans (Nat.le_succ _) h1
  | sys c k ih => intro w w' x h; simp only [Sem.run] at h; exact Nat.le_trans (sys_drawn w c) (ih _ h)
  | program k ih => intro w w' x h; simp only [Sem.run] at h; exact ih _ h
  | mark m k ih => intro w w' x h; simp only [Sem.run] at h; exact ih h
  | halt hh => intro w w' x h; simp only [Sem.run] at h; cases h

structure Stored (w : World) (b o : Nat) (vs : List Value) (cur : Array Value) (T : TypeId) (w' : World) (cur' : Array Value) : Prop where
  os : w'.os = w.os
  tape : w'.tape = w.tape
  output : w'.output = w.output
  size : w'.heap.size = w.heap.size
  block : w'.heap[b]? = some (.cells cur' T (0, 0))
  csize : cur'.size = cur.size
  cell : ∀ q : Nat, cur'[q]? = if o ≤ q ∧ q < o + vs.length ∧ q < cur.size then vs[q - o]? else cur[q]?
  other : ∀ k, k ≠ b → w'.heap[k]? = w.heap[k]?
  drawn : w.drawn ≤ w'.drawn

theorem run_storeFrom (b : Nat) (T : TypeId) : ∀ (vs : List Value) (w : World) (cur : Array Value) (o i : Nat), w.heap[b]? = some (.cells cur T (0, 0)) → (∀ v ∈ vs, v.oneCell' = true) →
    o + i + vs.length ≤ cur.size → ∃ w' cur', (storeCells ⟨b, o, none⟩ vs i).run P w = .ok () w' ∧ Stored w b (o + i) vs cur T w' cur'
  | [], w, cur, o, i, h, _, _ => ⟨w, cur, by simp [storeCells], rfl, rfl, rfl, rfl, h, rfl, fun q => by rw [if_neg (by simp; omega)], fun _ _ => rfl, Nat.le_refl _⟩
  | v :: vs, w, cur, o, i, h, h1, hl => by
    have hlt : o + i < cur.size := by simp at hl; omega
    have hc : w.cell? ⟨b, o + i, none⟩ = some cur[o + i] := by rw [cell_of h]; simp [hlt]
    have hf := frozen_of (o := o + i) h
    have hblk : (w.setCell ⟨b, o + i, none⟩ v).heap[b]? = some (.cells (cur.setIfInBounds (o + i) v) T (0, 0)) := by
      simp [World.setCell, Array.getElem?_modify, h]
    obtain ⟨w', cur', hr, hs⟩ := run_storeFrom b T vs (w.setCell ⟨b, o + i, none⟩ v) (cur.setIfInBounds (o + i) v) o (i + 1) hblk (fun u hu => h1 u (by simp [hu])) (by simp at hl ⊢; omega)
    refine ⟨w', cur', ?_, hs.os, hs.tape, hs.output, by simp [hs.size], hs.block, by simp [hs.csize], fun q => ?_, fun k hk => ?_, hs.drawn⟩
    · simp only [storeCells, Sem.run_bind, add_mk]
      rw [run_store P w _ v .plain (h1 v (by simp))]
      simp only [hc, hf, Bool.false_eq_true, if_false, Result.andThen_ok, hr]
    · rw [hs.cell q]
      by_cases hq : q = o + i
      · subst hq
        rw [if_neg (by omega), if_pos (by simp; omega)]
        simp [hlt]
      · by_cases hq2 : o + (i + 1) ≤ q ∧ q < o + (i + 1) + vs.length ∧ q < cur.size
        · rw [if_pos (by simpa using hq2), if_pos (by simp; omega)]
          rw [show q - (o + i) = (q - (o + (i + 1))) + 1 by omega]
          simp
        · rw [if_neg (by simpa using hq2), if_neg (by simp; omega), Array.getElem?_setIfInBounds_ne (by omega)]
    · rw [hs.other k hk]
      exact Below.heap_setCell _ _ _ _ hk

theorem run_storeVar {t : TypeId} {n : Nat} (b o : Nat) (T : TypeId) (w : World) (cur : Array Value) (v : Value) (hn : tySize P t = some n) (hv : v.cells.size = n)
    (h : w.heap[b]? = some (.cells cur T (0, 0))) (h1 : ∀ u ∈ v.cells.toList, u.oneCell' = true) (hl : o + n ≤ cur.size) :
    ∃ w' cur', (storeVar t ⟨b, o, none⟩ v).run P w = .ok () w' ∧ Stored w b o v.cells.toList cur T w' cur' := by
  obtain ⟨w', cur', hr, hs⟩ := run_storeFrom (P := P) b T v.cells.toList w cur o 0 h h1 (by simp; omega)
  refine ⟨w', cur', ?_, by simpa using hs⟩
  simp [storeVar, run_sizeOf hn, hv, hr]

end base

section ev
variable {F : Fr} {β : Ids} {ok : Nat → Prop} {e : Nat → Option PV} {m : Mem} {a : Act} {w : World}

theorem Rep.one_of {p : PV} {v : Value} (h : Rep w ok β p v) (h1 : p.one = true) : v.oneCell' = true := by
  cases h <;> simp_all [PV.one, Value.oneCell']

theorem ofVal1_rep {v : Value} {p : PV} (h : ofVal1 v = some p) : Rep w ok β p v ∧ p.one = true := by
  unfold ofVal1 at h
  split at h <;> simp at h <;> subst h
  · exact ⟨.bool _, rfl⟩
  · exact ⟨.int _ _, rfl⟩
  · exact ⟨by simpa using Rep.str (w := w) (ok := ok) (β := β) (ByteArray.data _).toList, rfl⟩
  · exact ⟨.nilp, rfl⟩
  · exact ⟨.nsl, rfl⟩
  · exact ⟨.nilm, rfl⟩
  · exact ⟨.nilf, rfl⟩

theorem mapM_some {α γ : Type} {f : α → Option γ} : ∀ {l : List α} {r : List γ}, l.mapM f = some r → r.length = l.length ∧ ∀ (j : Nat) x y, l[j]? = some x → r[j]? = some y → f x = some y
  | [], r, h => by simp at h; subst h; simp
  | x :: l, r, h => by
    simp only [List.mapM_cons, Option.bind_eq_bind, Option.bind_eq_some_iff] at h
    obtain ⟨y, hy, ys, hys, hr⟩ := h
    simp at hr
    subst hr
    obtain ⟨hl, hj⟩ := mapM_some hys
    refine ⟨by simp [hl], fun j u v hu hv => ?_⟩
    cases j with
    | zero => simp at hu hv; subst hu; subst hv; exact hy
    | succ j => exact hj j u v (by simpa using hu) (by simpa using hv)

theorem ofVals_rep {vs : List Value} {ps : List PV} (h : vs.mapM ofVal1 = some ps) : vs.length = ps.length ∧ (∀ c ∈ ps, c.one = true) ∧
    ∀ (j : Nat) c v, ps[j]? = some c → vs[j]? = some v → Rep w ok β c v := by
  obtain ⟨hl, hj⟩ := mapM_some h
  refine ⟨hl.symm, fun c hc => ?_, fun j c v hc hv => (ofVal1_rep (hj j v c hv hc)).1⟩
  obtain ⟨j, hjl, rfl⟩ := List.getElem_of_mem hc
  have hv : vs[j]? = some (vs[j]'(by omega)) := by simp
  exact (ofVal1_rep (w := w) (ok := ok) (β := β) (hj j _ _ hv (by simp [hjl]))).2

theorem ofVal_rep {v : Value} {p : PV} (h : ofVal v = some p) : Rep w ok β p v := by
  unfold ofVal at h
  split at h
  · rename_i cs
    simp only [Option.map_eq_some_iff] at h
    obtain ⟨ps, hps, rfl⟩ := h
    obtain ⟨h1, h2, h3⟩ := ofVals_rep (w := w) (ok := ok) (β := β) hps
    have := Rep.agg (w := w) (ok := ok) (β := β) ps cs.toList h1 h2 h3
    simpa using this
  · exact (ofVal1_rep h).1

theorem ev_rep (hs : Sat0 F β ok e m a w) {X : Operand} {x : XA} {p : PV} (hx : cA X = some x) (hp : x.ev e = some p) : Rep w ok β p (a.eval X) := by
  cases X with
  | tmp t =>
    simp [cA] at hx; subst hx
    obtain ⟨v, hv, hr⟩ := hs.env t p hp
    simpa [Act.eval, hv] using hr
  | const v =>
    simp [cA] at hx
    obtain ⟨q, hq, rfl⟩ := hx
    simp [XA.ev] at hp; subst hp
    exact ofVal_rep hq
  | func f =>
    simp [cA] at hx; subst hx
    simp [XA.ev] at hp; subst hp
    exact Rep.fn f [] [] rfl (by simp)
  | global g => simp [cA] at hx

theorem evs_rep (hs : Sat0 F β ok e m a w) {X : List Operand} {xs : List XA} {ps : List PV} (hx : X.mapM cA = some xs) (hp : xs.mapM (fun x => x.ev e) = some ps) :
    (X.map a.eval).length = ps.length ∧ ∀ (j : Nat) c v, ps[j]? = some c → (X.map a.eval)[j]? = some v → Rep w ok β c v := by
  obtain ⟨h1, h2⟩ := mapM_some hx
  obtain ⟨h3, h4⟩ := mapM_some hp
  refine ⟨by simp [h3, h1], fun j c v hc hv => ?_⟩
  simp only [List.getElem?_map, Option.map_eq_some_iff] at hv
  obtain ⟨Y, hY, rfl⟩ := hv
  have hjx : j < xs.length := by rw [h1]; exact (List.getElem?_eq_some_iff.1 hY).1
  exact ev_rep hs (h2 j Y xs[j] hY (by simp [hjx])) (h4 j xs[j] c (by simp [hjx]) hc)

end ev
end Go.Vx
/- The engine, part 4: what one operation does to the relation. -/
set_option linter.unusedVariables false
set_option linter.unusedSimpArgs false
namespace Go.Vx
open Go Go.RowKit

section
variable {P : Program} {F : Fr} {β β' : Ids} {ok : Nat → Prop} {e : Nat → Option PV} {m m' : Mem} {a : Act} {w w' : World}

theorem MSat.not_ok (hm : MSat w ok β m) {k : Nat} (h : Owns β m k) : ¬ ok k := by
  obtain ⟨id, o, cap, ho, hf, hb⟩ := h
  obtain ⟨l, hl, hr⟩ := hm.objs id o ho
  rw [hb] at hl
  injection hl with hl
  subst hl
  exact hr.not_ok hf

theorem MSat.lt (hm : MSat w ok β m) {id : Nat} {o : Obj} {b cap : Nat} (h : m id = some o) (hb : β id = some (.at b cap)) : b < w.heap.size := by
  obtain ⟨l, hl, hr⟩ := hm.objs id o h
  rw [hb] at hl
  injection hl with hl
  subst hl
  exact hr.lt

theorem Marks.step {ds : List Deferred} {ok' : Nat → Prop} (hk : Marks F β ok m ds w) (ch : Nat → Prop) (hother : ∀ k, k < w.heap.size → ¬ ch k → w'.heap[k]? = w.heap[k]?)
    (hch : ∀ k, k < w.heap.size → ch k → Owns β m k) (ho : ∀ b, Owns β' m' b → Owns β m b ∨ w.heap.size ≤ b) (hok : ∀ b, ok' b → ok b ∨ Owns β m b ∨ w.heap.size ≤ b) : Marks F β' ok' m' ds w' := by
  refine ⟨fun d hd => ?_, hk.apart⟩
  obtain ⟨D, h1, h2, h3, h4, h5⟩ := hk.each d hd
  have hD : D < w.heap.size := (Array.getElem?_eq_some_iff.1 h2).1
  refine ⟨D, h1, by rw [hother D hD fun hc => h5 (hch D hD hc)]; exact h2, h3, fun h => ?_, fun h => ?_⟩
  · rcases hok D h with h | h | h
    · exact h4 h
    · exact h5 h
    · omega
  · rcases ho D h with h | h
    · exact h5 h
    · omega

theorem Sat0.step (hs : Sat0 F β ok e m a w) (ch : Nat → Prop) (hother : ∀ k, k < w.heap.size → ¬ ch k → w'.heap[k]? = w.heap[k]?)
    (hch : ∀ k, k < w.heap.size → ch k → Owns β m k) (h1 : w'.os = w.os) (h2 : w'.tape = w.tape) (h3 : w'.output = w.output) (h4 : w.heap.size ≤ w'.heap.size) (h5 : w.drawn ≤ w'.drawn)
    (hβ : ∀ id x, β id = some x → β' id = some x) (hm : MSat w' ok β' m') (ho : ∀ b, Owns β' m' b → Owns β m b ∨ w.heap.size ≤ b) : Sat0 F β' ok e m' a w' := {
  size := hs.size
  defers := hs.defers.step ch hother hch ho fun b h => .inl h
  env := fun t p ht => by
    obtain ⟨v, hv, hr⟩ := hs.env t p ht
    exact ⟨v, hv, hr.mono (fun b hb => hother b (hs.okb b hb) fun hc => hs.mem.not_ok (hch b (hs.okb b hb) hc) hb) (fun _ h => h) _ hβ⟩
  mem := hm
  okb := fun b hb => Nat.lt_of_lt_of_le (hs.okb b hb) h4
  keeps := ⟨h1.trans hs.keeps.os, h2.trans hs.keeps.tape, h3.trans hs.keeps.output, Nat.le_trans hs.keeps.size h4, fun b hb hn => by
    rw [hother b (Nat.lt_of_lt_of_le hb hs.keeps.size) fun hc => ?_]
    · exact hs.keeps.block b hb hn
    · rcases hs.own b (hch b (Nat.lt_of_lt_of_le hb hs.keeps.size) hc) with h | h
      · exact hn h
      · omega, Nat.le_trans hs.keeps.drawn h5⟩
  own := fun b hb => (ho b hb).elim (hs.own b) (fun h => .inr (Nat.le_trans hs.keeps.size h))
  ok0 := hs.ok0
  oks := hs.oks }

theorem Sat0.okw (hs : Sat0 F β ok e m a w) {ch : Nat → Prop} (hother : ∀ k, k < w.heap.size → ¬ ch k → w'.heap[k]? = w.heap[k]?)
    (hch : ∀ k, k < w.heap.size → ch k → Owns β m k) : ∀ b, ok b → w'.heap[b]? = w.heap[b]? :=
  fun b hb => hother b (hs.okb b hb) fun hc => hs.mem.not_ok (hch b (hs.okb b hb) hc) hb

theorem beta_upd {b : Nat} {l : Loc} (hb : β b = none) : ∀ id x, β id = some x → upd β b (some l) id = some x := by
  intro id x h
  have : id ≠ b := fun e => by subst e; rw [hb] at h; cases h
  simp [upd, this, h]

/-- A new object in a new block. -/
theorem Sat0.alloc (hs : Sat0 F β ok e m a w) {b : Nat} (hb : β b = none) (O : Go.Obj) (o : Obj) (cap : Nat)
    (ho : ORep (w.alloc O) ok (upd β b (some (.at w.heap.size cap))) (.at w.heap.size cap) o) :
    Sat0 F (upd β b (some (.at w.heap.size cap))) ok e (upd m b (some o)) a (w.alloc O) := by
  have hoth : ∀ k, k < w.heap.size → ¬ False → (w.alloc O).heap[k]? = w.heap[k]? := fun k hk _ => Below.heap_alloc w O k hk
  have hbm := beta_upd (l := .at w.heap.size cap) hb
  refine hs.step (fun _ => False) hoth (fun _ _ h => h.elim) rfl rfl rfl (by simp) (Nat.le_refl _) hbm ⟨?_, ?_⟩ ?_
  · intro id o' hid
    by_cases he : id = b
    · subst he
      simp [upd] at hid; subst hid
      exact ⟨_, by simp [upd], ho⟩
    · simp [upd, he] at hid
      obtain ⟨l, hl, hr⟩ := hs.mem.objs id o' hid
      refine ⟨l, hbm _ _ hl, hr.mono (hs.okw hoth fun _ _ h => h.elim) (fun _ h => h) hbm fun bb cap' hl' => ?_⟩
      subst hl'
      exact ⟨hoth _ hr.lt (fun h => h), fun h => h⟩
  · intro id id' o1 o2 bb c1 c2 h1 h2 h3 h4 f1 f2
    by_cases e1 : id = b <;> by_cases e2 : id' = b
    · rw [e1, e2]
    · exfalso
      subst e1
      simp [upd] at h3
      simp [upd, e2] at h2 h4
      have := hs.mem.lt h2 h4
      omega
    · exfalso
      subst e2
      simp [upd] at h4
      simp [upd, e1] at h1 h3
      have := hs.mem.lt h1 h3
      omega
    · simp [upd, e1] at h1 h3
      simp [upd, e2] at h2 h4
      exact hs.mem.disj id id' o1 o2 bb c1 c2 h1 h2 h3 h4 f1 f2
  · rintro bb ⟨id, o', c, hid, hf, hbe⟩
    by_cases he : id = b
    · subst he
      simp [upd] at hbe
      exact .inr (by omega)
    · simp [upd, he] at hid hbe
      exact .inl ⟨id, o', c, hid, hf, hbe⟩

/-- An object whose block is written. -/
theorem Sat0.change (hs : Sat0 F β ok e m a w) {id : Nat} {o o' : Obj} {g cap : Nat} (hid : m id = some o) (hf : o.fz = false) (hf' : o'.fz = false) (hb : β id = some (.at g cap))
    (h1 : w'.os = w.os) (h2 : w'.tape = w.tape) (h3 : w'.output = w.output) (h4 : w'.heap.size = w.heap.size) (h5 : w.drawn ≤ w'.drawn) (hoth : ∀ k, k ≠ g → w'.heap[k]? = w.heap[k]?)
    (ho : (∀ p v, Rep w ok β p v → Rep w' ok β p v) → (∀ p v, Rep w ok noIds p v → Rep w' ok noIds p v) → ORep w' ok β (.at g cap) o') : Sat0 F β ok e (upd m id (some o')) a w' := by
  have hown : Owns β m g := ⟨id, o, cap, hid, hf, hb⟩
  have hoth' : ∀ k, k < w.heap.size → ¬ (k = g) → w'.heap[k]? = w.heap[k]? := fun k _ hk => hoth k hk
  have hch : ∀ k, k < w.heap.size → k = g → Owns β m k := fun k _ hk => hk ▸ hown
  have hokw := hs.okw hoth' hch
  refine hs.step (· = g) hoth' hch h1 h2 h3 (by omega) h5 (fun _ _ h => h) ⟨?_, ?_⟩ ?_
  · intro id' o1 hid'
    by_cases he : id' = id
    · subst he
      simp [upd] at hid'; subst hid'
      exact ⟨_, hb, ho (fun p v h => h.mono hokw (fun _ h => h) _ (fun _ _ h => h)) (fun p v h => h.mono hokw (fun _ h => h) _ (fun _ _ h => h))⟩
    · simp [upd, he] at hid'
      obtain ⟨l, hl, hr⟩ := hs.mem.objs id' o1 hid'
      refine ⟨l, hl, hr.mono hokw (fun _ h => h) (fun _ _ h => h) fun bb cap' hl' => ?_⟩
      subst hl'
      refine ⟨hoth bb fun hbb => ?_, fun h => h⟩
      subst hbb
      exact he (hs.mem.disj' hid' hid hl hb hf)
  · intro i1 i2 o1 o2 bb c1 c2 h1 h2 h3 h4 f1 f2
    have g1 : ∃ o1, m i1 = some o1 ∧ o1.fz = false := by
      by_cases he : i1 = id
      · exact ⟨o, he ▸ hid, hf⟩
      · simp [upd, he] at h1; exact ⟨_, h1, f1⟩
    have g2 : ∃ o2, m i2 = some o2 ∧ o2.fz = false := by
      by_cases he : i2 = id
      · exact ⟨o, he ▸ hid, hf⟩
      · simp [upd, he] at h2; exact ⟨_, h2, f2⟩
    obtain ⟨q1, g1, k1⟩ := g1
    obtain ⟨q2, g2, k2⟩ := g2
    exact hs.mem.disj i1 i2 q1 q2 bb c1 c2 g1 g2 h3 h4 k1 k2
  · rintro bb ⟨i1, o1, c, hi1, hf1, hbe⟩
    by_cases he : i1 = id
    · subst he
      rw [hb] at hbe
      injection hbe with hbe
      injection hbe with hg _
      subst hg
      exact .inl hown
    · simp [upd, he] at hi1
      exact .inl ⟨i1, o1, c, hi1, hf1, hbe⟩

/-- What an operation comes to. -/
def OpOk (P : Program) (F : Fr) (β : Ids) (ok : Nat → Prop) (e : Nat → Option PV) (m : Mem) (a : Act) (w : World) (b : Nat) (o : Oper) (p : PV) (d : Delta) : Prop :=
  ∃ v w' β', ((execOp a.eval o).run P w = .ok (.value v) w' ∨ ((execOp a.eval o).run P w = .ok .skip w' ∧ v = undef)) ∧ Rep w' ok β' p v ∧
    Sat0 F β' ok e (m.upds d) a w' ∧ ∀ id, id ≠ b → β' id = β id

theorem OpOk.value {b : Nat} {o : Oper} {p : PV} {v : Value} (hs : Sat0 F β ok e m a w) (hr : (execOp a.eval o).run P w = .ok (.value v) w) (hp : Rep w ok β p v) :
    OpOk P F β ok e m a w b o p [] := ⟨v, w, β, .inl hr, hp, hs, fun _ _ => rfl⟩

end
end Go.Vx
/- The engine, part 5: the operations that leave memory alone. -/
set_option linter.unusedVariables false
set_option linter.unusedSimpArgs false
namespace Go.Vx
open Go Go.RowKit

section
variable {P : Program} {F : Fr} {β : Ids} {ok : Nat → Prop} {e : Nat → Option PV} {m : Mem} {a : Act} {w : World} {b : Nat} {o : Oper} {p : PV} {d : Delta}

theorem exec_value {s : Sem Value} {v : Value} (h : s.run P w = .ok v w) : ((do pure (Next.value (← s))) : Sem Next).run P w = .ok (.value v) w := by
  simp [h]

theorem op_mv (hs : Sat0 F β ok e m a w) {X : Operand} {x : XA} (ho : o.op = .move X ∨ o.op = .assign X) (hx : cA X = some x) (h : vopF (.mv x) e m b = some (p, d)) :
    OpOk P F β ok e m a w b o p d := by
  simp only [vopF, Option.bind_eq_some_iff] at h
  obtain ⟨q, hq, h⟩ := h
  simp at h
  obtain ⟨rfl, rfl⟩ := h
  refine .value hs ?_ (ev_rep hs hx hq)
  rcases ho with ho | ho <;> simp [execOp, ho]

theorem op_pick (hs : Sat0 F β ok e m a w) {C X Y : Operand} {c x y : XA} (ho : o.op = .pick C X Y) (hc : cA C = some c) (hx : cA X = some x) (hy : cA Y = some y)
    (h : vopF (.pick c x y) e m b = some (p, d)) : OpOk P F β ok e m a w b o p d := by
  simp only [vopF, Option.bind_eq_some_iff] at h
  obtain ⟨q, hq, h⟩ := h
  have hrc := ev_rep hs hc hq
  cases q <;> simp only [Option.bind_eq_some_iff, reduceCtorEq] at h
  rename_i t
  obtain ⟨q, hq, h⟩ := h
  simp at h
  obtain ⟨rfl, rfl⟩ := h
  generalize hv : a.eval C = vc at hrc
  cases hrc
  cases t
  · refine .value hs (v := a.eval Y) ?_ (ev_rep hs hy (by simpa using hq))
    simp [execOp, ho, hv, asBool]
  · refine .value hs (v := a.eval X) ?_ (ev_rep hs hx (by simpa using hq))
    simp [execOp, ho, hv, asBool]

theorem op_ext (hs : Sat0 F β ok e m a w) {X : Operand} {x : XA} {i : Nat} (ho : o.op = .extract X i) (hx : cA X = some x)
    (h : vopF (.ext i x) e m b = some (p, d)) : OpOk P F β ok e m a w b o p d := by
  simp only [vopF, Option.bind_eq_some_iff] at h
  obtain ⟨q, hq, h⟩ := h
  have hr := ev_rep hs hx hq
  cases q <;> simp only [Option.bind_eq_some_iff, reduceCtorEq] at h
  rename_i vs
  obtain ⟨q, hq, h⟩ := h
  simp at h
  obtain ⟨rfl, rfl⟩ := h
  generalize hv : a.eval X = vx at hr
  cases hr with
  | tup cs us hl hj =>
    have hi : i < us.length := by rw [hl]; exact (List.getElem?_eq_some_iff.1 hq).1
    refine .value hs (v := us[i]) ?_ (hj i _ _ hq (by simp [hi]))
    simp [execOp, ho, hv, Instr.extract, hi]

theorem op_not (hs : Sat0 F β ok e m a w) {X : Operand} {x : XA} {t : TypeId} (ho : o.op = .unOp .not t X) (hx : cA X = some x)
    (h : vopF (.not x) e m b = some (p, d)) : OpOk P F β ok e m a w b o p d := by
  simp only [vopF, Option.bind_eq_some_iff] at h
  obtain ⟨q, hq, h⟩ := h
  have hr := ev_rep hs hx hq
  cases q <;> simp at h
  obtain ⟨rfl, rfl⟩ := h
  generalize hv : a.eval X = vx at hr
  cases hr
  exact .value hs (by simp [execOp, ho, hv, Op.unary]) (.bool _)

theorem op_neg (hs : Sat0 F β ok e m a w) {X : Operand} {x : XA} {t : TypeId} (ho : o.op = .unOp .neg t X) (hx : cA X = some x)
    (h : vopF (.neg x) e m b = some (p, d)) : OpOk P F β ok e m a w b o p d := by
  simp only [vopF, Option.bind_eq_some_iff] at h
  obtain ⟨q, hq, h⟩ := h
  have hr := ev_rep hs hx hq
  cases q <;> simp at h
  obtain ⟨rfl, rfl⟩ := h
  generalize hv : a.eval X = vx at hr
  cases hr
  refine .value hs (v := .int _ _) ?_ (.int _ _)
  simp [execOp, ho, hv, Op.unary, Op.intArith]

theorem op_conv (hs : Sat0 F β ok e m a w) {X : Operand} {x : XA} {s t : TypeId} {k j : IntKind} (ho : o.op = .convert s t X) (hsk : P.underlying s = some (.int j)) (ht : P.underlying t = some (.int k)) (hx : cA X = some x)
    (h : vopF (.conv k x) e m b = some (p, d)) : OpOk P F β ok e m a w b o p d := by
  simp only [vopF, Option.bind_eq_some_iff] at h
  obtain ⟨q, hq, h⟩ := h
  have hr := ev_rep hs hx hq
  cases q <;> simp at h
  obtain ⟨rfl, rfl⟩ := h
  generalize hv : a.eval X = vx at hr
  cases hr
  refine .value hs (v := .int _ _) ?_ (.int _ _)
  simp [execOp, ho, hv, convert, run_und hsk, run_und ht, Conv.intToInt]

theorem op_lenS (hs : Sat0 F β ok e m a w) {X : Operand} {x : XA} {t el : TypeId} (ho : o.op = .call { callee := .builtin .len, args := #[X], argTypes := #[t] })
    (ht : P.underlying t = some (.slice el)) (hx : cA X = some x) (h : vopF (.lenS x) e m b = some (p, d)) : OpOk P F β ok e m a w b o p d := by
  simp only [vopF, Option.bind_eq_some_iff] at h
  obtain ⟨q, hq, h⟩ := h
  have hr := ev_rep hs hx hq
  generalize hv : a.eval X = vx at hr
  cases q <;> simp at h <;> obtain ⟨rfl, rfl⟩ := h <;> cases hr <;>
    exact .value hs (v := .int _ _) (by simp [execOp, ho, hv, resolve, invoke, builtin, Builtin.len_, run_und ht, goInt]) (.int _ _)

theorem op_lenT (hs : Sat0 F β ok e m a w) {X : Operand} {x : XA} {t : TypeId} (ho : o.op = .call { callee := .builtin .len, args := #[X], argTypes := #[t] })
    (ht : P.underlying t = some .string) (hx : cA X = some x) (h : vopF (.lenT x) e m b = some (p, d)) : OpOk P F β ok e m a w b o p d := by
  simp only [vopF, Option.bind_eq_some_iff] at h
  obtain ⟨q, hq, h⟩ := h
  have hr := ev_rep hs hx hq
  generalize hv : a.eval X = vx at hr
  cases q <;> simp at h <;> obtain ⟨rfl, rfl⟩ := h <;> cases hr <;>
    exact .value hs (v := .int _ _) (by simp only [execOp, ho, resolve, invoke, builtin, Builtin.len_, List.map_toArray, List.map_cons, List.map_nil, hv, Sem.run_bind, Sem.run_pure, Result.andThen_ok, List.getElem?_toArray, List.getElem?_cons_zero, run_und ht]; rfl) (.int _ _)

theorem op_max2 (hs : Sat0 F β ok e m a w) {X Y : Operand} {x y : XA} {ts : Array TypeId} (ho : o.op = .call { callee := .builtin .max, args := #[X, Y], argTypes := ts })
    (hx : cA X = some x) (hy : cA Y = some y) (h : vopF (.max2 x y) e m b = some (p, d)) : OpOk P F β ok e m a w b o p d := by
  simp only [vopF, Option.bind_eq_some_iff] at h
  obtain ⟨q, hq, r, hr, h⟩ := h
  have h1 := ev_rep hs hx hq
  have h2 := ev_rep hs hy hr
  generalize hv : a.eval X = vx at h1
  generalize hu : a.eval Y = vy at h2
  cases q <;> cases r <;> simp at h
  obtain ⟨rfl, rfl⟩ := h
  cases h1
  cases h2
  refine .value hs (v := .int _ _) ?_ (.int _ _)
  simp [execOp, ho, hv, hu, resolve, invoke, builtin, Builtin.max_, Builtin.max2]
  omega

theorem op_min2 (hs : Sat0 F β ok e m a w) {X Y : Operand} {x y : XA} {ts : Array TypeId} (ho : o.op = .call { callee := .builtin .min, args := #[X, Y], argTypes := ts })
    (hx : cA X = some x) (hy : cA Y = some y) (h : vopF (.min2 x y) e m b = some (p, d)) : OpOk P F β ok e m a w b o p d := by
  simp only [vopF, Option.bind_eq_some_iff] at h
  obtain ⟨q, hq, r, hr, h⟩ := h
  have h1 := ev_rep hs hx hq
  have h2 := ev_rep hs hy hr
  generalize hv : a.eval X = vx at h1
  generalize hu : a.eval Y = vy at h2
  cases q <;> cases r <;> simp at h
  obtain ⟨rfl, rfl⟩ := h
  cases h1
  cases h2
  refine .value hs (v := .int _ _) ?_ (.int _ _)
  simp [execOp, ho, hv, hu, resolve, invoke, builtin, Builtin.min_, Builtin.min2]
  omega

theorem run_intOp {op : BinOp} {k : IntKind} {x y : Int} (h : intOp op k x y = some p) (t : TypeId) : ∃ v, (binOp op t (.int k x) (.int k y)).run P w = .ok v w ∧ Rep w ok β p v := by
  cases op <;> simp only [intOp, reduceCtorEq, Option.some.injEq] at h
  case quo =>
    split at h <;> simp at h
    subst h
    rename_i hne
    exact ⟨.int _ _, by simp only [binOp, ne_eq, not_true_eq_false, if_false, Op.intDiv, if_neg hne]; rfl, .int _ _⟩
  case rem =>
    split at h <;> simp at h
    subst h
    rename_i hne
    exact ⟨.int _ _, by simp only [binOp, ne_eq, not_true_eq_false, if_false, Op.intDiv, if_neg hne]; rfl, .int _ _⟩
  case eql => subst h; exact ⟨.bool _, by simp only [binOp, ne_eq, not_true_eq_false, if_false, Op.intCmp]; rfl, by rw [show (x == y) = decide (x = y) from rfl]; exact .bool _⟩
  case neq => subst h; exact ⟨.bool _, by simp only [binOp, ne_eq, not_true_eq_false, if_false, Op.intCmp]; rfl, by rw [show (x != y) = decide (x ≠ y) by by_cases hxy : x = y <;> simp [hxy, bne]]; exact .bool _⟩
  all_goals subst h
  all_goals first
    | exact ⟨.int _ _, by simp only [binOp, ne_eq, not_true_eq_false, if_false]; rfl, .int _ _⟩
    | exact ⟨.bool _, by simp only [binOp, ne_eq, not_true_eq_false, if_false]; rfl, .bool _⟩

theorem run_shOp {op : BinOp} {k k' : IntKind} {x y : Int} (h : shOp op k x y = some p) (t : TypeId) : ∃ v, (binOp op t (.int k x) (.int k' y)).run P w = .ok v w ∧ Rep w ok β p v := by
  cases op <;> simp only [shOp, reduceCtorEq] at h <;> split at h <;> simp at h <;> subst h <;> rename_i hy
  · exact ⟨.int _ _, by simp only [binOp, Op.shift, if_neg (show ¬ y < 0 by omega)]; rfl, .int _ _⟩
  · exact ⟨.int _ _, by simp only [binOp, Op.shift, if_neg (show ¬ y < 0 by omega)]; rfl, .int _ _⟩

theorem beqL (x y : List UInt8) : (x == y) = decide (x = y) := by
  by_cases h : x = y <;> simp [h]

theorem run_strOp {op : BinOp} {x y : List UInt8} (h : strOp op x y = some p) (t : TypeId) : ∃ v, (binOp op t (.string ⟨x.toArray⟩) (.string ⟨y.toArray⟩)).run P w = .ok v w ∧ Rep w ok β p v := by
  have hsz : ∀ l : List UInt8, (⟨l.toArray⟩ : ByteArray).size = l.length := fun l => by simp [ByteArray.size]
  cases op <;> simp only [strOp, reduceCtorEq, Option.some.injEq] at h
  case add =>
    split at h <;> simp at h
    subst h
    rename_i hl
    refine ⟨.string ⟨(x ++ y).toArray⟩, ?_, .str _⟩
    simp only [binOp, Op.stringOp, hsz]
    rw [if_neg (by omega)]
    rw [show ((⟨x.toArray⟩ : ByteArray) ++ ⟨y.toArray⟩) = ⟨(x ++ y).toArray⟩ from by apply ByteArray.ext; simp]
    rfl
  all_goals
    subst h
    refine ⟨.bool _, by simp only [binOp, Op.stringOp, ByteArray.toList_mk]; rfl, ?_⟩
    first
      | exact .bool _
      | (rw [beqL]; exact .bool _)
      | (rw [beqL, ← decide_not]; exact .bool _)

theorem run_binF {op : BinOp} {q r : PV} {u v : Value} (h : binF op q r = some p) (hq : Rep w ok β q u) (hr : Rep w ok β r v) (t : TypeId) (X Y : Operand) :
    ∃ v', (do eqGuard op t X Y u v; binOp op t u v).run P w = .ok v' w ∧ Rep w ok β p v' := by
  cases q <;> cases r <;> unfold binF at h <;> try (simp only [reduceCtorEq] at h; done)
  · rename_i k x k' y
    cases hq
    cases hr
    have hg : (eqGuard op t X Y (.int k x) (.int k' y)).run P w = .ok () w := by cases op <;> rfl
    simp only [Sem.run_bind, hg, Result.andThen_ok]
    by_cases hk : k = k'
    · subst hk
      cases op <;> first | exact run_shOp h t | exact run_intOp (by simpa using h) t
    · cases op <;> first | exact run_shOp h t | (simp [hk] at h)
  · rename_i x y
    cases hq
    cases hr
    have hg : (eqGuard op t X Y (.string ⟨x.toArray⟩) (.string ⟨y.toArray⟩)).run P w = .ok () w := by cases op <;> rfl
    simp only [Sem.run_bind, hg, Result.andThen_ok]
    exact run_strOp h t

theorem op_bin (hs : Sat0 F β ok e m a w) {X Y : Operand} {x y : XA} {op : BinOp} {t u : TypeId} (ho : o.op = .binOp op t X Y u)
    (hx : cA X = some x) (hy : cA Y = some y) (h : vopF (.bin op x y) e m b = some (p, d)) : OpOk P F β ok e m a w b o p d := by
  simp only [vopF, Option.bind_eq_some_iff] at h
  obtain ⟨q, hq, r, hr, z, hz, h⟩ := h
  simp at h
  obtain ⟨rfl, rfl⟩ := h
  obtain ⟨v, hv, hp⟩ := run_binF (P := P) hz (ev_rep hs hx hq) (ev_rep hs hy hr) t X Y
  refine .value hs (v := v) ?_ hp
  simp only [execOp, ho]
  exact exec_value hv

theorem run_eqBool {t : TypeId} (ht : P.underlying t = some .bool) (c d : Bool) : (Op.equal t (.bool c) (.bool d)).run P w = .ok (c == d) w := by
  have h : ∀ n, (Op.equalIn (n + 1) t (.bool c) (.bool d)).run P w = .ok (c == d) w := fun n => by
    simp only [Op.equalIn, Sem.run_bind, run_und ht, Result.andThen_ok]; rfl
  exact h 9999

theorem run_eqNil {t el : TypeId} (ht : P.underlying t = some (.pointer el)) (c : Option Addr) : (Op.equal t (.pointer none) (.pointer c)).run P w = .ok c.isNone w := by
  have h : ∀ n, (Op.equalIn (n + 1) t (.pointer none) (.pointer c)).run P w = .ok c.isNone w := fun n => by
    simp only [Op.equalIn, Sem.run_bind, run_und ht, Result.andThen_ok]; rfl
  exact h 9999
theorem run_eqNil' {t el : TypeId} (ht : P.underlying t = some (.pointer el)) (c : Addr) : (Op.equal t (.pointer (some c)) (.pointer none)).run P w = .ok false w := by
  have h : ∀ n, (Op.equalIn (n + 1) t (.pointer (some c)) (.pointer none)).run P w = .ok false w := fun n => by
    simp only [Op.equalIn, Sem.run_bind, run_und ht, Result.andThen_ok]; rfl
  exact h 9999

theorem op_eqb (hs : Sat0 F β ok e m a w) {X Y : Operand} {x y : XA} {neg : Bool} {t u : TypeId} (ho : o.op = .binOp (if neg then .neq else .eql) t X Y u) (ht : P.underlying t = some .bool)
    (hx : cA X = some x) (hy : cA Y = some y) (h : vopF (.eqb neg x y) e m b = some (p, d)) : OpOk P F β ok e m a w b o p d := by
  simp only [vopF, Option.bind_eq_some_iff] at h
  obtain ⟨q, hq, r, hr, h⟩ := h
  have h1 := ev_rep hs hx hq
  have h2 := ev_rep hs hy hr
  generalize hv : a.eval X = vx at h1
  generalize hu : a.eval Y = vy at h2
  cases q <;> cases r <;> simp at h
  obtain ⟨rfl, rfl⟩ := h
  cases h1
  cases h2
  rename_i c d
  refine .value hs (v := .bool _) ?_ (.bool _)
  have hg : ∀ op, (eqGuard op t X Y (.bool c) (.bool d)).run P w = .ok () w := fun op => by cases op <;> rfl
  cases neg <;> simp only [execOp, ho, hv, hu, Bool.false_eq_true, if_false, if_true, binOp, Sem.run_bind, hg, Result.andThen_ok, run_eqBool ht, Sem.run_pure] <;> cases c <;> cases d <;> rfl

theorem op_eqp (hs : Sat0 F β ok e m a w) {X Y : Operand} {x y : XA} {neg : Bool} {t u el : TypeId} (ho : o.op = .binOp (if neg then .neq else .eql) t X Y u) (ht : P.underlying t = some (.pointer el))
    (hx : cA X = some x) (hy : cA Y = some y) (h : vopF (.eqp neg x y) e m b = some (p, d)) : OpOk P F β ok e m a w b o p d := by
  simp only [vopF, Option.bind_eq_some_iff] at h
  obtain ⟨q, hq, r, hr, h⟩ := h
  have h1 := ev_rep hs hx hq
  have h2 := ev_rep hs hy hr
  generalize hv : a.eval X = vx at h1
  generalize hu : a.eval Y = vy at h2
  have hg : ∀ op c d, (eqGuard op t X Y (.pointer c) (.pointer d)).run P w = .ok () w := fun op c d => by cases op <;> rfl
  cases q <;> cases r <;> simp at h <;> obtain ⟨rfl, rfl⟩ := h <;> cases h1 <;> cases h2 <;>
    (refine .value hs (v := .bool _) ?_ (.bool _); cases neg <;> simp only [execOp, ho, hv, hu, Bool.false_eq_true, if_false, if_true, binOp, Sem.run_bind, hg, Result.andThen_ok, run_eqNil ht, run_eqNil' ht, Sem.run_pure] <;> rfl)

end
end Go.Vx
/- The engine, part 6: the operations that read memory, and those on addresses, slices, strings and structs. -/
set_option linter.unusedVariables false
set_option linter.unusedSimpArgs false
namespace Go.Vx
open Go Go.RowKit

section lists
variable {α : Type}

theorem flat_get {k : Nat} : ∀ {xs : List (List α)} {i j : Nat} {c : List α} {u : α}, (∀ x ∈ xs, x.length = k) → xs[i]? = some c → c[j]? = some u → xs.flatten[i * k + j]? = some u
  | [], i, j, c, u, _, h, _ => by simp at h
  | x :: xs, 0, j, c, u, hk, h, hj => by
    simp at h; subst h
    have : j < x.length := (List.getElem?_eq_some_iff.1 hj).1
    rw [List.flatten_cons, Nat.zero_mul, Nat.zero_add, List.getElem?_append_left this]
    exact hj
  | x :: xs, i + 1, j, c, u, hk, h, hj => by
    have ih := flat_get (xs := xs) (i := i) (fun y hy => hk y (by simp [hy])) (by simpa using h) hj
    have hx := hk x (by simp)
    rw [List.flatten_cons, List.getElem?_append_right (by rw [hx, Nat.add_mul]; omega), hx]
    rw [show (i + 1) * k + j - k = i * k + j by rw [Nat.add_mul]; omega]
    exact ih

theorem flat_len {k : Nat} : ∀ {xs : List (List α)}, (∀ x ∈ xs, x.length = k) → xs.flatten.length = xs.length * k
  | [], _ => by simp
  | x :: xs, h => by
    rw [List.flatten_cons, List.length_append, flat_len (fun y hy => h y (by simp [hy])), h x (by simp), List.length_cons, Nat.add_mul]
    omega

theorem flat_inv {k : Nat} {xs : List (List α)} {q : Nat} {u : α} (hk : ∀ x ∈ xs, x.length = k) (h : xs.flatten[q]? = some u) :
    ∃ i j c, q = i * k + j ∧ j < k ∧ xs[i]? = some c ∧ c[j]? = some u := by
  have hq : q < xs.flatten.length := (List.getElem?_eq_some_iff.1 h).1
  rw [flat_len hk] at hq
  have hk0 : 0 < k := by
    rcases Nat.eq_zero_or_pos k with h0 | h0
    · subst h0; simp at hq
    · exact h0
  have hi : q / k < xs.length := by rw [Nat.div_lt_iff_lt_mul hk0]; exact hq
  have hj : q % k < k := Nat.mod_lt _ hk0
  have hx : xs[q / k]? = some xs[q / k] := by simp [hi]
  have hl : (xs[q / k]).length = k := hk _ (List.getElem_mem hi)
  have hc : (xs[q / k])[q % k]? = some ((xs[q / k])[q % k]'(by omega)) := by simp [hl, hj]
  refine ⟨q / k, q % k, xs[q / k], (by rw [Nat.mul_comm]; exact (Nat.div_add_mod q k).symm), hj, hx, ?_⟩
  have := flat_get hk hx hc
  rw [show q / k * k + q % k = q by rw [Nat.mul_comm]; exact Nat.div_add_mod q k, h] at this
  rw [hc]; exact this.symm

theorem flat_drop {k : Nat} : ∀ {l : Nat} {xs : List (List α)}, (∀ x ∈ xs, x.length = k) → (xs.drop l).flatten = xs.flatten.drop (l * k)
  | 0, xs, _ => by simp
  | l + 1, [], _ => by simp
  | l + 1, x :: xs, h => by
    rw [List.drop_succ_cons, flat_drop (fun y hy => h y (by simp [hy])), List.flatten_cons, List.drop_append]
    have hx := h x (by simp)
    have h2 : (l + 1) * k - k = l * k := by rw [Nat.add_mul]; omega
    have h3 : x.drop ((l + 1) * k) = [] := List.drop_eq_nil_of_le (by rw [hx, Nat.add_mul]; omega)
    rw [hx, h2, h3]
    simp

theorem flat_take {k : Nat} : ∀ {l : Nat} {xs : List (List α)}, (∀ x ∈ xs, x.length = k) → (xs.take l).flatten = xs.flatten.take (l * k)
  | 0, xs, _ => by simp
  | l + 1, [], _ => by simp
  | l + 1, x :: xs, h => by
    rw [List.take_succ_cons, List.flatten_cons, flat_take (fun y hy => h y (by simp [hy])), List.flatten_cons, List.take_append]
    have hx := h x (by simp)
    have h2 : (l + 1) * k - k = l * k := by rw [Nat.add_mul]; omega
    have h3 : x.take ((l + 1) * k) = x := List.take_of_length_le (by rw [hx, Nat.add_mul]; omega)
    rw [hx, h2, h3]

theorem exists_list {n : Nat} {R : Nat → α → Prop} (h : ∀ j, j < n → ∃ u, R j u) : ∃ vs : List α, vs.length = n ∧ ∀ (j : Nat) u, vs[j]? = some u → R j u := by
  induction n with
  | zero => exact ⟨[], rfl, by simp⟩
  | succ n ih =>
    obtain ⟨vs, hl, hv⟩ := ih fun j hj => h j (by omega)
    obtain ⟨u, hu⟩ := h n (by omega)
    refine ⟨vs ++ [u], by simp [hl], fun j x hx => ?_⟩
    by_cases hj : j < n
    · rw [List.getElem?_append_left (by omega)] at hx
      exact hv j x hx
    · have hjn : j = n := by
        have := (List.getElem?_eq_some_iff.1 hx).1
        simp at this
        omega
      subst hjn
      rw [List.getElem?_append_right (by omega)] at hx
      simp [hl] at hx
      subst hx
      exact hu

theorem mem_flat {xs : List (List α)} {x : List α} {c : α} (hx : x ∈ xs) (hc : c ∈ x) : c ∈ xs.flatten := List.mem_flatten.2 ⟨x, hx, hc⟩
end lists

section
variable {P : Program} {F : Fr} {β : Ids} {ok : Nat → Prop} {e : Nat → Option PV} {m : Mem} {a : Act} {w : World} {b : Nat} {o : Oper} {p : PV} {d : Delta}

/-- Cells that can be read at an address. -/
def Cells (w : World) (ok : Nat → Prop) (β : Ids) (A : Addr) (cs : List PV) : Prop :=
  (∀ c ∈ cs, c.one = true) ∧ ∃ vs : List Value, vs.length = cs.length ∧ (∀ (j : Nat) u, vs[j]? = some u → w.cell? (A.add j) = some u) ∧ ∀ (j : Nat) c u, cs[j]? = some c → vs[j]? = some u → Rep w ok β c u

theorem Rep.any {p : PV} {v : Value} (h : Rep w ok noIds p v) : Rep w ok β p v := h.mono (fun _ _ => rfl) (fun _ h => h) _ (by simp [noIds])

theorem cells_of {A : Addr} {cs : List PV} (h1 : ∀ c ∈ cs, c.one = true) (h : ∀ (j : Nat) c, cs[j]? = some c → ∃ u, w.cell? (A.add j) = some u ∧ Rep w ok β c u) : Cells w ok β A cs := by
  obtain ⟨vs, hl, hv⟩ := exists_list (n := cs.length) (R := fun j u => w.cell? (A.add j) = some u ∧ ∀ c, cs[j]? = some c → Rep w ok β c u) (fun j hj => by
    obtain ⟨u, h1, h2⟩ := h j cs[j] (by simp [hj])
    exact ⟨u, h1, fun c hc => by simp [hj] at hc; exact hc ▸ h2⟩)
  exact ⟨h1, vs, hl, fun j u hu => (hv j u hu).1, fun j c u hc hu => (hv j u hu).2 c hc⟩

theorem rd_sound (hm : MSat w ok β m) {n : Nat} {cs : List PV} {v : Value} (h : rd m n p = some cs) (hr : Rep w ok β p v) : ∃ A, v = .pointer (some A) ∧ A.spot = none ∧ cs.length = n ∧ Cells w ok β A cs := by
  cases p <;> unfold rd at h <;> dsimp only at h <;> try (simp only [reduceCtorEq] at h; done)
  · rename_i id k i j
    cases hr with
    | ptr _ _ _ _ bl cap hb =>
      cases hid : m id with
      | none => simp [hid] at h
      | some ob =>
        obtain ⟨l, hl, ho⟩ := hm.objs id ob hid
        rw [hb] at hl; injection hl with hl; subst hl
        rw [hid] at h
        cases ob with
        | map es => simp at h
        | iter => simp at h
        | loop => simp at h
        | row k' xs T fz =>
          dsimp only at h
          by_cases hk : k' = k
          case neg => rw [if_neg hk] at h; cases h
          rw [if_pos hk] at h
          subst hk
          simp only [Option.bind_eq_some_iff] at h
          obtain ⟨x, hx, h⟩ := h
          by_cases hlen : j + n ≤ x.length
          case neg => rw [if_neg hlen] at h; cases h
          rw [if_pos hlen] at h
          injection h with h
          subst h
          obtain ⟨⟨cur, h1, h2, h3, h4, h5, h6, h7⟩, _⟩ := ho
          refine ⟨_, rfl, rfl, by simp; omega, cells_of (fun c hc => h6 c (mem_flat (List.mem_of_getElem? hx) (List.mem_of_mem_drop (List.mem_of_mem_take hc)))) fun t c hc => ?_⟩
          have ht : t < n := by
            have := (List.getElem?_eq_some_iff.1 hc).1
            simp at this; omega
          have hc' : x[j + t]? = some c := by
            rw [List.getElem?_take] at hc
            simp [ht] at hc
            exact hc
          obtain ⟨u, hu, hru⟩ := h7 _ c (flat_get h5 hx hc')
          refine ⟨u, ?_, hru.any⟩
          rw [add_mk, cell_of h1, show i * k' + j + t = i * k' + (j + t) by omega, hu]
        | box cs' T =>
          simp at h
          obtain ⟨⟨rfl, hlen⟩, rfl⟩ := h
          obtain ⟨⟨cur, h1, h2, h3, h7⟩, _⟩ := ho
          refine ⟨_, rfl, rfl, by simp; omega, cells_of (fun c hc => h3 c (List.mem_of_mem_drop (List.mem_of_mem_take hc))) fun t c hc => ?_⟩
          have ht : t < n := by
            have := (List.getElem?_eq_some_iff.1 hc).1
            simp at this; omega
          have hc' : cs'[j + t]? = some c := by
            rw [List.getElem?_take] at hc
            simp [ht] at hc
            exact hc
          obtain ⟨u, hu, hru⟩ := h7 _ c hc'
          refine ⟨u, ?_, hru⟩
          rw [add_mk, cell_of h1, show 0 * k + j + t = j + t by omega, hu]
  · rename_i cs'
    split at h <;> simp at h
    subst h
    cases hr with
    | cptr _ A f hs hok h1 hc hr =>
      refine ⟨A, rfl, hs, by simp; omega, cells_of (fun c hc => h1 c (List.mem_of_mem_take hc)) fun t c ht => ?_⟩
      have ht' : cs'[t]? = some c := by
        rw [List.getElem?_take] at ht
        split at ht
        · exact ht
        · cases ht
      exact ⟨f t, hc t c ht', (hr t c ht').any⟩

theorem Cells.agg {A : Addr} {cs : List PV} (h : Cells w ok β A cs) {t : TypeId} {n : Nat} (hg : tyAgg P t = some true) (hn : tySize P t = some n) (hl : cs.length = n) :
    ∃ v, (loadVar t A).run P w = .ok v w ∧ Rep w ok β (.agg cs) v := by
  obtain ⟨h1, vs, hvl, hv, hr⟩ := h
  exact ⟨_, run_loadVarAgg A vs hg hn (by omega) hv, .agg cs vs hvl h1 hr⟩

theorem op_load1 (hs : Sat0 F β ok e m a w) {X : Operand} {x : XA} {t : TypeId} (ho : o.op = .load t X) (hg : tyAgg P t = some false) (hx : cA X = some x)
    (h : vopF (.load1 x) e m b = some (p, d)) : OpOk P F β ok e m a w b o p d := by
  simp only [vopF, Option.bind_eq_some_iff] at h
  obtain ⟨q, hq, cs, hcs, c, hc, h⟩ := h
  simp at h
  obtain ⟨rfl, rfl⟩ := h
  obtain ⟨A, hA, hsp, hl, h1, vs, hvl, hv, hr⟩ := rd_sound hs.mem hcs (ev_rep hs hx hq)
  match cs, hl, hc with
  | [c0], _, hc =>
    simp [head1] at hc; subst hc
    match vs, hvl with
    | [u], _ =>
      refine .value hs (v := u) ?_ (hr 0 _ u rfl rfl)
      have h0 : w.cell? A = some u := by simpa [Addr.add] using hv 0 u rfl
      simp only [execOp, ho]
      exact exec_value (by simp [Instr.loadAt, hA, Instr.sureAddr, run_loadVarOne A u hg h0])

theorem op_loadn (hs : Sat0 F β ok e m a w) {X : Operand} {x : XA} {t : TypeId} {n : Nat} (ho : o.op = .load t X) (hg : tyAgg P t = some true) (hn : tySize P t = some n) (hx : cA X = some x)
    (h : vopF (.loadn n x) e m b = some (p, d)) : OpOk P F β ok e m a w b o p d := by
  simp only [vopF, Option.bind_eq_some_iff] at h
  obtain ⟨q, hq, cs, hcs, h⟩ := h
  simp at h
  obtain ⟨rfl, rfl⟩ := h
  obtain ⟨A, hA, hsp, hl, hc⟩ := rd_sound hs.mem hcs (ev_rep hs hx hq)
  obtain ⟨v, hv, hr⟩ := hc.agg hg hn hl
  refine .value hs (v := v) ?_ hr
  simp only [execOp, ho]
  exact exec_value (by simp [Instr.loadAt, hA, Instr.sureAddr, hv])

theorem op_nilck (hs : Sat0 F β ok e m a w) {X : Operand} {x : XA} (ho : o.op = .nilCheck X) (hx : cA X = some x) (h : vopF (.nilck x) e m b = some (p, d)) : OpOk P F β ok e m a w b o p d := by
  simp only [vopF, Option.bind_eq_some_iff] at h
  obtain ⟨q, hq, h⟩ := h
  have hr := ev_rep hs hx hq
  have hr0 := hr
  generalize hv : a.eval X = vx at hr
  rw [hv] at hr0
  cases q <;> simp at h <;> obtain ⟨rfl, rfl⟩ := h <;> cases hr <;> exact .value hs (by simp only [execOp, ho, hv]; rfl) hr0

/-- A pointer to cells that stay, moved on. -/
theorem Rep.cptr_drop {cs : List PV} {A : Addr} (h : Rep w ok β (.cptr cs) (.pointer (some A))) (n : Nat) : Rep w ok β (.cptr (cs.drop n)) (.pointer (some (A.add n))) := by
  cases h with
  | cptr _ _ f hs hok h1 hc hr =>
    refine .cptr _ _ (fun j => f (n + j)) (add_spot A hs n) (by rw [add_block]; exact hok) (fun c hc => h1 c (List.mem_of_mem_drop hc)) (fun j c hj => ?_) (fun j c hj => ?_)
    · rw [add_add]; exact hc _ c (by rw [← hj, List.getElem?_drop])
    · exact hr _ c (by rw [← hj, List.getElem?_drop])

theorem Rep.ptr_move {id k i j : Nat} {A : Addr} (h : Rep w ok β (.ptr id k i j) (.pointer (some A))) (n : Nat) : Rep w ok β (.ptr id k i (j + n)) (.pointer (some (A.add n))) := by
  cases h with
  | ptr _ _ _ _ bl cap hb => rw [add_mk, Nat.add_assoc]; exact .ptr _ _ _ _ bl cap hb

theorem op_fieldA (hs : Sat0 F β ok e m a w) {X : Operand} {x : XA} {s : TypeId} {fs : Array Field} {i k : Nat} {f : Field} (ho : o.op = .fieldAddr s X i) (hu : P.underlying s = some (.struct fs)) (hf : fs[i]? = some f)
    (hk : tySize P f.type = some k) (hk0 : k ≠ 0) (hx : cA X = some x) (h : vopF (.fieldA f.offset x) e m b = some (p, d)) : OpOk P F β ok e m a w b o p d := by
  simp only [vopF, Option.bind_eq_some_iff] at h
  obtain ⟨q, hq, h⟩ := h
  have hr := ev_rep hs hx hq
  have hrun : ∀ A, a.eval X = .pointer (some A) → (execOp a.eval o).run P w = .ok (.value (.pointer (some (A.add f.offset)))) w := fun A hA => by
    simp only [execOp, ho]
    exact exec_value (by simp [Instr.fieldAt, run_und hu, hf, hA, Instr.sureAddr, fieldPlace, run_sizeOf hk, hk0])
  generalize hv : a.eval X = vx at hr
  cases q <;> simp at h
  · obtain ⟨rfl, rfl⟩ := h
    have hr0 := hr
    cases hr with
    | ptr => exact .value hs (hrun _ hv) (hr0.ptr_move _)
  · obtain ⟨rfl, rfl⟩ := h
    have hr0 := hr
    cases hr with
    | cptr => exact .value hs (hrun _ hv) (hr0.cptr_drop _)

theorem idx_rep {q : PV} {v : Value} {i : Nat} (h : idx q = some i) (hr : Rep w ok β q v) : ∃ k, v = .int k (i : Int) := by
  cases q <;> simp [idx] at h
  cases hr
  rename_i k n
  exact ⟨k, by rw [← h.2]; congr 1; omega⟩

/-- The cells of one element of a slice that stays. -/
theorem Rep.sl_at {xs : List (List PV)} {v : Value} {i : Nat} {c : List PV} (h : Rep w ok β (.sl xs) v) (hi : xs[i]? = some c) :
    ∃ A cap k, v = .slice (some A) xs.length cap ∧ (∀ x ∈ xs, x.length = k) ∧ i < xs.length ∧ Rep w ok β (.cptr c) (.pointer (some (A.add (i * k)))) := by
  cases h with
  | sl0 => simp at hi
  | sl k _ A cap f hne hl hcap hk hs hok h1 hc hr =>
    refine ⟨A, cap, k, rfl, hk, (List.getElem?_eq_some_iff.1 hi).1, .cptr _ _ (fun j => f (i * k + j)) (add_spot A hs _) (by rw [add_block]; exact hok) (fun u hu => h1 u (mem_flat (List.mem_of_getElem? hi) hu)) (fun j u hj => ?_) (fun j u hj => ?_)⟩
    · rw [add_add]; exact hc _ u (flat_get hk hi hj)
    · exact hr _ u (flat_get hk hi hj)

theorem op_indexS (hs : Sat0 F β ok e m a w) {X I : Operand} {x i : XA} {t el : TypeId} {k : Nat} (ho : o.op = .indexAddr t X I) (hu : P.underlying t = some (.slice el)) (hk : tySize P el = some k)
    (hx : cA X = some x) (hi : cA I = some i) (h : vopF (.indexS k x i) e m b = some (p, d)) : OpOk P F β ok e m a w b o p d := by
  simp only [vopF, Option.bind_eq_some_iff] at h
  obtain ⟨q, hq, r, hr, n, hn, h⟩ := h
  have hrx := ev_rep hs hx hq
  obtain ⟨kk, hiv⟩ := idx_rep hn (ev_rep hs hi hr)
  have hrun : ∀ A len cap, a.eval X = .slice (some A) len cap → n < len → (execOp a.eval o).run P w = .ok (.value (.pointer (some (A.add (n * k))))) w := fun A len cap hA hlt => by
    simp only [execOp, ho]
    refine exec_value ?_
    simp only [Instr.indexAt, hiv, asIntOf, Sem.run_bind, Sem.run_pure, Result.andThen_ok, run_und hu, hA]
    rw [if_pos ⟨by omega, by omega⟩]
    simp [run_sizeOf hk]
  generalize hv : a.eval X = vx at hrx
  cases q <;> simp only [reduceCtorEq] at h
  · rename_i xs
    simp only [Option.bind_eq_some_iff] at h
    obtain ⟨c, hc, h⟩ := h
    split at h <;> simp at h
    rename_i hlen
    obtain ⟨rfl, rfl⟩ := h
    obtain ⟨A, cap, k', rfl, hk', hlt, hp⟩ := hrx.sl_at hc
    have : k' = k := by rw [← hk' c (List.mem_of_getElem? hc), hlen]
    subst this
    exact .value hs (hrun _ _ _ hv hlt) hp
  · rename_i id N
    cases hid : m id with
    | none => simp [hid] at h
    | some ob =>
      rw [hid] at h
      cases ob with
      | box => simp at h
      | map => simp at h
      | iter => simp at h
      | loop => simp at h
      | row k' xs T fz =>
        simp at h
        obtain ⟨⟨rfl, hlt, hle⟩, rfl, rfl⟩ := h
        cases hrx with
        | osl0 _ _ hb => omega
        | osl _ _ bl cap hb hcap =>
          refine .value hs (hrun _ _ _ hv hlt) ?_
          rw [add_mk]
          simpa using Rep.ptr (w := w) (ok := ok) (β := β) id k' n 0 bl cap hb

theorem op_indexA (hs : Sat0 F β ok e m a w) {X I : Operand} {x i : XA} {t el : TypeId} {k len : Nat} (ho : o.op = .indexAddr t X I) (hu : P.underlying t = some (.array len el)) (hk : tySize P el = some k)
    (hx : cA X = some x) (hi : cA I = some i) (h : vopF (.indexA k len x i) e m b = some (p, d)) : OpOk P F β ok e m a w b o p d := by
  simp only [vopF, Option.bind_eq_some_iff] at h
  obtain ⟨q, hq, r, hr, n, hn, h⟩ := h
  have hrx := ev_rep hs hx hq
  obtain ⟨kk, hiv⟩ := idx_rep hn (ev_rep hs hi hr)
  split at h
  case isFalse => cases h
  rename_i hlt
  have hrun : ∀ A, a.eval X = .pointer (some A) → (execOp a.eval o).run P w = .ok (.value (.pointer (some (A.add (n * k))))) w := fun A hA => by
    simp only [execOp, ho]
    refine exec_value ?_
    simp only [Instr.indexAt, hiv, asIntOf, Sem.run_bind, Sem.run_pure, Result.andThen_ok, run_und hu, hA, Instr.sureAddr]
    rw [if_pos ⟨by omega, by omega⟩]
    simp [run_sizeOf hk]
  generalize hv : a.eval X = vx at hrx
  cases q <;> simp at h
  · obtain ⟨rfl, rfl⟩ := h
    have hr0 := hrx
    cases hrx with
    | ptr => exact .value hs (hrun _ hv) (hr0.ptr_move _)
  · obtain ⟨rfl, rfl⟩ := h
    have hr0 := hrx
    cases hrx with
    | cptr => exact .value hs (hrun _ hv) (hr0.cptr_drop _)

theorem op_indexT (hs : Sat0 F β ok e m a w) {X I : Operand} {x i : XA} {t : TypeId} (ho : o.op = .index t X I) (hu : P.underlying t = some .string)
    (hx : cA X = some x) (hi : cA I = some i) (h : vopF (.indexT x i) e m b = some (p, d)) : OpOk P F β ok e m a w b o p d := by
  simp only [vopF, Option.bind_eq_some_iff] at h
  obtain ⟨q, hq, r, hr, n, hn, h⟩ := h
  have hrx := ev_rep hs hx hq
  obtain ⟨kk, hiv⟩ := idx_rep hn (ev_rep hs hi hr)
  generalize hv : a.eval X = vx at hrx
  cases q <;> simp only [reduceCtorEq] at h
  rename_i s
  simp only [Option.bind_eq_some_iff] at h
  obtain ⟨c, hc, h⟩ := h
  simp at h
  obtain ⟨rfl, rfl⟩ := h
  cases hrx
  refine .value hs (v := .int .u8 c.toNat) ?_ (.int _ _)
  simp only [execOp, ho]
  refine exec_value ?_
  have hg : (⟨s.toArray⟩ : ByteArray)[n]? = some c := by
    obtain ⟨hlt, hc⟩ := List.getElem?_eq_some_iff.1 hc
    have hlt' : n < (ByteArray.mk s.toArray).size := by simpa [ByteArray.size] using hlt
    rw [getElem?_pos (ByteArray.mk s.toArray) n hlt']
    exact congrArg some hc
  simp only [Instr.index, hiv, asIntOf, Sem.run_bind, Sem.run_pure, Result.andThen_ok, run_und hu, hv]
  rw [if_pos (by omega)]
  simp [hg]

end
end Go.Vx
/- The engine, part 7: the operations that make objects or write them. -/
set_option linter.unusedVariables false
set_option linter.unusedSimpArgs false
namespace Go.Vx
open Go Go.RowKit

section
variable {P : Program} {F : Fr} {β : Ids} {ok : Nat → Prop} {e : Nat → Option PV} {m : Mem} {a : Act} {w : World} {b : Nat} {o : Oper} {p : PV} {d : Delta}

theorem Rep.cells {v : Value} (h : Rep w ok β p v) (hn : p.nt = true) : v.cells.toList.length = p.cells.length ∧ (∀ c ∈ p.cells, c.one = true) ∧
    ∀ (j : Nat) c u, p.cells[j]? = some c → v.cells.toList[j]? = some u → Rep w ok β c u := by
  have one : ∀ {p : PV} {v : Value}, Rep w ok β p v → p.one = true → p.cells = [p] → v.cells = #[v] → v.cells.toList.length = p.cells.length ∧ (∀ c ∈ p.cells, c.one = true) ∧
    ∀ (j : Nat) c u, p.cells[j]? = some c → v.cells.toList[j]? = some u → Rep w ok β c u := by
    intro p v h h1 h2 h3
    refine ⟨by simp [h2, h3], by simp [h2, h1], fun j c u hc hu => ?_⟩
    rw [h2] at hc
    rw [h3] at hu
    cases j with
    | zero => simp at hc hu; subst hc; subst hu; exact h
    | succ j => simp at hc
  cases h with
  | tup cs vs hl hr => simp [PV.nt] at hn
  | agg cs vs hl h1 hr => exact ⟨by simp [Value.cells, PV.cells, hl], h1, fun j c u hc hu => hr j c u hc (by simpa [Value.cells] using hu)⟩
  | bool b => exact one (.bool b) rfl rfl rfl
  | int k n => exact one (.int k n) rfl rfl rfl
  | str s => exact one (.str s) rfl rfl rfl
  | nilp => exact one .nilp rfl rfl rfl
  | nilm => exact one .nilm rfl rfl rfl
  | nilf => exact one .nilf rfl rfl rfl
  | ptr id k i j bl cap h => exact one (.ptr id k i j bl cap h) rfl rfl rfl
  | cptr cs A f hs hok h1 hc hr => exact one (.cptr cs A f hs hok h1 hc hr) rfl rfl rfl
  | sl0 A cap h => exact one (.sl0 A cap h) rfl rfl rfl
  | sl k xs A cap f h1 h2 h3 h4 h5 h6 h7 h8 h9 => exact one (.sl k xs A cap f h1 h2 h3 h4 h5 h6 h7 h8 h9) rfl rfl rfl
  | osl0 id A h => exact one (.osl0 id A h) rfl rfl rfl
  | yld id b cap h => exact one (.yld id b cap h) rfl rfl rfl
  | nsl => exact one .nsl rfl rfl rfl
  | osl id n bl cap h hle => exact one (.osl id n bl cap h hle) rfl rfl rfl
  | map id bl cap h => exact one (.map id bl cap h) rfl rfl rfl
  | fn f caps vs hl hr => exact one (.fn f caps vs hl hr) rfl rfl rfl

theorem beta_alloc (hs : Sat0 F β ok e m a w) (hb : β b = none) (O : Go.Obj) (l : Loc) {p : PV} {v : Value} (h : Rep w ok β p v) : Rep (w.alloc O) ok (upd β b (some l)) p v :=
  h.mono (fun k hk => Below.heap_alloc w O k (hs.okb k hk)) (fun _ h => h) _ (beta_upd hb)
theorem noIds_alloc (hs : Sat0 F β ok e m a w) (O : Go.Obj) {p : PV} {v : Value} (h : Rep w ok noIds p v) : Rep (w.alloc O) ok noIds p v :=
  h.mono (fun k hk => Below.heap_alloc w O k (hs.okb k hk)) (fun _ h => h) _ (fun _ _ h => h)

theorem not_ok_new (hs : Sat0 F β ok e m a w) : ¬ ok w.heap.size := fun h => Nat.lt_irrefl _ (hs.okb _ h)

/-- A new box of cells. -/
theorem OpOk.newBox (hs : Sat0 F β ok e m a w) (hb : β b = none) {T : TypeId} {cs : List PV} {vs : Array Value} {k : Nat}
    (hrun : (execOp a.eval o).run P w = .ok (.value (.pointer (some ⟨w.heap.size, 0, none⟩))) (w.alloc (.cells vs T)))
    (hl : vs.toList.length = cs.length) (h1 : ∀ c ∈ cs, c.one = true) (hr : ∀ (j : Nat) c u, cs[j]? = some c → vs.toList[j]? = some u → Rep w ok β c u) :
    OpOk P F β ok e m a w b o (.ptr b k 0 0) [(b, some (.box cs T))] := by
  refine ⟨_, _, upd β b (some (.at w.heap.size 0)), .inl hrun, ?_, ?_, fun id h => by simp [upd, h]⟩
  · simpa using Rep.ptr (w := w.alloc (.cells vs T)) (ok := ok) (β := upd β b (some (.at w.heap.size 0))) b k 0 0 w.heap.size 0 (by simp [upd])
  · refine hs.alloc hb (.cells vs T) (.box cs T) 0 ⟨⟨vs, heap_alloc_new w _, by simpa using hl, h1, fun j c hj => ?_⟩, not_ok_new hs⟩
    have hjl : j < vs.size := by
      have h2 := (List.getElem?_eq_some_iff.1 hj).1
      have h3 : vs.size = cs.length := by simpa using hl
      omega
    exact ⟨vs[j], by simp [hjl], beta_alloc hs hb _ _ (hr j c vs[j] hj (by simp [hjl]))⟩

theorem op_alloc (hs : Sat0 F β ok e m a w) (hb : β b = none) {T : TypeId} {z : List PV} (ho : o.op = .alloc T) (hz : tyZero P T = some z) (h : vopF (.alloc T z) e m b = some (p, d)) :
    OpOk P F β ok e m a w b o p d := by
  simp only [vopF, Option.some.injEq, Prod.mk.injEq] at h
  obtain ⟨rfl, rfl⟩ := h
  obtain ⟨v, hv, hm⟩ := run_zero (w := w) hz
  obtain ⟨h1, h2, h3⟩ := ofVals_rep (w := w) (ok := ok) (β := β) hm
  refine .newBox hs hb (vs := v.cells) ?_ h1 h2 h3
  simp only [execOp, ho, Instr.alloc, Sem.run_bind, hv, Result.andThen_ok]
  rfl

theorem op_box (hs : Sat0 F β ok e m a w) (hb : β b = none) {T : TypeId} {k : Nat} {X : Operand} {x : XA} (ho : o.op = .box T X) (hx : cA X = some x) (h : vopF (.box T k x) e m b = some (p, d)) :
    OpOk P F β ok e m a w b o p d := by
  simp only [vopF, Option.bind_eq_some_iff] at h
  obtain ⟨q, hq, h⟩ := h
  split at h <;> simp at h
  rename_i hc
  obtain ⟨rfl, rfl⟩ := h
  obtain ⟨h1, h2, h3⟩ := (ev_rep hs hx hq).cells hc.2
  refine .newBox hs hb (vs := (a.eval X).cells) ?_ h1 h2 h3
  simp only [execOp, ho, Instr.box, newVar, newRow, Sem.run_bind, run_newObj, Result.andThen_ok]
  rfl

/-- A new row. -/
theorem OpOk.newRow (hs : Sat0 F β ok e m a w) (hb : β b = none) {T : TypeId} {xs : List (List PV)} {vs : Array Value} {k cap : Nat}
    (hrun : (execOp a.eval o).run P w = .ok (.value (.slice (some ⟨w.heap.size, 0, none⟩) xs.length cap)) (w.alloc (.cells vs T)))
    (hcs : vs.size = cap * k) (hle : xs.length ≤ cap) (hcap : cap ≤ maxLen) (hk : ∀ x ∈ xs, x.length = k) (h1 : ∀ c ∈ xs.flatten, c.one = true)
    (hr : ∀ (j : Nat) c, xs.flatten[j]? = some c → ∃ u, vs[j]? = some u ∧ Rep w ok noIds c u) :
    OpOk P F β ok e m a w b o (.osl b xs.length) [(b, some (.row k xs T false))] := by
  refine ⟨_, _, upd β b (some (.at w.heap.size cap)), .inl hrun, .osl b _ w.heap.size cap (by simp [upd]) hle, ?_, fun id h => by simp [upd, h]⟩
  refine hs.alloc hb (.cells vs T) (.row k xs T false) cap ⟨⟨vs, heap_alloc_new w _, hcs, hle, hcap, hk, h1, fun j c hj => ?_⟩, by simp, fun _ => not_ok_new hs⟩
  obtain ⟨u, hu, hru⟩ := hr j c hj
  exact ⟨u, hu, noIds_alloc hs _ hru⟩

theorem op_nilrow (hs : Sat0 F β ok e m a w) (hb : β b = none) {T k : Nat} (ho : o.op = .move (.const (.slice none 0 0)) ∨ o.op = .assign (.const (.slice none 0 0)))
    (h : vopF (.nilrow T k) e m b = some (p, d)) : OpOk P F β ok e m a w b o p d := by
  simp only [vopF, Option.some.injEq, Prod.mk.injEq] at h
  obtain ⟨rfl, rfl⟩ := h
  have hbm := beta_upd (l := .nil) hb
  refine ⟨.slice none 0 0, w, upd β b (some .nil), .inl ?_, .osl0 b none (by simp [upd]), ?_, fun id h => by simp [upd, h]⟩
  · rcases ho with ho | ho <;> simp [execOp, ho, Act.eval]
  · refine hs.step (fun _ => False) (fun _ _ _ => rfl) (fun _ _ h => h.elim) rfl rfl rfl (Nat.le_refl _) (Nat.le_refl _) hbm ⟨?_, ?_⟩ ?_
    · intro id o' hid
      simp only [Mem.upds, List.foldl_cons, List.foldl_nil, upd] at hid
      by_cases he : id = b
      · subst he
        simp at hid; subst hid
        exact ⟨.nil, by simp [upd], rfl⟩
      · simp [he] at hid
        obtain ⟨l, hl, hr⟩ := hs.mem.objs id o' hid
        exact ⟨l, hbm _ _ hl, hr.mono (fun _ _ => rfl) (fun _ h => h) hbm (fun _ _ _ => ⟨rfl, fun h => h⟩)⟩
    · intro i1 i2 o1 o2 bb c1 c2 h1 h2 h3 h4 f1 f2
      simp only [Mem.upds, List.foldl_cons, List.foldl_nil, upd] at h1 h2 h3 h4
      by_cases e1 : i1 = b
      · simp [e1] at h3
      · by_cases e2 : i2 = b
        · simp [e2] at h4
        · simp [e1] at h1 h3
          simp [e2] at h2 h4
          exact hs.mem.disj i1 i2 o1 o2 bb c1 c2 h1 h2 h3 h4 f1 f2
    · rintro bb ⟨id, o', c, hid, hf, hbe⟩
      simp only [Mem.upds, List.foldl_cons, List.foldl_nil, upd] at hid hbe
      by_cases he : id = b
      · simp [he] at hbe
      · simp [he] at hid hbe
        exact .inl ⟨id, o', c, hid, hf, hbe⟩

/-- What can be read as a value that stays (strict: what it names is frozen) lies as such. -/
theorem pur_rep (hm : MSat w ok β m) {q : PV} {v : Value} (h : pur true m p = some q) (hr : Rep w ok β p v) : Rep w ok noIds q v ∧ q.one = true := by
  unfold pur at h
  cases hr with
  | ptr id k i j bl cap hb => simp at h
  | map id bl cap hb => simp at h
  | yld id bl cap hb => simp at h
  | nsl => simp at h; subst h; exact ⟨.sl0 none 0 (by simp), rfl⟩
  | agg cs vs hl h1 hr => simp at h
  | tup cs vs hl hr => simp at h
  | bool b => simp at h; subst h; exact ⟨.bool b, rfl⟩
  | int k n => simp at h; subst h; exact ⟨.int k n, rfl⟩
  | str s => simp at h; subst h; exact ⟨.str s, rfl⟩
  | nilp => simp at h; subst h; exact ⟨.nilp, rfl⟩
  | nilm => simp at h; subst h; exact ⟨.nilm, rfl⟩
  | nilf => simp at h; subst h; exact ⟨.nilf, rfl⟩
  | cptr cs A f hs hok h1 hc hr => simp at h; subst h; exact ⟨.cptr cs A f hs hok h1 hc hr, rfl⟩
  | sl0 A cap hcap => simp at h; subst h; exact ⟨.sl0 A cap hcap, rfl⟩
  | sl k xs A cap f h1 h2 h3 h4 h5 h6 h7 h8 h9 => simp at h; subst h; exact ⟨.sl k xs A cap f h1 h2 h3 h4 h5 h6 h7 h8 h9, rfl⟩
  | osl0 id A hb =>
    dsimp only at h
    cases hid : m id with
    | none => simp [hid] at h
    | some ob =>
      rw [hid] at h
      cases ob <;> simp at h
      obtain ⟨_, rfl⟩ := h
      exact ⟨.sl0 A 0 (by simp), rfl⟩
  | osl id n bl cap hb hn =>
    dsimp only at h
    cases hid : m id with
    | none => simp [hid] at h
    | some ob =>
      rw [hid] at h
      obtain ⟨l, hl, ho⟩ := hm.objs id ob hid
      rw [hb] at hl; injection hl with hl; subst hl
      cases ob <;> simp at h
      rename_i k xs T fz
      obtain ⟨⟨hle, hfz⟩, rfl⟩ := h
      obtain ⟨⟨cur, h1, h2, h3, h4, h5, h6, h7⟩, h8, _⟩ := ho
      refine ⟨?_, rfl⟩
      rcases Nat.eq_zero_or_pos n with h0 | h0
      · subst h0; simp; exact .sl0 _ _ h4
      · have hlen : (xs.take n).length = n := by simp; omega
        obtain ⟨f, hf⟩ : ∃ f : Nat → Value, ∀ (j : Nat) c, xs.flatten[j]? = some c → cur[j]? = some (f j) ∧ Rep w ok noIds c (f j) :=
          ⟨fun j => cur[j]?.getD default, fun j c hj => by
            obtain ⟨u, hu, hru⟩ := h7 j c hj
            simp [hu, hru]⟩
        have htk : ∀ (j : Nat) c, (xs.take n).flatten[j]? = some c → xs.flatten[j]? = some c := fun j c hj => by
          rw [flat_take h5, List.getElem?_take] at hj
          split at hj
          · exact hj
          · cases hj
        have := Rep.sl (w := w) (ok := ok) (β := noIds) k (xs.take n) ⟨bl, 0, none⟩ cap f (fun e => by rw [e] at hlen; simp at hlen; omega) (by omega) h4 (fun x hx => h5 x (List.mem_of_mem_take hx)) rfl (h8 hfz)
          (fun c hc => by
            obtain ⟨x, hx, hc⟩ := List.mem_flatten.1 hc
            exact h6 c (mem_flat (List.mem_of_mem_take hx) hc))
          (fun j c hj => by rw [add_mk, cell_of h1, Nat.zero_add]; exact (hf j c (htk j c hj)).1) (fun j c hj => (hf j c (htk j c hj)).2)
        rwa [hlen] at this
  | fn f caps vs hl hr =>
    dsimp only at h
    split at h <;> simp at h
    rename_i hc
    subst h
    have : caps = [] := by simpa using hc
    subst this
    have : vs = [] := List.eq_nil_of_length_eq_zero (by simpa using hl)
    subst this
    exact ⟨.fn f [] [] rfl (by simp), rfl⟩

theorem purA_rep (hm : MSat w ok β m) {q : PV} {v : Value} (h : purA true m p = some q) (hr : Rep w ok β p v) : Rep w ok noIds q v ∧ q.nt = true := by
  cases p
  case agg cs =>
    simp only [purA, Option.map_eq_some_iff] at h
    obtain ⟨qs, hqs, rfl⟩ := h
    obtain ⟨hl, hj⟩ := mapM_some hqs
    cases hr with
    | agg _ vs hvl h1 hr =>
      have key : ∀ (j : Nat) q, qs[j]? = some q → ∃ c v, cs[j]? = some c ∧ vs[j]? = some v ∧ pur true m c = some q ∧ Rep w ok β c v := fun j q hq => by
        have hlt := (List.getElem?_eq_some_iff.1 hq).1
        have hc : cs[j]? = some (cs[j]'(by omega)) := by simp
        have hv : vs[j]? = some (vs[j]'(by omega)) := by simp
        exact ⟨_, _, hc, hv, hj j _ q hc hq, hr j _ _ hc hv⟩
      refine ⟨.agg qs vs (by omega) (fun q hq => ?_) (fun j q v hq hv => ?_), rfl⟩
      · obtain ⟨j, hjl, rfl⟩ := List.getElem_of_mem hq
        obtain ⟨c, v, _, _, h1, h2⟩ := key j qs[j] (by simp [hjl])
        exact (pur_rep hm h1 h2).2
      · obtain ⟨c, v', _, hv', h1, h2⟩ := key j q hq
        rw [hv] at hv'; injection hv' with hv'; subst hv'
        exact (pur_rep hm h1 h2).1
  all_goals
    unfold purA at h
    dsimp only at h
    obtain ⟨h1, h2⟩ := pur_rep hm h hr
    exact ⟨h1, by cases q <;> simp_all [PV.one, PV.nt]⟩

end
end Go.Vx
