/- The engine, part 0: pure values, operations, and how the model's code is turned into them. -/
import Derived.WalkKit
import Derived.OrdersIn
import Derived.RangeFuncLeaves
set_option linter.unusedVariables false
set_option linter.unusedSimpArgs false
namespace Go.Vx
open Go Go.RowKit

/-- A pure value. -/
inductive PV where
  | bool (b : Bool)
  | int (k : IntKind) (n : Int)
  | str (s : List UInt8)
  | nilp | nilm | nilf
  | ptr (id k i j : Nat)
  | cptr (cs : List PV)
  | sl (xs : List (List PV))
  | osl (id n : Nat)
  | map (id : Nat)
  | fn (f : Nat) (caps : List PV)
  | agg (cs : List PV)
  | tup (vs : List PV)
  | yld (id : Nat)
  | nsl
instance : Inhabited PV := ⟨.nilp⟩

def PV.one : PV → Bool
  | .agg _ | .tup _ => false
  | _ => true

def PV.cells : PV → List PV
  | .agg cs => cs
  | p => [p]

/-- An operand: a slot, or a constant. -/
inductive XA where
  | t (n : Nat)
  | c (p : PV)
instance : Inhabited XA := ⟨.t 0⟩

def XA.ev (e : Nat → Option PV) : XA → Option PV
  | .t n => e n
  | .c p => some p

inductive XI where
  | mv (x : XA)
  | nilrow (T k : Nat)
  | pick (c a b : XA)
  | alloc (T : Nat) (z : List PV)
  | box (T k : Nat) (x : XA)
  | build (z : List PV) (parts : List (Nat × Nat × XA))
  | mkrow (T k len : Nat) (z : List PV) (parts : List (Nat × XA))
  | load1 (x : XA)
  | loadn (n : Nat) (x : XA)
  | store (n : Nat) (x y : XA)
  | nilck (x : XA)
  | fieldA (off : Nat) (x : XA)
  | indexS (k : Nat) (x i : XA)
  | indexA (k len : Nat) (x i : XA)
  | field1 (off : Nat) (x : XA)
  | fieldn (off n : Nat) (x : XA)
  | indexT (x i : XA)
  | bin (op : BinOp) (x y : XA)
  | eqb (neg : Bool) (x y : XA)
  | eqp (neg : Bool) (x y : XA)
  | eqs (neg : Bool) (ks : List PV) (x y : XA)
  | not (x : XA)
  | neg (x : XA)
  | conv (k : IntKind) (x : XA)
  | sliceT (x : XA) (lo hi : Option XA)
  | sliceS (k : Nat) (x : XA) (lo hi : Option XA)
  | lenT (x : XA)
  | lenS (x : XA)
  | max2 (x y : XA)
  | min2 (x y : XA)
  | append (T k bytes : Nat) (s x : XA)
  | appendL (T k bytes : Nat) (s x : XA)
  | mkslice (T k bytes : Nat) (z : List PV) (l c : XA)
  | ext (i : Nat) (x : XA)
  | mkfn (f : Nat) (caps : List XA)
  | mkmap
  | lookup (g : Bool) (ks : List PV) (z : PV) (ok : Bool) (x k : XA)
  | mapUpd (g : Bool) (ks : List PV) (x k v : XA)
  | mapEnt (g : Bool) (ks : List PV) (z : PV) (x k : XA)
  | entSto (x s v : XA)
  | lenM (x : XA)
  | eqm (neg : Bool) (x y : XA)
  | range (x : XA)
  | entry (x : XA)
  | indexV (k len : Nat) (one : Bool) (x i : XA)
  | slice0 (T k : Nat) (x : XA)
  | slice3 (k : Nat) (x : XA) (lo hi : Option XA) (mx : XA)
  | next (x : XA)
  | never
  | call (f : Nat) (args : List XA)
  | callv (f : XA) (args : List XA)
instance : Inhabited XI := ⟨.mv (.t 0)⟩

def ofVal1 : Value → Option PV
  | .bool b => some (.bool b)
  | .int k n => some (.int k n)
  | .string s => some (.str s.data.toList)
  | .pointer none => some .nilp
  | .slice none 0 0 => some .nsl
  | .map none => some .nilm
  | .nilFunc => some .nilf
  | _ => none
def ofVal : Value → Option PV
  | .agg cs => (cs.toList.mapM ofVal1).map .agg
  | v => ofVal1 v

def cA : Operand → Option XA
  | .tmp t => some (.t t)
  | .const v => (ofVal v).map .c
  | .func f => some (.c (.fn f []))
  | .global _ => none

def tySize (P : Program) (t : TypeId) : Option Nat := (P.info? t).map (·.size)
def tyAgg (P : Program) (t : TypeId) : Option Bool :=
  match P.underlying t with
  | some (.struct _) | some (.array _ _) => some true
  | some _ => some false
  | none => none
def tyZero (P : Program) (t : TypeId) : Option (List PV) := ((P.info? t).bind (·.zero)).bind fun v => v.cells.toList.mapM ofVal1

/-- The element type of a slice type, its cells, its bytes. -/
def slElem (P : Program) (t : TypeId) : Option (TypeId × Nat × Nat) :=
  match P.underlying t with
  | some (.slice e) => (P.info? e).bind fun i => if 0 < i.size ∧ 0 < i.bytes then some (e, i.size, i.bytes) else none
  | _ => none

/-- The kinds of a type's cells, where each can be compared by itself (whole numbers, bools, strings). -/
def scalFs (P : Program) (rec : TypeId → Option (List PV)) : Nat → List Field → Option (List PV)
  | _, [] => some []
  | off, f :: fs => if f.name = "_" ∨ f.offset ≠ off then none else (rec f.type).bind fun ks =>
    if tySize P f.type = some ks.length then (scalFs P rec (off + ks.length) fs).map (ks ++ ·) else none
def scal (P : Program) : Nat → TypeId → Option (List PV)
  | 0, _ => none
  | d + 1, t =>
    match P.underlying t with
    | some .bool => some [.bool false]
    | some (.int k) => some [.int k 0]
    | some .string => some [.str []]
    | some (.struct fs) => if P.stoodInHeld t = true ∨ P.eqGuardType P.depth t = true then none else scalFs P (scal P d) 0 fs.toList
    | _ => none

def cA2 (x y : Operand) (f : XA → XA → XI) : Option XI := (cA x).bind fun x => (cA y).map fun y => f x y
def cAo : Option Operand → Option (Option XA)
  | none => some none
  | some x => (cA x).map some

def cParts (parts : List (Nat × Operand)) (pl : Nat → Option (Nat × Nat)) : Option (List (Nat × Nat × XA)) :=
  parts.mapM fun p => (pl p.1).bind fun q => (cA p.2).map fun x => (q.1, q.2, x)
def cParts1 (parts : List (Nat × Operand)) : Option (List (Nat × XA)) := parts.mapM fun p => (cA p.2).map fun x => (p.1, x)

def isNilS : Operand → Bool
  | .const (.slice none 0 0) => true
  | _ => false
def isZ : Operand → Bool
  | .const (.int _ 0) => true
  | _ => false
/-- A type's zero, as a value. -/
def tyZ (P : Program) (t : TypeId) : Option PV := ((P.info? t).bind (·.zero)).bind ofVal
/-- A key's type: is it a struct; the kinds of its cells. -/
def keyKs (P : Program) (t : TypeId) : Option (Bool × List PV) :=
  match P.underlying t with
  | some .bool => some (false, [.bool false])
  | some (.int k) => some (false, [.int k 0])
  | some .string => some (false, [.str []])
  | some (.struct _) => (scal P 20 t).map fun ks => (true, ks)
  | _ => none
def compMap (P : Program) (f : Bool → List PV → PV → Option XI) : TypeDesc → Option XI
  | .map key elem => (keyKs P key).bind fun q => (tyZ P elem).bind fun z => f q.1 q.2 z
  | _ => none
def compMv (P : Program) (ty : TypeId) (x : Operand) : Option XI := if isNilS x then (slElem P ty).map fun q => .nilrow q.1 q.2.1 else (cA x).map .mv
def compBuild (P : Program) (t : TypeId) (parts : List (Nat × Operand)) : TypeDesc → Option XI
  | .struct fs => (tyZero P t).bind fun z => (fs.toList.mapM fun (f : Field) => (tySize P f.type).map fun k => (f.offset, k)).bind fun pls => (cParts parts fun i => pls[i]?).map fun ps => .build z ps
  | .array _ e => (tyZero P t).bind fun z => (tySize P e).bind fun k => (cParts parts fun i => some (i * k, k)).map fun ps => .build z ps
  | _ => none
def compIndexA (P : Program) (x i : Operand) : TypeDesc → Option XI
  | .slice e => (tySize P e).bind fun k => if k = 0 then none else cA2 x i fun x i => .indexS k x i
  | .array len e => (tySize P e).bind fun k => if k = 0 then none else cA2 x i fun x i => .indexA k len x i
  | _ => none
def compFieldA (P : Program) (x : Operand) (f : Nat) : TypeDesc → Option XI
  | .struct fs => (fs[f]?).bind fun (f : Field) => (tySize P f.type).bind fun k => if k = 0 then none else (cA x).map fun x => .fieldA f.offset x
  | _ => none
def compField (P : Program) (x : Operand) (f : Nat) : TypeDesc → Option XI
  | .struct fs => (fs[f]?).bind fun (f : Field) => (cA x).bind fun x => (tyAgg P f.type).bind fun g =>
    if g then (tySize P f.type).map fun k => .fieldn f.offset k x else some (.field1 f.offset x)
  | _ => none
def compBin (P : Program) (t : TypeId) (x y : Operand) (op : BinOp) : TypeDesc → Option XI
  | .int _ => cA2 x y fun x y => .bin op x y
  | .string => cA2 x y fun x y => .bin op x y
  | .bool => if op = .eql then cA2 x y fun x y => .eqb false x y else if op = .neq then cA2 x y fun x y => .eqb true x y else none
  | .map _ _ => if op = .eql then cA2 x y fun x y => .eqm false x y else if op = .neq then cA2 x y fun x y => .eqm true x y else none
  | .pointer _ => if op = .eql then cA2 x y fun x y => .eqp false x y else if op = .neq then cA2 x y fun x y => .eqp true x y else none
  | .struct _ => (scal P 20 t).bind fun ks => if op = .eql then cA2 x y fun x y => .eqs false ks x y else if op = .neq then cA2 x y fun x y => .eqs true ks x y else none
  | _ => none
def compSlice (P : Program) (x : Operand) (lo hi : Option Operand) : TypeDesc → Option XI
  | .slice e => (tySize P e).bind fun k => if k = 0 then none else (cA x).bind fun x => (cAo lo).bind fun lo => (cAo hi).map fun hi => .sliceS k x lo hi
  | .string => (cA x).bind fun x => (cAo lo).bind fun lo => (cAo hi).map fun hi => .sliceT x lo hi
  | _ => none
def compSlice3 (P : Program) (x : Operand) (lo hi mx : Option Operand) : TypeDesc → Option XI
  | .slice e => (tySize P e).bind fun k => if k = 0 then none else
    match lo, hi, mx with
    | none, some h, some m => if isZ h && isZ m then (cA x).map fun x => .slice0 e k x else none
    | _, _, _ => none
  | _ => none
def compIndex (P : Program) (x i : Operand) : TypeDesc → Option XI
  | .string => cA2 x i .indexT
  | .array len e => (tySize P e).bind fun k => (tyAgg P e).bind fun g => cA2 x i fun x i => .indexV k len (!g) x i
  | _ => none
def compConv (x : Operand) : TypeDesc → TypeDesc → Option XI
  | .int _, .int k => (cA x).map fun x => .conv k x
  | _, _ => none
def compLen (x : Operand) : TypeDesc → Option XI
  | .slice _ => (cA x).map .lenS
  | .string => (cA x).map .lenT
  | .map _ _ => (cA x).map .lenM
  | _ => none
def compB (P : Program) : Builtin → List Operand → List TypeId → Option XI
  | .len, [x], [t] => (P.underlying t).bind (compLen x)
  | .max, [x, y], _ => cA2 x y .max2
  | .min, [x, y], _ => cA2 x y .min2
  | .append, [s, x], [t, u] => if t = u then (slElem P t).bind fun q => (tyZero P q.1).bind fun z => if z.length = q.2.1 then cA2 s x fun s x => .append q.1 q.2.1 q.2.2 s x else none else none
  | _, _, _ => none
def compCall (P : Program) (c : Call) : Option XI :=
  match c.callee with
  | .builtin bi => compB P bi c.args.toList c.argTypes.toList
  | .value (.func f) => (c.args.toList.mapM cA).map fun xs => .call f xs
  | .value (.tmp t) => (c.args.toList.mapM cA).map fun xs => .callv (.t t) xs
  | _ => none
def compFn (fn : Fn) (first caps : Array Operand) : Option XI :=
  match fn with
  | .func f => if first.isEmpty then (caps.toList.mapM cA).map fun cs => .mkfn f cs else none
  | _ => none
def compUn (op : UnOp) (x : Operand) : Option XI :=
  match op with
  | .not => (cA x).map .not
  | .neg => (cA x).map .neg
  | _ => none

def comp (P : Program) (o : Oper) : Option XI :=
  match o.op with
  | .move x => compMv P o.type x
  | .assign x => compMv P o.type x
  | .pick c a b => (cA c).bind fun c => cA2 a b fun a b => .pick c a b
  | .alloc T => (tyZero P T).map fun z => .alloc T z
  | .box T x => (tySize P T).bind fun k => (cA x).map fun x => .box T k x
  | .build t parts => (P.underlying t).bind (compBuild P t parts.toList)
  | .buildSlice t len parts => (slElem P t).bind fun q => (tyZero P q.1).bind fun z => if len * q.2.1 ≤ 2 ^ 24 then (cParts1 parts.toList).map fun ps => .mkrow q.1 q.2.1 len z ps else none
  | .load t x => (cA x).bind fun x => (tyAgg P t).bind fun g => if g then (tySize P t).map fun n => .loadn n x else some (.load1 x)
  | .store t x y => (tySize P t).bind fun n => cA2 x y fun x y => .store n x y
  | .nilCheck x => (cA x).map .nilck
  | .fieldAddr s x f => (P.underlying s).bind (compFieldA P x f)
  | .indexAddr t x i => (P.underlying t).bind (compIndexA P x i)
  | .field t x f => (P.underlying t).bind (compField P x f)
  | .index t x i => (P.underlying t).bind (compIndex P x i)
  | .binOp op t x y _ => (P.underlying t).bind (compBin P t x y op)
  | .unOp op _ x => compUn op x
  | .convert src dst x => (P.underlying src).bind fun d => (P.underlying dst).bind fun d' => compConv x d d'
  | .slice t x lo hi mx => if mx.isNone then (P.underlying t).bind (compSlice P x lo hi) else (P.underlying t).bind (compSlice3 P x lo hi mx)
  | .makeSlice t l c => (slElem P t).bind fun q => (tyZero P q.1).bind fun z => cA2 l c fun l c => .mkslice q.1 q.2.1 q.2.2 z l c
  | .makeMap t r => if r.isNone then some .mkmap else none
  | .lookup t x k okb => (P.underlying t).bind (compMap P fun g ks z => cA2 x k fun x k => .lookup g ks z okb x k)
  | .mapUpdate t x k v | .insert t x k v => (P.underlying t).bind (compMap P fun g ks _ => (cA v).bind fun v => cA2 x k fun x k => .mapUpd g ks x k v)
  | .mapEntry t x k => (P.underlying t).bind (compMap P fun g ks z => cA2 x k fun x k => .mapEnt g ks z x k)
  | .entryStore t x st v => (cA v).bind fun v => cA2 x st fun x st => .entSto x st v
  | .range t x => (P.underlying t).bind fun d => if d matches .map _ _ then (cA x).map .range else none
  | .entry x => (cA x).map .entry
  | .extract t i => (cA t).map fun x => .ext i x
  | .makeFunc fn first caps => compFn fn first caps
  | .call c => compCall P c
  | _ => none

/-- Is it no call of a function? -/
def XI.still : XI → Bool
  | .call .. | .callv .. | .next _ | .never | .appendL .. => false
  | _ => true

/-- Is j among the ancestors? -/
abbrev InA (j s : Nat) : Prop := s.testBit j = true

structure XOp where
  dst : Option Nat
  xi : XI
  guard : Option (Nat × Bool)
  anc : Nat
  bar : Bool
instance : Inhabited XOp := ⟨⟨none, default, none, 0, false⟩⟩

inductive XCode where
  | skip
  | reg (ops : List XOp)
  | regD (ops : List XOp)
  | seq (a b : XCode)
  | cond (c : XA) (a b : XCode)
  | block (i : Nat) (a : XCode)
  | loop (a : XCode)
  | rangeF (g : XA) (ps : List Nat) (a b : XCode)
  | exit (i : Nat)
  | ret
  | stop
instance : Inhabited XCode := ⟨.ret⟩

/-- Is there no range over a function in it? -/
def XCode.flat : XCode → Bool
  | .seq a b | .cond _ a b => a.flat && b.flat
  | .block _ a | .loop a => a.flat
  | .rangeF .. => false
  | _ => true

inductive XEx where
  | normal
  | exit (i : Nat)
  | ret

def upd {α : Type} (f : Nat → Option α) (i : Nat) (x : Option α) : Nat → Option α := fun j => if j = i then x else f j
theorem upd_same {α : Type} (f : Nat → Option α) (i : Nat) (x : Option α) : upd f i x i = x := by simp [upd]
theorem upd_other {α : Type} (f : Nat → Option α) {i j : Nat} (x : Option α) (h : j ≠ i) : upd f i x j = f j := by simp [upd, h]
theorem upd_at {α : Type} (f : Nat → Option α) (i j : Nat) (x : Option α) : upd f i x j = if j = i then x else f j := rfl

abbrev Env := Nat → Option PV
def putE (e : Env) : Option Nat → PV → Env
  | none, _ => e
  | some d, p => upd e d (some p)

/-! How code is turned. -/

/-- Does an operation touch objects; does it change some? -/
def XI.touch : XI → Bool
  | .mv _ | .pick .. | .build .. | .fieldA .. | .field1 .. | .fieldn .. | .indexT .. | .bin .. | .eqb .. | .eqp .. | .eqs .. | .not _ | .neg _ | .conv .. | .sliceT .. | .lenT _ | .lenS _ | .max2 .. | .min2 .. | .ext .. | .mkfn .. | .nilck _ | .eqm .. | .indexV .. | .never => false
  | _ => true
def XI.wr : XI → Bool
  | .store .. | .append .. | .appendL .. | .mapUpd .. | .mapEnt .. | .entSto .. => true
  | _ => false

/-- May it make an object? -/
def XI.mk : XI → Bool
  | .nilrow .. | .alloc .. | .box .. | .mkrow .. | .append .. | .appendL .. | .mkslice .. | .mkmap | .range _ | .slice0 .. | .call .. | .callv .. => true
  | _ => false
/-- What a row's append is, where the row is the region's own. -/
def XI.own : XI → XI
  | .append T k b s x => .appendL T k b s x
  | x => x

def guardOf (ops : Array Oper) : Option (Nat × Bool) → Option (Option (Nat × Bool))
  | none => some none
  | some (j, want) => ((ops[j]?).bind (·.dst)).map fun t => some (t, want)
def dstOk (n : Nat) : Option Nat → Bool
  | none => true
  | some d => decide (d < n)
/-- A call of a function, of a function value; all else. -/
def compX (P : Program) (o : Oper) : Option XI :=
  match o.op with
  | .call c => match c.callee with
    | .value (.func f) => (c.args.toList.mapM cA).map fun xs => .call f xs
    | .value (.tmp t) => (c.args.toList.mapM cA).map fun xs => .callv (.t t) xs
    | _ => (comp P o).bind fun x => if x.still then some x else none
  | .next x s => if s then none else (cA x).map .next
  | _ => (comp P o).bind fun x => if x.still then some x else none

def compOp (P : Program) (n : Nat) (ops : Array Oper) (o : Oper) : Option XOp :=
  (guardOf ops o.guard).bind fun g => if dstOk n o.dst then some { dst := o.dst, xi := (compX P o).getD .never, guard := g, anc := 0, bar := true } else none

/-- The order of a region: each operation's ancestors; which are ordered with all that touch objects. -/
def orders (ops : Array Oper) (l : List XOp) : List XOp :=
  let bs := Region.before ops
  let tb := l.zipIdx.foldl (fun s (x, i) => if x.xi.touch then s ||| 2 ^ i else s) 0
  let de := fun i => l.zipIdx.foldl (fun s (_, j) => if (bs.getD j 0).testBit i then s ||| 2 ^ j else s) 0
  l.zipIdx.map fun (x, i) =>
    let an := bs.getD i 0
    let br := x.xi.touch && ((an ||| de i ||| 2 ^ i) &&& tb) == tb
    { x with anc := an, bar := br, xi := if br then x.xi else x.xi.own }

def XA.slots : XA → List Nat
  | .t n => [n]
  | .c _ => []
def slotsO : Option XA → List Nat
  | none => []
  | some x => x.slots
def slotsL (l : List XA) : List Nat := l.flatMap XA.slots
def XI.slots : XI → List Nat
  | .mv x | .box _ _ x | .load1 x | .loadn _ x | .nilck x | .fieldA _ x | .field1 _ x | .fieldn _ _ x | .not x | .neg x | .conv _ x | .lenT x | .lenS x | .ext _ x | .lenM x | .range x | .entry x | .slice0 _ _ x | .next x => x.slots
  | .nilrow _ _ | .alloc _ _ | .mkmap | .never => []
  | .pick c a b => c.slots ++ a.slots ++ b.slots
  | .build _ ps => slotsL (ps.map (·.2.2))
  | .mkrow _ _ _ _ ps => slotsL (ps.map (·.2))
  | .store _ x y | .indexS _ x y | .indexA _ _ x y | .indexT x y | .bin _ x y | .eqb _ x y | .eqp _ x y | .eqs _ _ x y | .max2 x y | .min2 x y | .append _ _ _ x y | .appendL _ _ _ x y | .mkslice _ _ _ _ x y | .lookup _ _ _ _ x y | .mapEnt _ _ _ x y | .eqm _ x y | .indexV _ _ _ x y => x.slots ++ y.slots
  | .mapUpd _ _ c a b | .entSto c a b => c.slots ++ a.slots ++ b.slots
  | .slice3 _ x lo hi mx => x.slots ++ slotsO lo ++ slotsO hi ++ mx.slots
  | .sliceT x lo hi | .sliceS _ x lo hi => x.slots ++ slotsO lo ++ slotsO hi
  | .mkfn _ cs => slotsL cs
  | .call _ cs => slotsL cs
  | .callv f cs => f.slots ++ slotsL cs

def looks (X : XOp) : List Nat := X.xi.slots ++ (match X.guard with | some (t, _) => [t] | none => [])

def ancOf (xs : List XOp) (j : Nat) : Nat :=
  match xs[j]? with
  | some Y => Y.anc
  | none => 0
def ancEdges (o : Oper) (xs : List XOp) : Nat := o.after.toList.foldl (fun s ed => if Region.binds .any ed then s ||| (2 ^ ed.on ||| ancOf xs ed.on) else s) 0
/-- The operations that may make an object. -/
def mks (xs : List XOp) : Nat := xs.zipIdx.foldl (fun s (x, i) => if x.xi.mk then s ||| 2 ^ i else s) 0
def XI.isL : XI → Bool
  | .appendL .. => true
  | _ => false
def okLoc (mk i j : Nat) (X Y : XOp) : Bool := !X.xi.isL || !Y.xi.touch || X.anc &&& Y.anc &&& mk == 0 || X.anc.testBit j || Y.anc.testBit i
def okPair (i j : Nat) (X Y : XOp) : Bool :=
  (match Y.dst with
   | none => true
   | some t => decide (X.dst ≠ some t) && (!(looks X).contains t || (decide (j < i) && X.anc.testBit j) || (decide (i < j) && Y.anc.testBit i))) &&
  (!X.bar || !X.xi.touch || !Y.xi.touch || X.anc.testBit j || Y.anc.testBit i)
def okAt (ops : Array Oper) (xs : List XOp) (i : Nat) (X : XOp) (o : Oper) : Bool :=
  o.after.toList.all (fun ed => !Region.binds .any ed || decide (ed.on < i)) && X.anc == ancEdges o xs && (!X.xi.wr || X.bar || X.xi.isL) && (xs.zipIdx.all fun (Y, j) => i == j || okLoc (mks xs) i j X Y) && !(X.xi matches .next _) && xs.zipIdx.all fun (Y, j) => i == j || okPair i j X Y
def okD (ops : Array Oper) (xs : List XOp) : Bool :=
  xs.length == ops.size && (xs.zip ops.toList).zipIdx.all fun ((X, o), i) => okAt ops xs i X o

def compC (P : Program) (n : Nat) : Code → Option XCode
  | .skip => some .skip
  | .region _ ops d => (ops.toList.mapM (compOp P n ops)).bind fun l =>
    if d then if okD ops (orders ops l) then some (.regD (orders ops l)) else some .stop else some (.reg l)
  | .seq a b => (compC P n a).bind fun x => (compC P n b).map fun y => .seq x y
  | .cond c a b => (cA c).bind fun c => (compC P n a).bind fun x => (compC P n b).map fun y => .cond c x y
  | .block i a => (compC P n a).map fun x => .block i x
  | .loop a => (compC P n a).map .loop
  | .rangeFunc g ps a b => if ps.toList.all (fun t => decide (t < n)) then (cA g).bind fun g => (compC P n a).bind fun x => (compC P n b).map fun y => .rangeF g ps.toList x y else some .stop
  | .exit i => some (.exit i)
  | .ret => some .ret
  | _ => some .stop

end Go.Vx
