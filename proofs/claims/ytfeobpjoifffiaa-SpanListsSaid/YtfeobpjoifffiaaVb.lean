/- The engine, part 2: operations over pure values, and how the model's operations are turned into them. -/
import Derived.Test.YtfeobpjoifffiaaVa
set_option linter.unusedVariables false
set_option linter.unusedSimpArgs false
namespace Go.Vx
open Go Go.RowKit

/-- An operand: a slot, or a constant. -/
inductive XA where
  | t (n : Nat)
  | c (p : PV)
instance : Inhabited XA := ⟨.t 0⟩

def XA.ev (e : Nat → Option PV) : XA → Option PV
  | .t n => e n
  | .c p => some p

inductive XI where
  | mv (x : XA)
  | nilrow (T k : Nat)
  | pick (c a b : XA)
  | alloc (T : Nat) (z : List PV)
  | box (T k : Nat) (x : XA)
  | build (z : List PV) (parts : List (Nat × Nat × XA))
  | mkrow (T k len : Nat) (z : List PV) (parts : List (Nat × XA))
  | load1 (x : XA)
  | loadn (n : Nat) (x : XA)
  | store (n : Nat) (x y : XA)
  | nilck (x : XA)
  | fieldA (off : Nat) (x : XA)
  | indexS (k : Nat) (x i : XA)
  | indexA (k len : Nat) (x i : XA)
  | field1 (off : Nat) (x : XA)
  | fieldn (off n : Nat) (x : XA)
  | indexT (x i : XA)
  | bin (op : BinOp) (x y : XA)
  | eqb (neg : Bool) (x y : XA)
  | eqp (neg : Bool) (x y : XA)
  | eqs (neg : Bool) (ks : List PV) (x y : XA)
  | not (x : XA)
  | neg (x : XA)
  | conv (k : IntKind) (x : XA)
  | sliceT (x : XA) (lo hi : Option XA)
  | sliceS (k : Nat) (x : XA) (lo hi : Option XA)
  | lenT (x : XA)
  | lenS (x : XA)
  | max2 (x y : XA)
  | min2 (x y : XA)
  | append (T k bytes : Nat) (s x : XA)
  | mkslice (T k bytes : Nat) (z : List PV) (l c : XA)
  | ext (i : Nat) (x : XA)
  | mkfn (f : Nat) (caps : List XA)
  | call (f : Nat) (args : List XA)
  | callv (f : XA) (args : List XA)
instance : Inhabited XI := ⟨.mv (.t 0)⟩

def ofVal1 : Value → Option PV
  | .bool b => some (.bool b)
  | .int k n => some (.int k n)
  | .string s => some (.str s.data.toList)
  | .pointer none => some .nilp
  | .slice none 0 0 => some (.sl [])
  | .map none => some .nilm
  | .nilFunc => some .nilf
  | _ => none
def ofVal : Value → Option PV
  | .agg cs => (cs.toList.mapM ofVal1).map .agg
  | v => ofVal1 v

def cA : Operand → Option XA
  | .tmp t => some (.t t)
  | .const v => (ofVal v).map .c
  | .func f => some (.c (.fn f []))
  | .global _ => none

def tySize (P : Program) (t : TypeId) : Option Nat := (P.info? t).map (·.size)
def tyAgg (P : Program) (t : TypeId) : Option Bool :=
  match P.underlying t with
  | some (.struct _) | some (.array _ _) => some true
  | some _ => some false
  | none => none
def tyZero (P : Program) (t : TypeId) : Option (List PV) := ((P.info? t).bind (·.zero)).bind fun v => v.cells.toList.mapM ofVal1

/-- The element type of a slice type, its cells, its bytes. -/
def slElem (P : Program) (t : TypeId) : Option (TypeId × Nat × Nat) :=
  match P.underlying t with
  | some (.slice e) => (P.info? e).bind fun i => if 0 < i.size ∧ 0 < i.bytes then some (e, i.size, i.bytes) else none
  | _ => none

/-- The kinds of a type's cells, where each can be compared by itself (whole numbers, bools, strings). -/
def scalFs (P : Program) (rec : TypeId → Option (List PV)) : Nat → List Field → Option (List PV)
  | _, [] => some []
  | off, f :: fs => if f.name = "_" ∨ f.offset ≠ off then none else (rec f.type).bind fun ks =>
    if tySize P f.type = some ks.length then (scalFs P rec (off + ks.length) fs).map (ks ++ ·) else none
def scal (P : Program) : Nat → TypeId → Option (List PV)
  | 0, _ => none
  | d + 1, t =>
    match P.underlying t with
    | some .bool => some [.bool false]
    | some (.int k) => some [.int k 0]
    | some .string => some [.str []]
    | some (.struct fs) => if P.stoodInHeld t = true ∨ P.eqGuardType P.depth t = true then none else scalFs P (scal P d) 0 fs.toList
    | _ => none

def cA2 (x y : Operand) (f : XA → XA → XI) : Option XI := (cA x).bind fun x => (cA y).map fun y => f x y
def cAo : Option Operand → Option (Option XA)
  | none => some none
  | some x => (cA x).map some

def cParts (parts : List (Nat × Operand)) (pl : Nat → Option (Nat × Nat)) : Option (List (Nat × Nat × XA)) :=
  parts.mapM fun p => (pl p.1).bind fun q => (cA p.2).map fun x => (q.1, q.2, x)
def cParts1 (parts : List (Nat × Operand)) : Option (List (Nat × XA)) := parts.mapM fun p => (cA p.2).map fun x => (p.1, x)

def isNilS : Operand → Bool
  | .const (.slice none 0 0) => true
  | _ => false
def compMv (P : Program) (ty : TypeId) (x : Operand) : Option XI := if isNilS x then (slElem P ty).map fun q => .nilrow q.1 q.2.1 else (cA x).map .mv
def compBuild (P : Program) (t : TypeId) (parts : List (Nat × Operand)) : TypeDesc → Option XI
  | .struct fs => (tyZero P t).bind fun z => (fs.toList.mapM fun (f : Field) => (tySize P f.type).map fun k => (f.offset, k)).bind fun pls => (cParts parts fun i => pls[i]?).map fun ps => .build z ps
  | .array _ e => (tyZero P t).bind fun z => (tySize P e).bind fun k => (cParts parts fun i => some (i * k, k)).map fun ps => .build z ps
  | _ => none
def compIndexA (P : Program) (x i : Operand) : TypeDesc → Option XI
  | .slice e => (tySize P e).bind fun k => if k = 0 then none else cA2 x i fun x i => .indexS k x i
  | .array len e => (tySize P e).bind fun k => if k = 0 then none else cA2 x i fun x i => .indexA k len x i
  | _ => none
def compFieldA (P : Program) (x : Operand) (f : Nat) : TypeDesc → Option XI
  | .struct fs => (fs[f]?).bind fun (f : Field) => (tySize P f.type).bind fun k => if k = 0 then none else (cA x).map fun x => .fieldA f.offset x
  | _ => none
def compField (P : Program) (x : Operand) (f : Nat) : TypeDesc → Option XI
  | .struct fs => (fs[f]?).bind fun (f : Field) => (cA x).bind fun x => (tyAgg P f.type).bind fun g =>
    if g then (tySize P f.type).map fun k => .fieldn f.offset k x else some (.field1 f.offset x)
  | _ => none
def compBin (P : Program) (t : TypeId) (x y : Operand) (op : BinOp) : TypeDesc → Option XI
  | .int _ => cA2 x y fun x y => .bin op x y
  | .string => cA2 x y fun x y => .bin op x y
  | .bool => if op = .eql then cA2 x y fun x y => .eqb false x y else if op = .neq then cA2 x y fun x y => .eqb true x y else none
  | .pointer _ => if op = .eql then cA2 x y fun x y => .eqp false x y else if op = .neq then cA2 x y fun x y => .eqp true x y else none
  | .struct _ => (scal P 20 t).bind fun ks => if op = .eql then cA2 x y fun x y => .eqs false ks x y else if op = .neq then cA2 x y fun x y => .eqs true ks x y else none
  | _ => none
def compSlice (P : Program) (x : Operand) (lo hi : Option Operand) : TypeDesc → Option XI
  | .slice e => (tySize P e).bind fun k => if k = 0 then none else (cA x).bind fun x => (cAo lo).bind fun lo => (cAo hi).map fun hi => .sliceS k x lo hi
  | .string => (cA x).bind fun x => (cAo lo).bind fun lo => (cAo hi).map fun hi => .sliceT x lo hi
  | _ => none
def compConv (x : Operand) : TypeDesc → TypeDesc → Option XI
  | .int _, .int k => (cA x).map fun x => .conv k x
  | _, _ => none
def compLen (x : Operand) : TypeDesc → Option XI
  | .slice _ => (cA x).map .lenS
  | .string => (cA x).map .lenT
  | _ => none
def compB (P : Program) : Builtin → List Operand → List TypeId → Option XI
  | .len, [x], [t] => (P.underlying t).bind (compLen x)
  | .max, [x, y], _ => cA2 x y .max2
  | .min, [x, y], _ => cA2 x y .min2
  | .append, [s, x], [t, u] => if t = u then (slElem P t).bind fun q => (tyZero P q.1).bind fun z => if z.length = q.2.1 then cA2 s x fun s x => .append q.1 q.2.1 q.2.2 s x else none else none
  | _, _, _ => none
def compCall (P : Program) (c : Call) : Option XI :=
  match c.callee with
  | .builtin bi => compB P bi c.args.toList c.argTypes.toList
  | .value (.func f) => (c.args.toList.mapM cA).map fun xs => .call f xs
  | .value (.tmp t) => (c.args.toList.mapM cA).map fun xs => .callv (.t t) xs
  | _ => none
def compFn (fn : Fn) (first caps : Array Operand) : Option XI :=
  match fn with
  | .func f => if first.isEmpty then (caps.toList.mapM cA).map fun cs => .mkfn f cs else none
  | _ => none
def compUn (op : UnOp) (x : Operand) : Option XI :=
  match op with
  | .not => (cA x).map .not
  | .neg => (cA x).map .neg
  | _ => none

def comp (P : Program) (o : Oper) : Option XI :=
  match o.op with
  | .move x => compMv P o.type x
  | .assign x => compMv P o.type x
  | .pick c a b => (cA c).bind fun c => cA2 a b fun a b => .pick c a b
  | .alloc T => (tyZero P T).map fun z => .alloc T z
  | .box T x => (tySize P T).bind fun k => (cA x).map fun x => .box T k x
  | .build t parts => (P.underlying t).bind (compBuild P t parts.toList)
  | .buildSlice t len parts => (slElem P t).bind fun q => (tyZero P q.1).bind fun z => if len * q.2.1 ≤ 2 ^ 24 then (cParts1 parts.toList).map fun ps => .mkrow q.1 q.2.1 len z ps else none
  | .load t x => (cA x).bind fun x => (tyAgg P t).bind fun g => if g then (tySize P t).map fun n => .loadn n x else some (.load1 x)
  | .store t x y => (tySize P t).bind fun n => cA2 x y fun x y => .store n x y
  | .nilCheck x => (cA x).map .nilck
  | .fieldAddr s x f => (P.underlying s).bind (compFieldA P x f)
  | .indexAddr t x i => (P.underlying t).bind (compIndexA P x i)
  | .field t x f => (P.underlying t).bind (compField P x f)
  | .index t x i => (P.underlying t).bind fun d => if d matches .string then cA2 x i .indexT else none
  | .binOp op t x y _ => (P.underlying t).bind (compBin P t x y op)
  | .unOp op _ x => compUn op x
  | .convert src dst x => (P.underlying src).bind fun d => (P.underlying dst).bind fun d' => compConv x d d'
  | .slice t x lo hi mx => if mx.isNone then (P.underlying t).bind (compSlice P x lo hi) else none
  | .makeSlice t l c => (slElem P t).bind fun q => (tyZero P q.1).bind fun z => cA2 l c fun l c => .mkslice q.1 q.2.1 q.2.2 z l c
  | .extract t i => (cA t).map fun x => .ext i x
  | .makeFunc fn first caps => compFn fn first caps
  | .call c => compCall P c
  | _ => none

def PV.nt : PV → Bool
  | .tup _ => false
  | _ => true

def splice (cs : List PV) (j : Nat) (ps : List PV) : List PV := cs.take j ++ ps ++ cs.drop (j + ps.length)

/-- What can be read as a value that stays; the rows that it names must be frozen (strict), or may be not. -/
def pur (strict : Bool) (m : Mem) : PV → Option PV
  | .osl id n => match m id with
    | some (.row _ xs _ fz) => if n ≤ xs.length ∧ (strict = true → fz = true) then some (.sl (xs.take n)) else none
    | _ => none
  | .ptr .. | .map _ | .agg _ | .tup _ => none
  | .fn f cs => if cs.isEmpty then some (.fn f []) else none
  | p => some p
def purA (strict : Bool) (m : Mem) : PV → Option PV
  | .agg cs => (cs.mapM (pur strict m)).map .agg
  | p => pur strict m p

def rd (m : Mem) (n : Nat) : PV → Option (List PV)
  | .ptr id k i j => match m id with
    | some (.row k' xs _ _) => if k' = k then (xs[i]?).bind fun x => if j + n ≤ x.length then some ((x.drop j).take n) else none else none
    | some (.box cs _) => if i = 0 ∧ j + n ≤ cs.length then some ((cs.drop j).take n) else none
    | _ => none
  | .cptr cs => if n ≤ cs.length then some (cs.take n) else none
  | _ => none

def head1 : List PV → Option PV
  | [c] => some c
  | _ => none

abbrev Delta := List (Nat × Option Obj)
def Mem.upds (m : Mem) (d : Delta) : Mem := d.foldl (fun m x => upd m x.1 x.2) m

def intOp (op : BinOp) (k : IntKind) (a b : Int) : Option PV :=
  match op with
  | .add => some (.int k (k.wrap (a + b)))
  | .sub => some (.int k (k.wrap (a - b)))
  | .mul => some (.int k (k.wrap (a * b)))
  | .quo => if b ≠ 0 then some (.int k (k.wrap (a.tdiv b))) else none
  | .rem => if b ≠ 0 then some (.int k (a.tmod b)) else none
  | .eql => some (.bool (decide (a = b)))
  | .neq => some (.bool (decide (a ≠ b)))
  | .lss => some (.bool (decide (a < b)))
  | .leq => some (.bool (decide (a ≤ b)))
  | .gtr => some (.bool (decide (b < a)))
  | .geq => some (.bool (decide (b ≤ a)))
  | .and => some (.int k (k.wrap (BitVec.ofInt k.bits a &&& BitVec.ofInt k.bits b).toNat))
  | .or => some (.int k (k.wrap (BitVec.ofInt k.bits a ||| BitVec.ofInt k.bits b).toNat))
  | .xor => some (.int k (k.wrap (BitVec.ofInt k.bits a ^^^ BitVec.ofInt k.bits b).toNat))
  | .andNot => some (.int k (k.wrap (BitVec.ofInt k.bits a &&& ~~~BitVec.ofInt k.bits b).toNat))
  | _ => none

def shOp (op : BinOp) (k : IntKind) (a b : Int) : Option PV :=
  match op with
  | .shl => if 0 ≤ b then some (.int k (k.wrap (a * 2 ^ (min b.toNat k.bits)))) else none
  | .shr => if 0 ≤ b then some (.int k (a.fdiv (2 ^ (min b.toNat k.bits)))) else none
  | _ => none

def strOp (op : BinOp) (s t : List UInt8) : Option PV :=
  match op with
  | .add => if ((s.length + t.length : Nat) : Int) ≤ IntKind.i64.max then some (.str (s ++ t)) else none
  | .eql => some (.bool (decide (s = t)))
  | .neq => some (.bool (decide (s ≠ t)))
  | .lss => some (.bool (Op.bytesLess s t))
  | .leq => some (.bool (Op.bytesLess s t || decide (s = t)))
  | .gtr => some (.bool (!(Op.bytesLess s t || decide (s = t))))
  | .geq => some (.bool (!Op.bytesLess s t))
  | _ => none

def binF (op : BinOp) : PV → PV → Option PV
  | .int k a, .int k' b =>
    match op with
    | .shl | .shr => shOp op k a b
    | _ => if k = k' then intOp op k a b else none
  | .str s, .str t => strOp op s t
  | _, _ => none

/-- Are cells of scalar kinds the same? -/
def eq1 : PV → PV → PV → Option Bool
  | .bool _, .bool a, .bool b => some (decide (a = b))
  | .int k _, .int k1 a, .int k2 b => if k1 = k ∧ k2 = k then some (decide (a = b)) else none
  | .str _, .str a, .str b => some (decide (a = b))
  | _, _, _ => none
def eqCells : List PV → List PV → List PV → Option Bool
  | [], [], [] => some true
  | k :: ks, c :: cs, d :: ds => (eq1 k c d).bind fun x => (eqCells ks cs ds).bind fun r => some (x && r)
  | _, _, _ => none

def idx (i : PV) : Option Nat :=
  match i with
  | .int _ n => if 0 ≤ n then some n.toNat else none
  | _ => none
def idxo (d : Nat) (e : Nat → Option PV) : Option XA → Option Nat
  | none => some d
  | some x => (x.ev e).bind idx

/-- The elements of what is appended. -/
def elems (m : Mem) : PV → Option (List (List PV))
  | .osl id n => match m id with
    | some (.row _ ys _ _) => if n ≤ ys.length then some (ys.take n) else none
    | _ => none
  | .sl ys => some ys
  | _ => none

def fillP (e : Nat → Option PV) : List PV → List (Nat × Nat × XA) → Option (List PV)
  | z, [] => some z
  | z, (off, n, x) :: r => (x.ev e).bind fun p => if p.cells.length = n ∧ off + n ≤ z.length ∧ p.nt = true then fillP e (splice z off p.cells) r else none

def fillR (e : Nat → Option PV) (m : Mem) (k : Nat) : List (List PV) → List (Nat × XA) → Option (List (List PV))
  | xs, [] => some xs
  | xs, (i, x) :: r => (x.ev e).bind fun p => (purA true m p).bind fun q => if q.cells.length = k ∧ i < xs.length then fillR e m k (xs.set i q.cells) r else none

def vopEqs (neg : Bool) (ks : List PV) : PV → PV → Option (PV × Delta)
  | .agg cs, .agg ds => (eqCells ks cs ds).bind fun r => some (.bool (if neg then !r else r), [])
  | _, _ => none

/-- What an operation gives, and what it does to memory; b: the number that a new object takes. -/
def vopF (x : XI) (e : Nat → Option PV) (m : Mem) (b : Nat) : Option (PV × Delta) :=
  match x with
  | .mv x => (x.ev e).bind fun p => some (p, [])
  | .nilrow T k => some (.osl b 0, [(b, some (.row k [] T false))])
  | .pick c x y => (c.ev e).bind fun
    | .bool t => ((if t then x else y).ev e).bind fun p => some (p, [])
    | _ => none
  | .alloc T z => some (.ptr b z.length 0 0, [(b, some (.box z T))])
  | .box T k x => (x.ev e).bind fun p => if p.cells.length = k ∧ p.nt = true then some (.ptr b k 0 0, [(b, some (.box p.cells T))]) else none
  | .build z ps => (fillP e z ps).bind fun cs => some (.agg cs, [])
  | .mkrow T k len z ps => if z.length = k then (fillR e m k (List.replicate len z) ps).bind fun xs => some (.osl b len, [(b, some (.row k xs T false))]) else none
  | .load1 x => (x.ev e).bind fun p => (rd m 1 p).bind fun cs => (head1 cs).bind fun c => some (c, [])
  | .loadn n x => (x.ev e).bind fun p => (rd m n p).bind fun cs => some (.agg cs, [])
  | .store n x y => (x.ev e).bind fun p => (y.ev e).bind fun q =>
    match p with
    | .ptr id k i j =>
      match m id with
      | some (.box cs T) => if q.cells.length = n ∧ i = 0 ∧ j + n ≤ cs.length ∧ q.nt = true then some (.tup [], [(id, some (.box (splice cs j q.cells) T))]) else none
      | some (.row k' xs T false) => (purA true m q).bind fun q => (xs[i]?).bind fun r =>
        if q.cells.length = n ∧ k' = k ∧ j + n ≤ k then some (.tup [], [(id, some (.row k' (xs.set i (splice r j q.cells)) T false))]) else none
      | _ => none
    | _ => none
  | .nilck x => (x.ev e).bind fun
    | .ptr id k i j => some (.ptr id k i j, [])
    | .cptr cs => some (.cptr cs, [])
    | .fn f cs => some (.fn f cs, [])
    | _ => none
  | .fieldA off x => (x.ev e).bind fun
    | .ptr id k i j => some (.ptr id k i (j + off), [])
    | .cptr cs => some (.cptr (cs.drop off), [])
    | _ => none
  | .indexS k x i => (x.ev e).bind fun p => (i.ev e).bind fun q => (idx q).bind fun i =>
    match p with
    | .sl xs => (xs[i]?).bind fun c => if c.length = k then some (.cptr c, []) else none
    | .osl id n => match m id with
      | some (.row k' xs _ _) => if k' = k ∧ i < n ∧ n ≤ xs.length then some (.ptr id k i 0, []) else none
      | _ => none
    | _ => none
  | .indexA k len x i => (x.ev e).bind fun p => (i.ev e).bind fun q => (idx q).bind fun i => if i < len then
    match p with
    | .ptr id K i0 j => some (.ptr id K i0 (j + i * k), [])
    | .cptr cs => some (.cptr (cs.drop (i * k)), [])
    | _ => none
    else none
  | .field1 off x => (x.ev e).bind fun
    | .agg cs => (cs[off]?).bind fun c => some (c, [])
    | _ => none
  | .fieldn off n x => (x.ev e).bind fun
    | .agg cs => if off + n ≤ cs.length then some (.agg ((cs.drop off).take n), []) else none
    | _ => none
  | .indexT x i => (x.ev e).bind fun p => (i.ev e).bind fun q => (idx q).bind fun i =>
    match p with
    | .str s => (s[i]?).bind fun c => some (.int .u8 c.toNat, [])
    | _ => none
  | .bin op x y => (x.ev e).bind fun p => (y.ev e).bind fun q => (binF op p q).bind fun r => some (r, [])
  | .eqb neg x y => (x.ev e).bind fun p => (y.ev e).bind fun q =>
    match p, q with
    | .bool a, .bool b => some (.bool (if neg then decide (a ≠ b) else decide (a = b)), [])
    | _, _ => none
  | .eqp neg x y => (x.ev e).bind fun p => (y.ev e).bind fun q =>
    match p, q with
    | .nilp, .nilp => some (.bool (!neg), [])
    | .nilp, .ptr .. | .ptr .., .nilp | .nilp, .cptr _ | .cptr _, .nilp => some (.bool neg, [])
    | _, _ => none
  | .eqs neg ks x y => (x.ev e).bind fun p => (y.ev e).bind fun q => vopEqs neg ks p q
  | .not x => (x.ev e).bind fun
    | .bool b => some (.bool (!b), [])
    | _ => none
  | .neg x => (x.ev e).bind fun
    | .int k n => some (.int k (k.wrap (0 - n)), [])
    | _ => none
  | .conv k x => (x.ev e).bind fun
    | .int _ n => some (.int k (k.wrap n), [])
    | _ => none
  | .sliceT x lo hi => (x.ev e).bind fun p =>
    match p with
    | .str s => (idxo s.length e hi).bind fun h => (idxo 0 e lo).bind fun l => if l ≤ h ∧ h ≤ s.length then some (.str ((s.take h).drop l), []) else none
    | _ => none
  | .sliceS k x lo hi => (x.ev e).bind fun p =>
    match p with
    | .osl id n => (idxo n e hi).bind fun h => (idxo 0 e lo).bind fun l =>
      if l = 0 ∧ h ≤ n then some (.osl id h, []) else
      (pur true m p).bind fun
      | .sl xs => if l ≤ h ∧ h ≤ xs.length ∧ ∀ x ∈ xs, x.length = k then some (.sl ((xs.take h).drop l), []) else none
      | _ => none
    | .sl xs => (idxo xs.length e hi).bind fun h => (idxo 0 e lo).bind fun l =>
      if l = 0 ∧ h ≤ xs.length then some (.sl (xs.take h), []) else
      if l ≤ h ∧ h ≤ xs.length ∧ ∀ x ∈ xs, x.length = k then some (.sl ((xs.take h).drop l), []) else none
    | _ => none
  | .lenT x => (x.ev e).bind fun
    | .str s => some (.int .i64 s.length, [])
    | _ => none
  | .lenS x => (x.ev e).bind fun
    | .sl xs => some (.int .i64 xs.length, [])
    | .osl _ n => some (.int .i64 n, [])
    | _ => none
  | .max2 x y => (x.ev e).bind fun p => (y.ev e).bind fun q =>
    match p, q with
    | .int k a, .int _ b => some (.int k (max a b), [])
    | _, _ => none
  | .min2 x y => (x.ev e).bind fun p => (y.ev e).bind fun q =>
    match p, q with
    | .int k a, .int _ b => some (.int k (min a b), [])
    | _, _ => none
  | .append T k bytes s x => (s.ev e).bind fun p => (x.ev e).bind fun q => (elems m q).bind fun ys =>
    match p with
    | .osl id n => match m id with
      | some (.row k' xs T' false) => if k' = k ∧ T' = T ∧ n = xs.length ∧ (∀ y ∈ ys, y.length = k) ∧ (n + ys.length) * bytes ≤ 140737488355328 then
          some (.osl b (n + ys.length), [(id, none), (b, some (.row k (xs ++ ys) T false))]) else none
      | _ => none
    | _ => none
  | .mkslice T k bytes z l c => (l.ev e).bind fun p => (c.ev e).bind fun q => (idx p).bind fun l => (idx q).bind fun c =>
    if z.length = k ∧ l ≤ c ∧ c * bytes ≤ 281474976710656 ∧ c ≤ maxLen then some (.osl b l, [(b, some (.row k (List.replicate l z) T false))]) else none
  | .ext i x => (x.ev e).bind fun
    | .tup vs => (vs[i]?).bind fun p => some (p, [])
    | _ => none
  | .mkfn f cs => (cs.mapM fun (x : XA) => x.ev e).bind fun ps => some (.fn f ps, [])
  | .call .. | .callv .. => none

end Go.Vx
