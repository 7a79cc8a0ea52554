/- The engine, part 2: operations over pure values, and how the model's operations are turned into them. -/
import Derived.Test.YtgkkffhoflgpoaaVa
set_option linter.unusedVariables false
set_option linter.unusedSimpArgs false
namespace Go.Vx
open Go Go.RowKit

def PV.nt : PV → Bool
  | .tup _ => false
  | _ => true

def splice (cs : List PV) (j : Nat) (ps : List PV) : List PV := cs.take j ++ ps ++ cs.drop (j + ps.length)

/-- What can be read as a value that stays; the rows that it names must be frozen (strict), or may be not. -/
def pur (strict : Bool) (m : Mem) : PV → Option PV
  | .osl id n => match m id with
    | some (.row _ xs _ fz) => if n ≤ xs.length ∧ (strict = true → fz = true) then some (.sl (xs.take n)) else none
    | _ => none
  | .ptr .. | .map _ | .agg _ | .tup _ | .yld _ => none
  | .nsl => some (.sl [])
  | .fn f cs => if cs.isEmpty then some (.fn f []) else none
  | p => some p
def purA (strict : Bool) (m : Mem) : PV → Option PV
  | .agg cs => (cs.mapM (pur strict m)).map .agg
  | p => pur strict m p

def rd (m : Mem) (n : Nat) : PV → Option (List PV)
  | .ptr id k i j => match m id with
    | some (.row k' xs _ _) => if k' = k then (xs[i]?).bind fun x => if j + n ≤ x.length then some ((x.drop j).take n) else none else none
    | some (.box cs _) => if i = 0 ∧ j + n ≤ cs.length then some ((cs.drop j).take n) else none
    | _ => none
  | .cptr cs => if n ≤ cs.length then some (cs.take n) else none
  | _ => none

def head1 : List PV → Option PV
  | [c] => some c
  | _ => none

abbrev Delta := List (Nat × Option Obj)
def Mem.upds (m : Mem) (d : Delta) : Mem := d.foldl (fun m x => upd m x.1 x.2) m

def intOp (op : BinOp) (k : IntKind) (a b : Int) : Option PV :=
  match op with
  | .add => some (.int k (k.wrap (a + b)))
  | .sub => some (.int k (k.wrap (a - b)))
  | .mul => some (.int k (k.wrap (a * b)))
  | .quo => if b ≠ 0 then some (.int k (k.wrap (a.tdiv b))) else none
  | .rem => if b ≠ 0 then some (.int k (a.tmod b)) else none
  | .eql => some (.bool (decide (a = b)))
  | .neq => some (.bool (decide (a ≠ b)))
  | .lss => some (.bool (decide (a < b)))
  | .leq => some (.bool (decide (a ≤ b)))
  | .gtr => some (.bool (decide (b < a)))
  | .geq => some (.bool (decide (b ≤ a)))
  | .and => some (.int k (k.wrap (BitVec.ofInt k.bits a &&& BitVec.ofInt k.bits b).toNat))
  | .or => some (.int k (k.wrap (BitVec.ofInt k.bits a ||| BitVec.ofInt k.bits b).toNat))
  | .xor => some (.int k (k.wrap (BitVec.ofInt k.bits a ^^^ BitVec.ofInt k.bits b).toNat))
  | .andNot => some (.int k (k.wrap (BitVec.ofInt k.bits a &&& ~~~BitVec.ofInt k.bits b).toNat))
  | _ => none

def shOp (op : BinOp) (k : IntKind) (a b : Int) : Option PV :=
  match op with
  | .shl => if 0 ≤ b then some (.int k (k.wrap (a * 2 ^ (min b.toNat k.bits)))) else none
  | .shr => if 0 ≤ b then some (.int k (a.fdiv (2 ^ (min b.toNat k.bits)))) else none
  | _ => none

def strOp (op : BinOp) (s t : List UInt8) : Option PV :=
  match op with
  | .add => if ((s.length + t.length : Nat) : Int) ≤ IntKind.i64.max then some (.str (s ++ t)) else none
  | .eql => some (.bool (decide (s = t)))
  | .neq => some (.bool (decide (s ≠ t)))
  | .lss => some (.bool (Op.bytesLess s t))
  | .leq => some (.bool (Op.bytesLess s t || decide (s = t)))
  | .gtr => some (.bool (!(Op.bytesLess s t || decide (s = t))))
  | .geq => some (.bool (!Op.bytesLess s t))
  | _ => none

def binF (op : BinOp) : PV → PV → Option PV
  | .int k a, .int k' b =>
    match op with
    | .shl | .shr => shOp op k a b
    | _ => if k = k' then intOp op k a b else none
  | .str s, .str t => strOp op s t
  | _, _ => none

/-- Are cells of scalar kinds the same? -/
def eq1 : PV → PV → PV → Option Bool
  | .bool _, .bool a, .bool b => some (decide (a = b))
  | .int k _, .int k1 a, .int k2 b => if k1 = k ∧ k2 = k then some (decide (a = b)) else none
  | .str _, .str a, .str b => some (decide (a = b))
  | _, _, _ => none
def eqCells : List PV → List PV → List PV → Option Bool
  | [], [], [] => some true
  | k :: ks, c :: cs, d :: ds => (eq1 k c d).bind fun x => (eqCells ks cs ds).bind fun r => some (x && r)
  | _, _, _ => none

def idx (i : PV) : Option Nat :=
  match i with
  | .int _ n => if 0 ≤ n then some n.toNat else none
  | _ => none
def idxo (d : Nat) (e : Nat → Option PV) : Option XA → Option Nat
  | none => some d
  | some x => (x.ev e).bind idx

/-- The elements of what is appended. -/
def elems (m : Mem) : PV → Option (List (List PV))
  | .osl id n => match m id with
    | some (.row _ ys _ _) => if n ≤ ys.length then some (ys.take n) else none
    | _ => none
  | .sl ys => some ys
  | .nsl => some []
  | _ => none

def fillP (e : Nat → Option PV) : List PV → List (Nat × Nat × XA) → Option (List PV)
  | z, [] => some z
  | z, (off, n, x) :: r => (x.ev e).bind fun p => if p.cells.length = n ∧ off + n ≤ z.length ∧ p.nt = true then fillP e (splice z off p.cells) r else none

def fillR (e : Nat → Option PV) (m : Mem) (k : Nat) : List (List PV) → List (Nat × XA) → Option (List (List PV))
  | xs, [] => some xs
  | xs, (i, x) :: r => (x.ev e).bind fun p => (purA true m p).bind fun q => if q.cells.length = k ∧ i < xs.length then fillR e m k (xs.set i q.cells) r else none

/-- Are two keys the same? -/
def keq (g : Bool) (ks : List PV) : PV → PV → Option Bool
  | .agg cs, .agg ds => if g then eqCells ks cs ds else none
  | p, q => if g then none else
    match ks with
    | [k] => eq1 k p q
    | _ => none
def mfind (g : Bool) (ks : List PV) (k : PV) : List (PV × PV) → Nat → Option (Option (Nat × PV))
  | [], _ => some none
  | e :: r, i => (keq g ks k e.1).bind fun t => if t then some (some (i, e.2)) else mfind g ks k r (i + 1)
def mes (m : Mem) : PV → Option (List (PV × PV))
  | .nilm => some []
  | .map id => match m id with
    | some (.map es) => some es
    | _ => none
  | _ => none
/-- What a key has; a key that is right. -/
def mget (g : Bool) (ks : List PV) (q : PV) (es : List (PV × PV)) : Option (Option (Nat × PV)) := if keq g ks q q = some true then mfind g ks q es 0 else none
def mput (es : List (PV × PV)) (q v : PV) : Option (Nat × PV) → List (PV × PV)
  | some r => es.set r.1 (q, v)
  | none => es ++ [(q, v)]
def mstamp (es : List (PV × PV)) : Option (Nat × PV) → Nat
  | some r => r.1
  | none => es.length
def mval (z : PV) : Option (Nat × PV) → PV
  | some r => r.2
  | none => z
def vopLook (ok : Bool) (z : PV) (r : Option (Nat × PV)) : PV := if ok then .tup [mval z r, .bool r.isSome] else mval z r

def vopEqs (neg : Bool) (ks : List PV) : PV → PV → Option (PV × Delta)
  | .agg cs, .agg ds => (eqCells ks cs ds).bind fun r => some (.bool (if neg then !r else r), [])
  | _, _ => none

/-- What an operation gives, and what it does to memory; b: the number that a new object takes. -/
def vopF (x : XI) (e : Nat → Option PV) (m : Mem) (b : Nat) : Option (PV × Delta) :=
  match x with
  | .mv x => (x.ev e).bind fun p => some (p, [])
  | .nilrow T k => some (.osl b 0, [(b, some (.row k [] T false))])
  | .pick c x y => (c.ev e).bind fun
    | .bool t => ((if t then x else y).ev e).bind fun p => some (p, [])
    | _ => none
  | .alloc T z => some (.ptr b z.length 0 0, [(b, some (.box z T))])
  | .box T k x => (x.ev e).bind fun p => if p.cells.length = k ∧ p.nt = true then some (.ptr b k 0 0, [(b, some (.box p.cells T))]) else none
  | .build z ps => (fillP e z ps).bind fun cs => some (.agg cs, [])
  | .mkrow T k len z ps => if z.length = k then (fillR e m k (List.replicate len z) ps).bind fun xs => some (.osl b len, [(b, some (.row k xs T false))]) else none
  | .load1 x => (x.ev e).bind fun p => (rd m 1 p).bind fun cs => (head1 cs).bind fun c => some (c, [])
  | .loadn n x => (x.ev e).bind fun p => (rd m n p).bind fun cs => some (.agg cs, [])
  | .store n x y => (x.ev e).bind fun p => (y.ev e).bind fun q =>
    match p with
    | .ptr id k i j =>
      match m id with
      | some (.box cs T) => if q.cells.length = n ∧ i = 0 ∧ j + n ≤ cs.length ∧ q.nt = true then some (.tup [], [(id, some (.box (splice cs j q.cells) T))]) else none
      | some (.row k' xs T false) => (purA true m q).bind fun q => (xs[i]?).bind fun r =>
        if q.cells.length = n ∧ k' = k ∧ j + n ≤ k then some (.tup [], [(id, some (.row k' (xs.set i (splice r j q.cells)) T false))]) else none
      | _ => none
    | _ => none
  | .nilck x => (x.ev e).bind fun
    | .ptr id k i j => some (.ptr id k i j, [])
    | .cptr cs => some (.cptr cs, [])
    | .fn f cs => some (.fn f cs, [])
    | _ => none
  | .fieldA off x => (x.ev e).bind fun
    | .ptr id k i j => some (.ptr id k i (j + off), [])
    | .cptr cs => some (.cptr (cs.drop off), [])
    | _ => none
  | .indexS k x i => (x.ev e).bind fun p => (i.ev e).bind fun q => (idx q).bind fun i =>
    match p with
    | .sl xs => (xs[i]?).bind fun c => if c.length = k then some (.cptr c, []) else none
    | .osl id n => match m id with
      | some (.row k' xs _ _) => if k' = k ∧ i < n ∧ n ≤ xs.length then some (.ptr id k i 0, []) else none
      | _ => none
    | _ => none
  | .indexA k len x i => (x.ev e).bind fun p => (i.ev e).bind fun q => (idx q).bind fun i => if i < len then
    match p with
    | .ptr id K i0 j => some (.ptr id K i0 (j + i * k), [])
    | .cptr cs => some (.cptr (cs.drop (i * k)), [])
    | _ => none
    else none
  | .field1 off x => (x.ev e).bind fun
    | .agg cs => (cs[off]?).bind fun c => some (c, [])
    | _ => none
  | .fieldn off n x => (x.ev e).bind fun
    | .agg cs => if off + n ≤ cs.length then some (.agg ((cs.drop off).take n), []) else none
    | _ => none
  | .indexT x i => (x.ev e).bind fun p => (i.ev e).bind fun q => (idx q).bind fun i =>
    match p with
    | .str s => (s[i]?).bind fun c => some (.int .u8 c.toNat, [])
    | _ => none
  | .bin op x y => (x.ev e).bind fun p => (y.ev e).bind fun q => (binF op p q).bind fun r => some (r, [])
  | .eqb neg x y => (x.ev e).bind fun p => (y.ev e).bind fun q =>
    match p, q with
    | .bool a, .bool b => some (.bool (if neg then decide (a ≠ b) else decide (a = b)), [])
    | _, _ => none
  | .eqp neg x y => (x.ev e).bind fun p => (y.ev e).bind fun q =>
    match p, q with
    | .nilp, .nilp => some (.bool (!neg), [])
    | .nilp, .ptr .. | .ptr .., .nilp | .nilp, .cptr _ | .cptr _, .nilp => some (.bool neg, [])
    | _, _ => none
  | .eqs neg ks x y => (x.ev e).bind fun p => (y.ev e).bind fun q => vopEqs neg ks p q
  | .not x => (x.ev e).bind fun
    | .bool b => some (.bool (!b), [])
    | _ => none
  | .neg x => (x.ev e).bind fun
    | .int k n => some (.int k (k.wrap (0 - n)), [])
    | _ => none
  | .conv k x => (x.ev e).bind fun
    | .int _ n => some (.int k (k.wrap n), [])
    | _ => none
  | .sliceT x lo hi => (x.ev e).bind fun p =>
    match p with
    | .str s => (idxo s.length e hi).bind fun h => (idxo 0 e lo).bind fun l => if l ≤ h ∧ h ≤ s.length then some (.str ((s.take h).drop l), []) else none
    | _ => none
  | .sliceS k x lo hi => (x.ev e).bind fun p =>
    match p with
    | .osl id n => (idxo n e hi).bind fun h => (idxo 0 e lo).bind fun l =>
      if l = 0 ∧ h ≤ n then some (.osl id h, []) else
      (pur true m p).bind fun
      | .sl xs => if l ≤ h ∧ h ≤ xs.length ∧ ∀ x ∈ xs, x.length = k then some (.sl ((xs.take h).drop l), []) else none
      | _ => none
    | .sl xs => (idxo xs.length e hi).bind fun h => (idxo 0 e lo).bind fun l =>
      if l = 0 ∧ h ≤ xs.length then some (.sl (xs.take h), []) else
      if l ≤ h ∧ h ≤ xs.length ∧ ∀ x ∈ xs, x.length = k then some (.sl ((xs.take h).drop l), []) else none
    | _ => none
  | .lenT x => (x.ev e).bind fun
    | .str s => some (.int .i64 s.length, [])
    | _ => none
  | .lenS x => (x.ev e).bind fun
    | .sl xs => some (.int .i64 xs.length, [])
    | .osl _ n => some (.int .i64 n, [])
    | .nsl => some (.int .i64 0, [])
    | _ => none
  | .max2 x y => (x.ev e).bind fun p => (y.ev e).bind fun q =>
    match p, q with
    | .int k a, .int _ b => some (.int k (max a b), [])
    | _, _ => none
  | .min2 x y => (x.ev e).bind fun p => (y.ev e).bind fun q =>
    match p, q with
    | .int k a, .int _ b => some (.int k (min a b), [])
    | _, _ => none
  | .append T k bytes s x => (s.ev e).bind fun p => (x.ev e).bind fun q => (elems m q).bind fun ys =>
    match p with
    | .osl id n => match m id with
      | some (.row k' xs T' false) => if k' = k ∧ T' = T ∧ n = xs.length ∧ (∀ y ∈ ys, y.length = k) ∧ (n + ys.length) * bytes ≤ 140737488355328 then
          some (.osl b (n + ys.length), [(id, none), (b, some (.row k (xs ++ ys) T false))]) else none
      | _ => none
    | .nsl => if (∀ y ∈ ys, y.length = k) ∧ ys.length * bytes ≤ 140737488355328 then some (.osl b ys.length, [(b, some (.row k ys T false))]) else none
    | _ => none
  | .mkslice T k bytes z l c => (l.ev e).bind fun p => (c.ev e).bind fun q => (idx p).bind fun l => (idx q).bind fun c =>
    if z.length = k ∧ l ≤ c ∧ c * bytes ≤ 281474976710656 ∧ c ≤ maxLen then some (.osl b l, [(b, some (.row k (List.replicate l z) T false))]) else none
  | .ext i x => (x.ev e).bind fun
    | .tup vs => (vs[i]?).bind fun p => some (p, [])
    | _ => none
  | .mkfn f cs => (cs.mapM fun (x : XA) => x.ev e).bind fun ps => some (.fn f ps, [])
  | .mkmap => some (.map b, [(b, some (.map []))])
  | .lookup g ks z ok x k => (x.ev e).bind fun p => (k.ev e).bind fun q => (mes m p).bind fun es => (mget g ks q es).bind fun r => some (vopLook ok z r, [])
  | .mapUpd g ks x k v => (x.ev e).bind fun p => (k.ev e).bind fun q => (v.ev e).bind fun v =>
    match p with
    | .map id => match m id with
      | some (.map es) => (mget g ks q es).bind fun r => if v.nt = true then some (.tup [], [(id, some (.map (mput es q v r)))]) else none
      | _ => none
    | _ => none
  | .mapEnt g ks z x k => (x.ev e).bind fun p => (k.ev e).bind fun q =>
    match p with
    | .map id => match m id with
      | some (.map es) => (mget g ks q es).bind fun r => if (mval z r).nt = true then some (.tup [mval z r, .int .i64 (mstamp es r)], [(id, some (.map (mput es q (mval z r) r)))]) else none
      | _ => none
    | _ => none
  | .entSto x s v => (x.ev e).bind fun p => (s.ev e).bind fun s => (v.ev e).bind fun v => (idx s).bind fun i =>
    match p with
    | .map id => match m id with
      | some (.map es) => (es[i]?).bind fun r => if v.nt = true then some (.tup [], [(id, some (.map (es.set i (r.1, v))))]) else none
      | _ => none
    | _ => none
  | .lenM x => (x.ev e).bind fun p => (mes m p).bind fun es => some (.int .i64 es.length, [])
  | .eqm neg x y => (x.ev e).bind fun p => (y.ev e).bind fun q =>
    match p, q with
    | .nilm, .nilm => some (.bool (!neg), [])
    | .nilm, .map _ | .map _, .nilm => some (.bool neg, [])
    | _, _ => none
  | .range x => (x.ev e).bind fun
    | .nilm => some (.ptr b 0 0 0, [(b, some (.iter none 0 [] 0))])
    | .map id => match m id with
      | some (.map es) => some (.ptr b 0 0 0, [(b, some (.iter (some id) es.length [] es.length))])
      | _ => none
    | _ => none
  | .entry x => (x.ev e).bind fun
    | .ptr it 0 0 0 => match m it with
      | some (.iter (some id) _ seen last) => match m id with
        | some (.map es) => (seen.getLast?).bind fun i => if es.length = last then (es[i]?).bind fun r => some (.tup [r.1, r.2], []) else none
        | _ => none
      | _ => none
    | _ => none
  | .indexV k len one x i => (x.ev e).bind fun p => (i.ev e).bind fun q => (idx q).bind fun i =>
    match p with
    | .agg cs => if i < len ∧ i * k + k ≤ cs.length then (if one then (head1 ((cs.drop (i * k)).take k)).bind fun c => some (c, []) else some (.agg ((cs.drop (i * k)).take k), [])) else none
    | _ => none
  | .slice0 T k x => (x.ev e).bind fun
    | .sl _ | .osl .. | .nsl => some (.osl b 0, [(b, some (.row k [] T false))])
    | _ => none
  | .slice3 k x lo hi mx => (x.ev e).bind fun p => (mx.ev e).bind fun q => (idx q).bind fun mx => (pur true m p).bind fun
    | .sl xs => (idxo xs.length e hi).bind fun h => (idxo 0 e lo).bind fun l => if l ≤ h ∧ h ≤ mx ∧ mx ≤ xs.length ∧ ∀ x ∈ xs, x.length = k then some (.sl ((xs.take h).drop l), []) else none
    | _ => none
  | .call .. | .callv .. | .next _ | .never | .appendL .. => none

end Go.Vx
