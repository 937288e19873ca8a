/-
  Abstract values: what an operation yields that only computes ('pval'), and that it is what the machine does ('pval_sound').
-/
import Derived.Test.YtgjlmmjdofceiaaAv2
namespace Go.Av
open Go.RowKit

def arith (op : BinOp) (k : IntKind) (x y : Int) : Option V :=
  match op with
  | .add => some (.int k (k.wrap (x + y)))
  | .sub => some (.int k (k.wrap (x - y)))
  | .mul => some (.int k (k.wrap (x * y)))
  | .quo => if y = 0 then none else some (.int k (k.wrap (x.tdiv y)))
  | .rem => if y = 0 then none else some (.int k (x.tmod y))
  | .and => some (.int k (k.wrap (BitVec.ofInt k.bits x &&& BitVec.ofInt k.bits y).toNat))
  | .or => some (.int k (k.wrap (BitVec.ofInt k.bits x ||| BitVec.ofInt k.bits y).toNat))
  | .xor => some (.int k (k.wrap (BitVec.ofInt k.bits x ^^^ BitVec.ofInt k.bits y).toNat))
  | .andNot => some (.int k (k.wrap (BitVec.ofInt k.bits x &&& ~~~ BitVec.ofInt k.bits y).toNat))
  | .eql => some (.bool (x == y))
  | .neq => some (.bool (x != y))
  | .lss => some (.bool (decide (x < y)))
  | .leq => some (.bool (decide (x ≤ y)))
  | .gtr => some (.bool (decide (x > y)))
  | .geq => some (.bool (decide (x ≥ y)))
  | .shl => if y < 0 then none else some (.int k (k.wrap (x * 2 ^ (min y.toNat k.bits))))
  | .shr => if y < 0 then none else some (.int k (x.fdiv (2 ^ (min y.toNat k.bits))))

def isShift : BinOp → Bool
  | .shl | .shr => true
  | _ => false

def strOp (op : BinOp) (a b : ByteArray) : Option V :=
  match op with
  | .eql => some (.bool (a.toList == b.toList))
  | .neq => some (.bool !(a.toList == b.toList))
  | .add => if ((a.size + b.size : Nat) : Int) > IntKind.i64.max then none else some (.str (a ++ b))
  | _ => none

def eqop (op : BinOp) (r : Bool) : Option V :=
  match op with
  | .eql => some (.bool r)
  | .neq => some (.bool !r)
  | _ => none

/-- Is the one nil? (For the kinds that are held against nil.) -/
def nilq : V → Option Bool
  | .nilp | .nils | .niln | .nilm => some true
  | .ptr .. | .eptr .. | .cptr .. | .osl .. | .rsl .. | .fn .. | .mp .. => some false
  | .sl _ (_ :: _) _ => some false
  | _ => none

inductive NK where | p | s | f | m
  deriving DecidableEq
def nkT (P : Program) (t : TypeId) : Option NK :=
  match P.underlying t with
  | some (.pointer _) => some .p
  | some (.slice _) => some .s
  | some (.func ..) => some .f
  | some (.map ..) => some .m
  | _ => none
def nkV : V → Option NK
  | .nilp | .ptr .. | .eptr .. | .cptr .. => some .p
  | .nils | .sl .. | .osl .. | .rsl .. => some .s
  | .niln | .fn .. => some .f
  | .nilm | .mp .. => some .m
  | _ => none
def isNil : V → Bool
  | .nilp | .nils | .niln | .nilm => true
  | _ => false

def cellEq : V → V → Bool
  | .int k a, .int k' b => decide (k = k') && a == b
  | .bool a, .bool b => a == b
  | .str a, .str b => decide (a = b)
  | _, _ => false
def eqC : List V → List V → Bool
  | [], [] => true
  | x :: xs, y :: ys => cellEq x y && eqC xs ys
  | _, _ => false

def aggEqT (P : Program) (t : TypeId) : Bool :=
  P.keyTypeAt 20 t && P.tiled 20 t && !(P.eqGuardType P.depth t) && (match P.underlying t with | some (.array _ _) | some (.struct _) => true | _ => false)

def binV (P : Program) (op : BinOp) (t : TypeId) (x y : V) : Option V :=
  match x, y with
  | .int k a, .int k' b => if isShift op then arith op k a b else if k = k' then arith op k a b else none
  | .str a, .str b => strOp op a b
  | .bool a, .bool b => match P.underlying t with
    | some .bool => eqop op (a == b)
    | _ => none
  | .agg xs, .agg ys => if aggEqT P t = true ∧ (litsV P t xs).isSome = true ∧ (litsV P t ys).isSome = true then eqop op (eqC xs ys) else none
  | x, y => if nkT P t = none then none else if nkV x ≠ nkT P t ∨ nkV y ≠ nkT P t then none else
      if isNil y then (nilq x).bind (eqop op) else if isNil x then (nilq y).bind (eqop op) else none

def unV (op : UnOp) : V → Option V
  | .bool b => match op with | .not => some (.bool !b) | _ => none
  | .int k n => match op with
    | .neg => some (.int k (k.wrap (0 - n)))
    | .xor => some (.int k (k.wrap (BitVec.ofInt k.bits (if k.signed then -1 else k.max) ^^^ BitVec.ofInt k.bits n).toNat))
    | _ => none
  | _ => none

def convV (P : Program) (src dst : TypeId) : V → Option V
  | .int _ n => if (P.underlying src).isSome then (intT P dst).map fun k => .int k (k.wrap n) else none
  | _ => none

def bnd (v : Option V) (dflt max : Nat) : Option Nat :=
  match v with
  | none => some dflt
  | some (.int _ i) => if 0 ≤ i ∧ i ≤ max then some i.toNat else none
  | some _ => none

def sliceSl (esz : Nat) (x : V) (lo hi mx : Option V) : Option V :=
  match x with
  | .nils => (bnd mx 0 0).bind fun m => (bnd hi 0 m).bind fun h => (bnd lo 0 h).bind fun _ => some .nils
  | .sl sz es full => if sz = esz then (bnd mx es.length es.length).bind fun m => (bnd hi es.length m).bind fun h => (bnd lo 0 h).bind fun l =>
      some (.sl sz ((es.take h).drop l) (if mx.isSome then decide (m = h) else full && decide (h = es.length))) else none
  | .osl b i n sz full => if sz = esz then (bnd mx n n).bind fun m => (bnd hi n m).bind fun h => (bnd lo 0 h).bind fun l =>
      some (if l = 0 ∨ l < h then .osl b (i + l) (h - l) sz (if mx.isSome then decide (m = h) else full && decide (h = n)) else .sl sz [] false) else none
  | .rsl b off n sz => if sz = esz ∧ mx.isNone = true then (bnd hi n n).bind fun h => (bnd lo 0 h).bind fun l =>
      some (if l = 0 ∨ l < h then .rsl b (off + l * sz) (h - l) sz else .sl sz [] false) else none
  | _ => none

def sliceArr (n esz : Nat) (x : V) (lo hi : Option V) : Option V :=
  (bnd hi n n).bind fun h => (bnd lo 0 h).bind fun l => match x with
    | .ptr b off => some (.rsl b (if l = n then off else off + l * esz) (h - l) esz)
    | .cptr e off => if off + h * esz ≤ e.length ∧ l < n then some (.sl esz (chunks esz (h - l) (e.drop (off + l * esz))) (decide (h = n))) else none
    | _ => none

def sliceStr (x : V) (lo hi : Option V) : Option V :=
  match x with
  | .str s => (bnd hi s.size s.size).bind fun h => (bnd lo 0 h).bind fun l => some (.str (s.extract l h))
  | _ => none

def sliceV (P : Program) (t : TypeId) (x : V) (lo hi mx : Option V) : Option V :=
  if mx.isSome = true ∧ hi.isNone = true then none else
  match arrT P t, sliT P t, P.underlying t with
  | some (n, esz), _, _ => if mx.isSome = true then none else sliceArr n esz x lo hi
  | none, some esz, _ => sliceSl esz x lo hi mx
  | none, none, some .string => if mx.isSome = true then none else sliceStr x lo hi
  | _, _, _ => none

def shiftP (x : V) (o : Nat) : Option V :=
  match x with
  | .ptr b off => some (.ptr b (off + o))
  | .eptr b i off sz => some (.eptr b i (off + o) sz)
  | .cptr e off => some (.cptr e (off + o))
  | _ => none

def idxOf (ix : V) (n : Nat) : Option Nat :=
  match ix with
  | .int _ i => if 0 ≤ i ∧ i < n then some i.toNat else none
  | _ => none

def indexAddrV (P : Program) (t : TypeId) (x ix : V) : Option V :=
  match arrT P t with
  | some (n, esz) => (idxOf ix n).bind fun i => shiftP x (i * esz)
  | none => (sliT P t).bind fun esz => match x with
    | .sl sz es _ => if sz = esz then (idxOf ix es.length).bind fun i => (es[i]?).map fun e => .cptr e 0 else none
    | .osl b i0 n sz _ => if sz = esz then (idxOf ix n).map fun i => .eptr b (i0 + i) 0 sz else none
    | .rsl b off n sz => if sz = esz then (idxOf ix n).map fun i => .ptr b (off + i * sz) else none
    | _ => none

def indexV (P : Program) (t : TypeId) (x ix : V) : Option V :=
  match P.underlying t, x with
  | some (.array n e), .agg cs => (idxOf ix n).bind fun i => match tyT P e with
    | some (c, sz) => ldc (some (c, sz)) cs (i * sz)
    | none => none
  | some .string, .str s => (idxOf ix s.size).bind fun i => (s[i]?).map fun b => .int .u8 b.toNat
  | _, _ => none

def fieldV (P : Program) (t : TypeId) (x : V) (f : Nat) : Option V :=
  match fldT P t f, x with
  | some (o, ft), .agg cs => ldc (tyT P ft) cs o
  | _, _ => none

def cellsV : V → Option (List V)
  | .agg cs => some cs
  | .junk => none
  | .tup _ => none
  | x => some [x]

/-- xs laid over cells from place o on. -/
def splice (cells : List V) (o : Nat) (xs : List V) : List V := cells.take o ++ (xs ++ cells.drop (o + xs.length))

def fillV (place : Nat → Option (Nat × Nat)) (cells : List V) : List (Nat × V) → Option (List V)
  | [] => some cells
  | (i, v) :: rest => match place i, cellsV v with
    | some (off, size), some xs => if xs.length = size ∧ off + xs.length ≤ cells.length then fillV place (splice cells off xs) rest else none
    | _, _ => none

def ofVal : Value → V
  | .int k n => .int k n
  | .bool b => .bool b
  | .string s => .str s
  | .pointer none => .nilp
  | .slice none 0 0 => .nils
  | .map none => .nilm
  | .nilFunc => .niln
  | _ => .junk

/-- The zero cells of a type. -/
def zeroT (P : Program) (t : TypeId) : Option (List V) :=
  (P.info? t).bind fun i => i.zero.map fun z => z.cells.toList.map ofVal

def placeT (P : Program) (t : TypeId) : Nat → Option (Nat × Nat) :=
  match P.underlying t with
  | some (.struct fs) => if fs.all (fun f => (P.info? f.type).isSome) then fun i => (fs[i]?).map fun f => (f.offset, P.cellsOf f.type) else fun _ => none
  | some (.array _ e) => if (P.info? e).isSome then fun i => some (i * P.cellsOf e, P.cellsOf e) else fun _ => none
  | _ => fun _ => none

def buildOk (P : Program) (t : TypeId) : Bool :=
  match P.underlying t with
  | some (.struct fs) => fs.all (fun f => (P.info? f.type).isSome)
  | some (.array _ e) => (P.info? e).isSome
  | _ => false

def buildV (P : Program) (t : TypeId) (parts : List (Nat × V)) : Option V :=
  if buildOk P t then (zeroT P t).bind fun z => (fillV (placeT P t) z parts).map .agg else none

def lenV (P : Program) (t : TypeId) (x : V) : Option V :=
  match P.underlying t with
  | some (.slice _) => (slen x).map fun (m : Nat) => V.int .i64 (m : Int)
  | some .string => match x with | .str s => some (.int .i64 s.size) | _ => none
  | some (.array n _) => some (.int .i64 n)
  | _ => none

def capV (P : Program) (t : TypeId) (x : V) : Option V :=
  match P.underlying t with
  | some (.slice _) => match x with
    | .nils => some (.int .i64 0)
    | .sl _ es true => some (.int .i64 es.length)
    | _ => none
  | _ => none

def min2V : V → V → Option V
  | .int k x, .int _ y => some (.int k (if y < x then y else x))
  | _, _ => none
def max2V : V → V → Option V
  | .int k x, .int _ y => some (.int k (if y > x then y else x))
  | _, _ => none
def foldV (f : V → V → Option V) : V → List V → Option V
  | x, [] => some x
  | x, y :: ys => (f x y).bind fun z => foldV f z ys

def builtinV (P : Program) (b : Builtin) (ats : List TypeId) (args : List V) : Option V :=
  match b, ats, args with
  | .len, [t], [x] => lenV P t x
  | .cap, [t], [x] => capV P t x
  | .min, _, x :: xs => foldV min2V x xs
  | .max, _, x :: xs => foldV max2V x xs
  | _, _, _ => none

def pval (P : Program) (H : Hp) (ev : Operand → V) : Op → Option V
  | .move x => some (ev x)
  | .assign x => some (ev x)
  | .pick c a b => match ev c with
    | .bool t => some (if t then ev a else ev b)
    | _ => none
  | .load t a => (ptrCells H (ev a)).bind fun (c, o) => ldc (tyT P t) c o
  | .nilCheck x => match ev x with
    | .ptr b o => some (.ptr b o)
    | .eptr b i o s => some (.eptr b i o s)
    | .cptr e o => some (.cptr e o)
    | .fn (.func f) xs ys => some (.fn (.func f) xs ys)
    | _ => none
  | .binOp op t x y _ => binV P op t (ev x) (ev y)
  | .unOp op _ x => unV op (ev x)
  | .convert src dst x => convV P src dst (ev x)
  | .makeFunc f xs ys => some (.fn f (xs.toList.map ev) (ys.toList.map ev))
  | .slice t x lo hi mx => sliceV P t (ev x) (lo.map ev) (hi.map ev) (mx.map ev)
  | .fieldAddr s x f => (fldT P s f).bind fun (o, _) => shiftP (ev x) o
  | .field t x f => fieldV P t (ev x) f
  | .indexAddr t x i => indexAddrV P t (ev x) (ev i)
  | .index t x i => indexV P t (ev x) (ev i)
  | .extract t i => match ev t with
    | .tup vs => vs[i]?
    | _ => none
  | .build t parts => buildV P t (parts.toList.map fun (i, x) => (i, ev x))
  | .call c => match c.callee with
    | .builtin b => builtinV P b c.argTypes.toList (c.args.toList.map ev)
    | _ => none
  | _ => none

end Go.Av
