/- The abstract machine: its values, its heap, and what one operation, a region, a function come to (a reading of the model's own code, over any type of answers). -/
import Derived.Orders
import GoSem.Core.Region
namespace Go.Abs

/-- What a run answers: a proposition (what must hold), or a Bool (a run by the kernel). -/
class Res (R : Type) where
  fail : R
  all : Nat → (Nat → R) → R

instance : Res Prop := ⟨False, fun n f => ∀ i, i < n → f i⟩
instance : Res Bool := ⟨false, fun n f => (List.range n).all f⟩

/-- A slice that is not nil: its block, where it begins, its length, its capacity; slack: the capacity is at least this, an element has so many cells (none: the capacity is this). -/
structure Sl where
  id : Nat
  off : Nat
  len : Nat
  cap : Nat
  slack : Option Nat
  deriving DecidableEq

/-- A piece of a slice, from l to h (not beyond its length). slack some 0: an empty one of which no place is known. -/
def Sl.cut (size l h : Nat) (s : Sl) : Sl :=
  if s.slack = none then ⟨s.id, if s.cap = l then s.off else s.off + l * size, h - l, s.cap - l, none⟩
  else if s.slack = some size ∧ (l < s.cap ∨ l = 0) then ⟨s.id, s.off + l * size, h - l, s.cap - l, s.slack⟩
  else ⟨s.id, s.off, 0, 0, some 0⟩

def Sl.cutOk (size : Nat) (s : Sl) : Bool := decide (s.slack = none ∨ s.slack = some size ∨ s.slack = some 0)

def lenO : Option Sl → Nat
  | none => 0
  | some s => s.len

def cutO (size l h : Nat) : Option Sl → Option Sl
  | none => none
  | some s => some (s.cut size l h)

def cutOkO (size : Nat) : Option Sl → Bool
  | none => true
  | some s => s.cutOk size

inductive AV where
  | bot
  | bool (b : Bool)
  | int (k : IntKind) (n : Int)
  | str (s : List UInt8)
  | ptr (a : Option (Nat × Nat))
  | slice (s : Option Sl)
  | map (r : Option Nat)
  | fn (f : FuncId) (first caps : List AV)
  | nilFn
  | agg (cs : List AV)
  | tup (cs : List AV)
  deriving Inhabited

mutual
def AV.beq : AV → AV → Bool
  | .bool a, .bool b => a == b
  | .int j a, .int k b => decide (j = k) && a == b
  | .str a, .str b => a == b
  | .ptr a, .ptr b => a == b
  | .slice a, .slice b => a == b
  | .map a, .map b => a == b
  | .fn f a c, .fn g b d => f == g && AV.beqs a b && AV.beqs c d
  | .nilFn, .nilFn => true
  | .agg a, .agg b => AV.beqs a b
  | .tup a, .tup b => AV.beqs a b
  | .bot, .bot => true
  | _, _ => false
def AV.beqs : List AV → List AV → Bool
  | [], [] => true
  | a :: as, b :: bs => AV.beq a b && AV.beqs as bs
  | _, _ => false
end

structure MEnt where
  key : AV
  val : AV
  born : Nat

/-- A block of the abstract heap. unborn: its number is held for a block that a region whose order is open will make. ro: it is never written. -/
inductive ABlk where
  | dead
  | unborn
  | cells (c : List AV) (ro : Bool)
  | map (es : List MEnt) (clock : Nat)
  | iter (m : Option Nat) (since : Nat) (seen : List Nat) (stepped : Nat)

abbrev AH := List ABlk

def AH.row (h : AH) (i : Nat) : Option (List AV) :=
  match h[i]? with
  | some (.cells c _) => some c
  | _ => none

def AH.cell (h : AH) (i o : Nat) : Option AV := (h.row i).bind (·[o]?)

def AH.cellsAt (h : AH) (i o n : Nat) : Option (List AV) :=
  (h.row i).bind fun c => if o + n ≤ c.length then some ((c.drop o).take n) else none

def AH.puts (h : AH) (i o : Nat) (vs : List AV) : Option AH :=
  match h[i]? with
  | some (.cells c false) => if o + vs.length ≤ c.length then some (h.set i (.cells (c.take o ++ vs ++ c.drop (o + vs.length)) false)) else none
  | _ => none

def AH.mapAt (h : AH) (r : Nat) : Option (List MEnt × Nat) :=
  match h[r]? with
  | some (.map es c) => some (es, c)
  | _ => none

section
variable {R : Type} [Res R]

def ob {α : Type} (x : Option α) (K : α → R) : R :=
  match x with
  | some a => K a
  | none => Res.fail

def chkInt (k : IntKind) (v : AV) (K : Int → R) : R :=
  match v with
  | .int k' n => if k' = k then K n else Res.fail
  | _ => Res.fail

def chkNum (v : AV) (K : Int → R) : R :=
  match v with
  | .int _ n => K n
  | _ => Res.fail

def chkBool (v : AV) (K : Bool → R) : R :=
  match v with
  | .bool b => K b
  | _ => Res.fail

def chkStr (v : AV) (K : List UInt8 → R) : R :=
  match v with
  | .str b => K b
  | _ => Res.fail

def chkPtr (v : AV) (K : Option (Nat × Nat) → R) : R :=
  match v with
  | .ptr b => K b
  | _ => Res.fail

def chkSl (v : AV) (K : Option Sl → R) : R :=
  match v with
  | .slice b => K b
  | _ => Res.fail

def chkMap (v : AV) (K : Option Nat → R) : R :=
  match v with
  | .map b => K b
  | _ => Res.fail

def chkFn (v : AV) (K : FuncId → List AV → List AV → R) : R :=
  match v with
  | .fn f a c => K f a c
  | _ => Res.fail

/-- A value of one cell, held against a type's zero. -/
def chkCell (z : Value) (v : AV) (K : AV → R) : R :=
  match z with
  | .bool _ => chkBool v fun b => K (.bool b)
  | .int k _ => chkInt k v fun n => K (.int k n)
  | .string _ => chkStr v fun s => K (.str s)
  | .pointer _ => chkPtr v fun p => K (.ptr p)
  | .slice .. => chkSl v fun s => K (.slice s)
  | .map _ => chkMap v fun r => K (.map r)
  | .nilFunc => chkFn v fun f a c => K (.fn f a c)
  | _ => Res.fail

def chkCells : List Value → List AV → (List AV → R) → R
  | [], l, K =>
    match l with
    | [] => K []
    | _ :: _ => Res.fail
  | z :: zs, l, K =>
    match l with
    | [] => Res.fail
    | v :: vs => chkCell z v fun v' => chkCells zs vs fun vs' => K (v' :: vs')

def chkOne (z : Value) (v : AV) (K : AV → R) : R :=
  match z with
  | .agg zs =>
    match v with
    | .agg vs => chkCells zs.toList vs fun vs' => K (.agg vs')
    | _ => Res.fail
  | z => chkCell z v K

def chkOnes : List Value → List AV → (List AV → R) → R
  | [], l, K =>
    match l with
    | [] => K []
    | _ :: _ => Res.fail
  | z :: zs, l, K =>
    match l with
    | [] => Res.fail
    | v :: vs => chkOne z v fun v' => chkOnes zs vs fun vs' => K (v' :: vs')

/-- A value held against a type's zero: a tuple, a struct or an array, a cell. -/
def chkZ (z : Value) (v : AV) (K : AV → R) : R :=
  match z with
  | .tuple zs =>
    match v with
    | .tup vs => chkOnes zs.toList vs fun vs' => K (.tup vs')
    | _ => Res.fail
  | z => chkOne z v K

def zeroOf (P : Program) (t : TypeId) (K : Value → R) : R :=
  match P.info? t with
  | some i => ob i.zero K
  | none => Res.fail

def okT (P : Program) (t : TypeId) : Bool := (P.info? t).isSome && (P.underlying t).isSome

/-- A type's zero has as many cells as the type. -/
def zOk (P : Program) (t : TypeId) (z : Value) : Bool := z.cells.size == P.cellsOf t

def AV.scal : AV → Bool
  | .bot | .agg _ | .tup _ => false
  | _ => true

def guardR (b : Bool) (K : R) : R := bif b then K else Res.fail

def chkT (P : Program) (t : TypeId) (v : AV) (K : AV → R) : R := zeroOf P t fun z => chkZ z v K

/-- A constant's cell. -/
def ofCell : Value → AV
  | .bool b => .bool b
  | .int k n => .int k n
  | .string s => .str s.data.toList
  | .pointer none => .ptr none
  | .slice none 0 0 => .slice none
  | .map none => .map none
  | .nilFunc => .nilFn
  | _ => .bot

def ofConst : Value → AV
  | .agg cs => .agg (cs.toList.map ofCell)
  | .tuple cs => if cs.isEmpty then .tup [] else .bot
  | v => ofCell v

def ev (env : List AV) : Operand → AV
  | .tmp t => env.getD t .bot
  | .const v => ofConst v
  | .global _ => .bot
  | .func f => .fn f [] []

def cellsOf : AV → List AV
  | .agg cs => cs
  | v => [v]

/-- A part of an aggregate. -/
def partOf (agg : Bool) (size : Nat) (cs : List AV) (off : Nat) (K : AV → R) : R :=
  if agg then (if off + size ≤ cs.length then K (.agg ((cs.drop off).take size)) else Res.fail) else ob cs[off]? K

def isAggD : Option TypeDesc → Bool
  | some (.struct _) | some (.array _ _) => true
  | _ => false

def isSeqD : TypeDesc → Bool
  | .slice _ | .string => true
  | _ => false

/-- Equality of two values, field by field. -/
def aEqF (P : Program) (eq : TypeId → AV → AV → (Bool → R) → R) (xs ys : List AV) : List Field → (Bool → R) → R
  | [], K => K true
  | f :: fs, K => guardR (okT P f.type) <| partOf (isAggD (P.underlying f.type)) (P.cellsOf f.type) xs f.offset fun x =>
      partOf (isAggD (P.underlying f.type)) (P.cellsOf f.type) ys f.offset fun y => eq f.type x y fun a => aEqF P eq xs ys fs fun b => K (a && b)

/-- What Go's == comes to: at bools, integers, strings, structs of such. -/
def aEqT (P : Program) : Nat → TypeId → AV → AV → (Bool → R) → R
  | 0, _, _, _, _ => Res.fail
  | d + 1, t, x, y, K =>
    match P.underlying t with
    | some .bool => chkBool x fun a => chkBool y fun b => K (a == b)
    | some (.int k) => chkInt k x fun a => chkInt k y fun b => K (a == b)
    | some .string => chkStr x fun a => chkStr y fun b => K (a == b)
    | some (.struct fs) =>
      match x, y with
      | .agg xs, .agg ys => guardR (!P.stoodInHeld t && fs.toList.all fun f => f.name != "_") <| aEqF P (aEqT P d) xs ys fs.toList K
      | _, _ => Res.fail
    | _ => Res.fail

def aKeyF (P : Program) (key : TypeId → AV → R → R) (xs : List AV) : List Field → R → R
  | [], K => K
  | f :: fs, K => guardR (okT P f.type) <| partOf (isAggD (P.underlying f.type)) (P.cellsOf f.type) xs f.offset fun x => key f.type x (aKeyF P key xs fs K)

/-- A key that can be hashed: a bool, an integer, a string, a struct of such. -/
def aKey (P : Program) : Nat → TypeId → AV → R → R
  | 0, _, _, _ => Res.fail
  | d + 1, t, x, K =>
    match P.underlying t, x with
    | some .bool, .bool _ => K
    | some (.int _), .int _ _ => K
    | some .string, .str _ => K
    | some (.struct fs), .agg xs => guardR (fs.toList.all fun f => f.name != "_") <| aKeyF P (aKey P d) xs fs.toList K
    | _, _ => Res.fail

def aIntBits (op : BinOp) (k : IntKind) (x y : Int) (K : AV → R) : R :=
  match op with
  | .and => K (.int k (k.wrap (BitVec.ofInt k.bits x &&& BitVec.ofInt k.bits y).toNat))
  | .or => K (.int k (k.wrap (BitVec.ofInt k.bits x ||| BitVec.ofInt k.bits y).toNat))
  | .xor => K (.int k (k.wrap (BitVec.ofInt k.bits x ^^^ BitVec.ofInt k.bits y).toNat))
  | .andNot => K (.int k (k.wrap (BitVec.ofInt k.bits x &&& ~~~(BitVec.ofInt k.bits y)).toNat))
  | _ => Res.fail

def aInts (op : BinOp) (k : IntKind) (x y : Int) (K : AV → R) : R :=
  match op with
  | .add => K (.int k (k.wrap (x + y)))
  | .sub => K (.int k (k.wrap (x - y)))
  | .mul => K (.int k (k.wrap (x * y)))
  | .quo => if y = 0 then Res.fail else K (.int k (k.wrap (x.tdiv y)))
  | .rem => if y = 0 then Res.fail else K (.int k (x.tmod y))
  | .and | .or | .xor | .andNot => aIntBits op k x y K
  | .eql => K (.bool (x == y))
  | .neq => K (.bool (x != y))
  | .lss => K (.bool (decide (x < y)))
  | .leq => K (.bool (decide (x ≤ y)))
  | .gtr => K (.bool (decide (x > y)))
  | .geq => K (.bool (decide (x ≥ y)))
  | _ => Res.fail

/-- Is a text before another one, byte by byte? -/
def aStrs (op : BinOp) (x y : List UInt8) (K : AV → R) : R :=
  match op with
  | .add => if x.length + y.length ≤ 4611686018427387904 then K (.str (x ++ y)) else Res.fail
  | .eql => K (.bool (x == y))
  | .neq => K (.bool (!(x == y)))
  | .lss => K (.bool (Op.bytesLess x y))
  | .leq => K (.bool (Op.bytesLess x y || x == y))
  | .gtr => K (.bool (!(Op.bytesLess x y || x == y)))
  | .geq => K (.bool (!Op.bytesLess x y))
  | _ => Res.fail

/-- A type of plain values: structs of them. -/
def flatT (P : Program) : Nat → TypeId → Bool
  | 0, _ => false
  | d + 1, t =>
    match P.underlying t with
    | some (.struct fs) => fs.toList.all fun f => flatT P d f.type
    | some .bool => true
    | some (.int _) => true
    | some .string => true
    | _ => false

/-- Are two the same, of which one is nil? -/
def eqNil {α : Type} (a b : Option α) (K : Bool → R) : R :=
  bif b.isNone then K a.isNone else bif a.isNone then K b.isNone else Res.fail

def aBin (P : Program) (op : BinOp) (t : TypeId) (x y : AV) (K : AV → R) : R :=
  match op, x, y with
  | .shl, .int k a, .int _ b => if b < 0 then Res.fail else K (.int k (k.wrap (a * 2 ^ (min b.toNat k.bits))))
  | .shr, .int k a, .int _ b => if b < 0 then Res.fail else K (.int k (a.fdiv (2 ^ (min b.toNat k.bits))))
  | op, .int k a, .int k' b => if k = k' then aInts op k a b K else Res.fail
  | op, .str a, .str b => aStrs op a b K
  | .eql, .bool a, .bool b => if P.underlying t matches some .bool then K (.bool (a == b)) else Res.fail
  | .neq, .bool a, .bool b => if P.underlying t matches some .bool then K (.bool (!(a == b))) else Res.fail
  | .eql, .ptr a, .ptr b => if P.underlying t matches some (.pointer _) then eqNil a b fun r => K (.bool r) else Res.fail
  | .neq, .ptr a, .ptr b => if P.underlying t matches some (.pointer _) then eqNil a b fun r => K (.bool (!r)) else Res.fail
  | .eql, .slice a, .slice b => if P.underlying t matches some (.slice _) then eqNil a b fun r => K (.bool r) else Res.fail
  | .neq, .slice a, .slice b => if P.underlying t matches some (.slice _) then eqNil a b fun r => K (.bool (!r)) else Res.fail
  | .eql, .agg a, .agg b => guardR (flatT P 4 t) <| aEqT P 20 t (.agg a) (.agg b) fun r => K (.bool r)
  | .neq, .agg a, .agg b => guardR (flatT P 4 t) <| aEqT P 20 t (.agg a) (.agg b) fun r => K (.bool (!r))
  | _, _, _ => Res.fail

def aUn (op : UnOp) (x : AV) (K : AV → R) : R :=
  match op, x with
  | .neg, .int k n => K (.int k (k.wrap (0 - n)))
  | .xor, .int k n => K (.int k (k.wrap (BitVec.ofInt k.bits (if k.signed then -1 else k.max) ^^^ BitVec.ofInt k.bits n).toNat))
  | .not, .bool b => K (.bool (!b))
  | _, _ => Res.fail

/-- The two bounds of a slice expression. -/
def aBounds (len : Nat) (cap : Nat) (low high : Option AV) (K : Nat → Nat → R) : R :=
  match high with
  | some v => chkNum v fun b => if 0 ≤ b ∧ b ≤ cap then
      (match low with
        | some u => chkNum u fun a => if 0 ≤ a ∧ a ≤ b.toNat then K a.toNat b.toNat else Res.fail
        | none => K 0 b.toNat) else Res.fail
  | none =>
      (match low with
        | some u => chkNum u fun a => if 0 ≤ a ∧ a ≤ len then K a.toNat len else Res.fail
        | none => K 0 len)

def aSlice (P : Program) (t : TypeId) (x : AV) (low high mx : Option AV) (K : AV → R) : R :=
  match P.underlying t, x with
  | some .string, .str s =>
    match mx with
    | some _ => Res.fail
    | none => aBounds s.length s.length low high fun l h => K (.str ((s.drop l).take (h - l)))
  | some (.slice e), .slice x =>
    guardR (okT P e) <|
    match mx with
    | some m =>
      (match x with
        | none => guardR high.isSome <| chkNum m fun m => if m = 0 then aBounds 0 0 low high fun _ _ => K (.slice none) else Res.fail
        | some s => guardR (high.isSome && decide (s.slack ≠ some 0)) <| chkNum m fun m => if 0 ≤ m ∧ m ≤ s.cap then
            aBounds s.len m.toNat low high fun l h => K (.slice (some ⟨s.id, if m.toNat = l then s.off else s.off + l * P.cellsOf e, h - l, m.toNat - l, none⟩)) else Res.fail)
    | none => aBounds (lenO x) (lenO x) low high fun l h => guardR (cutOkO (P.cellsOf e) x) <| K (.slice (cutO (P.cellsOf e) l h x))
  | some (.pointer arr), .ptr p =>
    ob p fun a =>
    match mx, P.underlying arr with
    | none, some (.array n e) => guardR (okT P e) <| aBounds n n low high fun l h => K (.slice (some ⟨a.1, if n = l then a.2 else a.2 + l * P.cellsOf e, h - l, n - l, none⟩))
    | _, _ => Res.fail
  | some (.array n e), .ptr p =>
    ob p fun a =>
    match mx with
    | none => guardR (okT P e) <| aBounds n n low high fun l h => K (.slice (some ⟨a.1, if n = l then a.2 else a.2 + l * P.cellsOf e, h - l, n - l, none⟩))
    | _ => Res.fail
  | _, _ => Res.fail

/-- Parts laid into cells. -/
def aFill (place : Nat → Option (Nat × Nat)) : List AV → List (Nat × AV) → Option (List AV)
  | cs, [] => some cs
  | cs, (i, v) :: rest =>
    match v, place i with
    | .bot, _ => none
    | _, none => none
    | v, some (off, size) =>
      if (cellsOf v).length ≠ size ∨ off + (cellsOf v).length > cs.length then none
      else aFill place (cs.take off ++ cellsOf v ++ cs.drop (off + (cellsOf v).length)) rest

def aBuild (P : Program) (t : TypeId) (parts : List (Nat × AV)) (K : AV → R) : R :=
  zeroOf P t fun z =>
    match P.underlying t with
    | some (.struct fs) => guardR (fs.toList.all fun f => okT P f.type) <| ob (aFill (fun i => fs[i]?.map fun f => (f.offset, P.cellsOf f.type)) (z.cells.toList.map ofCell) parts) fun cs => K (.agg cs)
    | some (.array _ e) => guardR (okT P e) <| ob (aFill (fun i => some (i * P.cellsOf e, P.cellsOf e)) (z.cells.toList.map ofCell) parts) fun cs => K (.agg cs)
    | _ => Res.fail

def aMinMaxFrom (mx : Bool) (k : IntKind) (a : Int) : List AV → (AV → R) → R
  | [], K => K (.int k a)
  | y :: rest, K => match y with
    | .int k' b => if k = k' then aMinMaxFrom mx k (if mx then (if b > a then b else a) else (if b < a then b else a)) rest K else Res.fail
    | _ => Res.fail

def aMinMax (mx : Bool) (l : List AV) (K : AV → R) : R :=
  match l with
  | .int k a :: rest => aMinMaxFrom mx k a rest K
  | _ => Res.fail

def strLike (P : Program) (t : TypeId) : Bool :=
  match P.underlying t with
  | some .string => true
  | some (.slice _) => true
  | some (.array _ _) => true
  | _ => false

/-- The kinds of operations: reading no memory; reading it; making a block; all else. -/
inductive Kind where
  | pure | read | alloc | eff
  deriving DecidableEq

def kindOf (P : Program) (o : Oper) : Kind :=
  match o.op with
  | .move _ | .assign _ | .pick .. | .nilCheck _ | .fieldAddr .. | .indexAddr .. | .index .. | .field .. | .binOp .. | .unOp .. | .makeFunc .. | .extract .. | .build .. | .slice .. => .pure
  | .convert src dst _ =>
    match P.underlying src, P.underlying dst with
    | some (.slice _), some .string => .read
    | some .string, some (.slice _) => .alloc
    | _, _ => .pure
  | .load .. | .lookup .. => .read
  | .alloc _ | .box .. | .buildSlice .. | .makeSlice .. | .makeMap .. => .alloc
  | .call c =>
    match c.callee with
    | .builtin .len => if c.argTypes.toList.all (strLike P) then .pure else .read
    | .builtin .min | .builtin .max => .pure
    | _ => .eff
  | _ => .eff

def aPure (P : Program) (o : Oper) (env : List AV) (K : AV → R) : R :=
  match o.op with
  | .move x | .assign x => K (ev env x)
  | .pick c a b => chkBool (ev env c) fun t => bif t then K (ev env a) else K (ev env b)
  | .nilCheck x =>
    match ev env x with
    | .ptr p => ob p fun a => K (.ptr (some a))
    | .fn f a c => K (.fn f a c)
    | _ => Res.fail
  | .fieldAddr s x f =>
    chkPtr (ev env x) fun p => ob p fun a =>
      match P.underlying s with
      | some (.struct fs) => ob fs[f]? fun fd => if P.cellsOf fd.type = 0 then Res.fail else K (.ptr (some (a.1, a.2 + fd.offset)))
      | _ => Res.fail
  | .indexAddr t x i =>
    chkNum (ev env i) fun i =>
    match P.underlying t with
    | some (.array n e) => chkPtr (ev env x) fun p => ob p fun a => guardR (okT P e) <| if 0 ≤ i ∧ i < n then K (.ptr (some (a.1, a.2 + i.toNat * P.cellsOf e))) else Res.fail
    | some (.slice e) => chkSl (ev env x) fun s => ob s fun s => guardR (okT P e) <| if 0 ≤ i ∧ i < s.len then K (.ptr (some (s.id, s.off + i.toNat * P.cellsOf e))) else Res.fail
    | _ => Res.fail
  | .index t x i =>
    chkNum (ev env i) fun i =>
    match P.underlying t, ev env x with
    | some .string, .str s => if 0 ≤ i then ob s[i.toNat]? fun b => K (.int .u8 b.toNat) else Res.fail
    | some (.array n e), .agg cs => guardR (okT P e) <| if 0 ≤ i ∧ i < n then partOf (isAggD (P.underlying e)) (P.cellsOf e) cs (i.toNat * P.cellsOf e) K else Res.fail
    | _, _ => Res.fail
  | .field t x f =>
    match P.underlying t, ev env x with
    | some (.struct fs), .agg cs => ob fs[f]? fun fd => guardR (okT P fd.type) <| partOf (isAggD (P.underlying fd.type)) (P.cellsOf fd.type) cs fd.offset K
    | _, _ => Res.fail
  | .binOp op t x y _ => aBin P op t (ev env x) (ev env y) K
  | .unOp op _ x => aUn op (ev env x) K
  | .convert src dst x =>
    match P.underlying src, P.underlying dst, ev env x with
    | some _, some (.int k), .int _ n => K (.int k (k.wrap n))
    | some _, some .string, .str s => K (.str s)
    | _, _, _ => Res.fail
  | .makeFunc fn first captured =>
    match fn with
    | .func f => K (.fn f (first.toList.map (ev env)) (captured.toList.map (ev env)))
    | _ => Res.fail
  | .extract t i =>
    match ev env t with
    | .tup vs => ob vs[i]? fun v => chkT P o.type v K
    | _ => Res.fail
  | .build t parts => aBuild P t (parts.toList.map fun p => (p.1, ev env p.2)) K
  | .slice t x lo hi mx => aSlice P t (ev env x) (lo.map (ev env)) (hi.map (ev env)) (mx.map (ev env)) K
  | .call c =>
    match c.callee with
    | .builtin .len =>
      match c.argTypes.toList, c.args.toList with
      | [t], [x] =>
        match P.underlying t, ev env x with
        | some .string, .str s => K (.int .i64 s.length)
        | some (.slice _), .slice x => K (.int .i64 (lenO x))
        | some (.array n _), _ => K (.int .i64 n)
        | _, _ => Res.fail
      | _, _ => Res.fail
    | .builtin .min => aMinMax false (c.args.toList.map (ev env)) K
    | .builtin .max => aMinMax true (c.args.toList.map (ev env)) K
    | _ => Res.fail
  | _ => Res.fail

/-- What was read, to be held against the heap again. -/
inductive Req where
  | cells (i o n : Nat) (cs : List AV)
  | map (r : Option Nat) (es : List MEnt)
  | none

def MEnt.beqs : List MEnt → List MEnt → Bool
  | [], [] => true
  | a :: as, b :: bs => AV.beq a.key b.key && AV.beq a.val b.val && a.born == b.born && MEnt.beqs as bs
  | _, _ => false

def Req.ok (h : AH) : Req → Bool
  | .cells i o n cs => match h.cellsAt i o n with
    | some ds => AV.beqs ds cs
    | Option.none => false
  | .map Option.none _ => true
  | .map (some r) es => match h.mapAt r with
    | some (ds, _) => MEnt.beqs ds es
    | Option.none => false
  | .none => true

def byteOf : AV → Option UInt8
  | .int .u8 n => some (UInt8.ofNat n.toNat)
  | _ => none

def bytesOf : List AV → Option (List UInt8)
  | [] => some []
  | c :: cs => (byteOf c).bind fun b => (bytesOf cs).map (b :: ·)

/-- A slice's bytes. -/
def aBytes (h : AH) (x : Option Sl) (K : Req → List UInt8 → R) : R :=
  match x with
  | none => K .none []
  | some s => if s.len = 0 then K .none [] else ob (h.cellsAt s.id s.off s.len) fun cs => ob (bytesOf cs) fun l => K (.cells s.id s.off s.len cs) l

def findEnt (P : Program) (t : TypeId) (k : AV) : List MEnt → (Option MEnt → R) → R
  | [], K => K none
  | e :: es, K => aEqT P 20 t k e.key fun b => bif b then K (some e) else findEnt P t k es K

def aRead (P : Program) (o : Oper) (env : List AV) (h : AH) (K : Req → AV → R) : R :=
  match o.op with
  | .load t x =>
    chkPtr (ev env x) fun p => ob p fun a =>
      guardR (okT P t) <|
      zeroOf P t fun z =>
      if isAggD (P.underlying t) then
        ob (h.cellsAt a.1 a.2 (P.cellsOf t)) fun cs => chkCells z.cells.toList cs fun cs => K (.cells a.1 a.2 (P.cellsOf t) cs) (.agg cs)
      else ob (h.cell a.1 a.2) fun v => chkCell z v fun v => K (.cells a.1 a.2 1 [v]) v
  | .convert src dst x =>
    match P.underlying src, P.underlying dst with
    | some (.slice e), some .string =>
      if P.underlying e matches some (.int .u8) then
        match ev env x with
        | .slice s => aBytes h s fun q l => K q (.str l)
        | _ => Res.fail
      else Res.fail
    | _, _ => Res.fail
  | .lookup t m k commaOk =>
    match P.underlying t with
    | some (.map key elem) =>
      zeroOf P key fun zk => zeroOf P elem fun ze =>
      chkOne zk (ev env k) fun k => aKey P 20 key k <|
      chkMap (ev env m) fun m =>
      match m with
      | none => K (.map none []) (if commaOk then .tup [ofConst ze, .bool false] else ofConst ze)
      | some r => ob (h.mapAt r) fun es => findEnt P key k es.1 fun
        | some e => chkOne ze e.val fun v => K (.map (some r) es.1) (if commaOk then .tup [v, .bool true] else v)
        | none => K (.map (some r) es.1) (if commaOk then .tup [ofConst ze, .bool false] else ofConst ze)
    | _ => Res.fail
  | .call c =>
    match c.callee with
    | .builtin .len =>
      match c.argTypes.toList, c.args.toList with
      | [t], [x] =>
        match P.underlying t, ev env x with
        | some (.map _ _), .map none => K (.map none []) (.int .i64 0)
        | some (.map _ _), .map (some r) => ob (h.mapAt r) fun es => K (.map (some r) es.1) (.int .i64 es.1.length)
        | _, _ => Res.fail
      | _, _ => Res.fail
    | _ => Res.fail
  | _ => Res.fail

def repZero (z : List AV) : Nat → List AV
  | 0 => []
  | n + 1 => z ++ repZero z n

/-- A block that is made, and the value that it gives under a number. -/
def aAlloc (P : Program) (o : Oper) (env : List AV) (K : ABlk → (Nat → AV) → R) : R :=
  match o.op with
  | .alloc t => zeroOf P t fun z => K (.cells (z.cells.toList.map ofCell) false) fun i => .ptr (some (i, 0))
  | .box t x => chkT P t (ev env x) fun v => K (.cells (cellsOf v) false) fun i => .ptr (some (i, 0))
  | .buildSlice t len parts =>
    match P.underlying t with
    | some (.slice e) =>
      if len * P.cellsOf e ≤ 16777216 then
      zeroOf P e fun z =>
      guardR (zOk P e z) <|
      ob (aFill (fun i => some (i * P.cellsOf e, P.cellsOf e)) (repZero (z.cells.toList.map ofCell) len) (parts.toList.map fun p => (p.1, ev env p.2))) fun cs =>
      K (.cells cs false) fun i => .slice (some ⟨i, 0, len, len, none⟩)
      else Res.fail
    | _ => Res.fail
  | .makeSlice t l c =>
    match P.underlying t with
    | some (.slice e) =>
      chkInt .i64 (ev env l) fun l => chkInt .i64 (ev env c) fun c =>
      if 0 ≤ l ∧ l ≤ c ∧ c ≤ 1099511627776 ∧ P.bytesOf e ≤ 128 then
        zeroOf P e fun z => guardR (zOk P e z) <| K (.cells (repZero (z.cells.toList.map ofCell) c.toNat) false) fun i => .slice (some ⟨i, 0, l.toNat, c.toNat, none⟩)
      else Res.fail
    | _ => Res.fail
  | .makeMap _ r =>
    match r with
    | none => K (.map [] 0) fun i => .map (some i)
    | some _ => Res.fail
  | .convert src dst x =>
    match P.underlying src, P.underlying dst with
    | some .string, some (.slice e) =>
      if P.underlying e matches some (.int .u8) then
        chkStr (ev env x) fun s => K (.cells (s.map fun b => .int .u8 b.toNat) false) fun i => .slice (some ⟨i, 0, s.length, s.length, some 1⟩)
      else Res.fail
    | _, _ => Res.fail
  | _ => Res.fail

/-- A slice's cells. -/
def AH.sliceAt (h : AH) (s : Sl) (size : Nat) : Option (List AV) := if s.len = 0 then some [] else h.cellsAt s.id s.off (s.len * size)

/-- 'append': the slice, the elements' size and bytes, the new cells, how many elements they are. -/
def aAppend (h : AH) (size bytes : Nat) (s : Option Sl) (new : List AV) (n : Nat) (K : Option Sl → AH → R) : R :=
  match s with
  | none =>
    if n = 0 then K none h
    else if n * bytes ≤ 70368744177664 then K (some ⟨h.length, 0, n, n, some size⟩) (h ++ [.cells new false])
    else Res.fail
  | some s =>
    if s.len + n ≤ s.cap then
      ob (if n = 0 then some h else h.puts s.id (s.off + s.len * size) new) fun h' => K (some ⟨s.id, s.off, s.len + n, s.cap, s.slack⟩) h'
    else if (s.len + n) * bytes ≤ 70368744177664 then
      ob (h.sliceAt s size) fun old =>
      match s.slack with
      | none => K (some ⟨h.length, 0, s.len + n, s.len + n, some size⟩) (h ++ [.cells (old ++ new) false])
      | some k => if k = size then
          (match h[s.id]? with
            | some (.cells _ false) => K (some ⟨h.length, 0, s.len + n, s.len + n, some size⟩) (h.set s.id .dead ++ [.cells (old ++ new) false])
            | _ => Res.fail)
          else Res.fail
    else Res.fail

/-- The cells of what is appended or copied, and how many elements they are. -/
def aNews (h : AH) (size : Nat) (x : AV) (K : List AV → Nat → R) : R :=
  match x with
  | .slice none => K [] 0
  | .slice (some s) => ob (h.sliceAt s size) fun cs => K cs s.len
  | .str s => if size = 1 then K (s.map fun b => .int .u8 b.toNat) s.length else Res.fail
  | _ => Res.fail

def setEnt (k v : AV) (e : MEnt) : MEnt := { e with key := k, val := v }

def AV.flat : AV → Bool
  | .bool _ | .int _ _ | .str _ => true
  | .agg cs => cs.all fun
    | .bool _ | .int _ _ | .str _ => true
    | _ => false
  | _ => false

/-- Where an entry is. -/
def findIx (P : Program) (t : TypeId) (k : AV) : List MEnt → Nat → (Option Nat → R) → R
  | [], _, K => K none
  | e :: es, i, K => aEqT P 20 t k e.key fun b => bif b then guardR (AV.beq k e.key && k.flat) (K (some i)) else findIx P t k es (i + 1) K

variable (P : Program) (C : FuncId → List AV → AH → (AV → AH → R) → R)

def aCall (f : FuncId) (args : List AV) (t : TypeId) (h : AH) (K : AV → AH → R) : R :=
  C f args h fun v h' => chkT P t v fun v => K v h'

def aBuiltin (b : Builtin) (argTypes : Array TypeId) (args : List AV) (h : AH) (K : AV → AH → R) : R :=
  match b with
  | .append =>
    match argTypes.toList, args with
    | [t, u], [s, x] =>
      match P.underlying t, P.underlying u with
      | some (.slice e), some d =>
        guardR (isSeqD d) <|
        chkSl s fun s => aNews h (P.cellsOf e) x fun new n => zeroOf P e fun z => guardR (zOk P e z && new.all AV.scal && P.bytesOf e != 0 && P.cellsOf e != 0) <| aAppend h (P.cellsOf e) (P.bytesOf e) s new n fun s h => K (.slice s) h
      | _, _ => Res.fail
    | _, _ => Res.fail
  | .copy =>
    match argTypes.toList, args with
    | t :: _, [d, x] =>
      match P.underlying t with
      | some (.slice e) =>
        guardR (okT P e) <|
        chkSl d fun
        | none => aNews h (P.cellsOf e) x fun _ _ => K (.int .i64 0) h
        | some d => aNews h (P.cellsOf e) x fun new n => guardR (new.all AV.scal) <|
          ob (if min n d.len = 0 then some h else h.puts d.id d.off (new.take (min n d.len * P.cellsOf e))) fun h' => K (.int .i64 (min n d.len)) h'
      | _ => Res.fail
    | _, _ => Res.fail
  | .clear =>
    match argTypes.toList.head?.bind P.underlying, args with
    | some (.slice e), [.slice (some s)] =>
      if s.len = 0 then K (.tup []) h
      else zeroOf P e fun z => guardR (zOk P e z && (z.cells.toList.map ofCell).all AV.scal) <| ob (h.puts s.id s.off (repZero (z.cells.toList.map ofCell) s.len)) fun h' => K (.tup []) h'
    | some (.slice _), [.slice none] => K (.tup []) h
    | some (.map _ _), [.map none] => K (.tup []) h
    | some (.map _ _), [.map (some r)] => ob (h.mapAt r) fun es => K (.tup []) (h.set r (.map [] es.2))
    | _, _ => Res.fail
  | .delete =>
    match argTypes.toList.head?.bind P.underlying, args with
    | some (.map key _), [.map (some r), k] =>
      zeroOf P key fun zk => chkOne zk k fun k => aKey P 20 key k <| ob (h.mapAt r) fun es => findIx P key k es.1 0 fun
        | some i => K (.tup []) (h.set r (.map (es.1.eraseIdx i) es.2))
        | none => K (.tup []) h
    | _, _ => Res.fail
  | _ => Res.fail

def aEff (o : Oper) (env : List AV) (h : AH) (K : AV → AH → R) : R :=
  match o.op with
  | .store t a x =>
    chkPtr (ev env a) fun p => ob p fun a =>
      if okT P t = true ∧ (cellsOf (ev env x)).length = P.cellsOf t ∧ (cellsOf (ev env x)).all AV.scal = true then ob (h.puts a.1 a.2 (cellsOf (ev env x))) fun h' => K .bot h' else Res.fail
  | .mapUpdate t m k x =>
    match P.underlying t with
    | some (.map key elem) =>
      zeroOf P key fun zk => chkOne zk (ev env k) fun k => aKey P 20 key k <| chkT P elem (ev env x) fun x =>
      chkMap (ev env m) fun m => ob m fun r => ob (h.mapAt r) fun es => findIx P key k es.1 0 fun
        | some i => K .bot (h.set r (.map (es.1.modify i (setEnt k x)) es.2))
        | none => K .bot (h.set r (.map (es.1 ++ [⟨k, x, es.2⟩]) (es.2 + 1)))
    | _ => Res.fail
  | .call c =>
    match c.callee with
    | .value f =>
      match ev env f with
      | .fn f first caps => aCall P C f (first ++ c.args.toList.map (ev env) ++ caps) o.type h K
      | _ => Res.fail
    | .builtin b => aBuiltin P b c.argTypes (c.args.toList.map (ev env)) h K
    | _ => Res.fail
  | .range t x =>
    match P.underlying t, ev env x with
    | some (.map _ _), .map none => K (.ptr (some (h.length, 0))) (h ++ [.iter none 0 [] 0])
    | some (.map _ _), .map (some m) => ob (h.mapAt m) fun es => K (.ptr (some (h.length, 0))) (h ++ [.iter (some m) es.2 [] es.2])
    | _, _ => Res.fail
  | .next it isString =>
    match ev env it with
    | .ptr (some (r, 0)) =>
      bif isString then Res.fail else
      match h[r]? with
      | some (.iter none _ _ _) => K (.tup [.bool false]) h
      | some (.iter (some m) since seen last) => ob (h.mapAt m) fun es =>
        if !seen.isEmpty && !es.1.isEmpty && es.1.all (·.born ≥ last) then Res.fail else
        let left := es.1.filter fun e => !seen.contains e.born
        let old := left.filter (·.born < since)
        let new := left.filter fun e => e.born ≥ since
        let cands := (if old.isEmpty then [none] else []) ++ (old ++ new).map some
        Res.all cands.length fun c =>
          match cands[c]? with
          | some (some e) => K (.tup [.bool true, e.key, e.val]) (h.set r (.iter (some m) since (seen ++ [e.born]) es.2))
          | some none => K (.tup [.bool false]) h
          | none => Res.fail
      | _ => Res.fail
    | _ => Res.fail
  | .entry it =>
    match ev env it with
    | .ptr (some (r, 0)) =>
      match h[r]? with
      | some (.iter (some m) _ seen stepped) => ob (h.mapAt m) fun es => ob seen.getLast? fun stamp =>
        if es.2 = stepped then ob (es.1.find? (·.born == stamp)) fun e => K (.tup [e.key, e.val]) h else Res.fail
      | _ => Res.fail
    | _ => Res.fail
  | _ => Res.fail

/-- Where a Bool is what decides on other operations, the ways part at once. -/
def splitB (t : Bool) (v : AV) (K : AV → R) : R :=
  bif t then
    (match v with
      | .bool b => bif b then K (.bool true) else K (.bool false)
      | v => K v)
  else K v

/-- One operation that is carried out: the number held for its block (none: a new one at the end). -/
def aOp (o : Oper) (slot : Option Nat) (env : List AV) (h : AH) (K : Req → AV → AH → R) : R :=
  match kindOf P o with
  | .pure => aPure P o env fun v => K .none v h
  | .read => aRead P o env h fun q v => K q v h
  | .alloc => aAlloc P o env fun b v =>
    match slot with
    | none => K .none (v h.length) (h ++ [b])
    | some i => match h[i]? with
      | some .unborn => K .none (v i) (h.set i b)
      | _ => Res.fail
  | .eff => aEff P C o env h fun v h' => K .none v h'

def putE (env : List AV) (dst : Option Tmp) (v : AV) : List AV :=
  match dst with
  | some d => env.set d v
  | none => env

/-- Is an operation carried out? By the slot of the one that it hangs on. -/
def wantedE (ops : List Oper) (o : Oper) (env : List AV) (K : Bool → R) : R :=
  match o.guard with
  | none => K true
  | some (g, w) =>
    match (ops[g]?).bind (·.dst) with
    | some d => (match env.getD d .bot with
      | .bool b => K (b == w)
      | .tup [] => K false
      | _ => Res.fail)
    | none => K false

/-- A step of a region: the operation's number, itself, the number (from the region's base on) held for its block, which of the reads before it are held against the heap behind it. -/
structure DI where
  i : Nat
  o : Oper
  slot : Option Nat
  re : List Nat

def oks (h : AH) (re : List Nat) (pd : List (Nat × Req)) : Bool := pd.all fun p => !re.contains p.1 || p.2.ok h

def runD (ops : List Oper) (base : Nat) : List DI → List (Nat × Req) → List AV → AH → (List AV → AH → R) → R
  | [], _, env, h, K => K env h
  | d :: l, pd, env, h, K => wantedE ops d.o env fun t => bif t then
      aOp P C d.o (d.slot.map (base + ·)) env h fun q v h' =>
        bif oks h' d.re pd then
          splitB (ops.any fun o => match o.guard with | some (g, _) => g == d.i | none => false) v fun v =>
            runD ops base l ((d.i, q) :: pd) (putE env d.o.dst v) h' K
        else Res.fail
    else runD ops base l pd (putE env d.o.dst (.tup [])) h K

/-- Are two operations apart: neither writes a slot that the other one looks at or writes? -/
def apartB (ops : Array Oper) (x y : Oper) : Bool := Oper.apart ops x y

def commK : Kind → Kind → Bool
  | .pure, _ | _, .pure => true
  | .read, .read | .read, .alloc | .read, .eff | .alloc, .alloc | .eff, .alloc => true
  | _, _ => false

/-- The next operation of the one order that is run: one that is ready and reads or reckons; else one that acts; else one that makes a block, for the next one that acts if there is one. -/
def pick1 (P : Program) (ops : Array Oper) (bef : Array Nat) (done : Nat) : Option Nat :=
  let ready := (List.range ops.size).filter fun i => !done.testBit i && (bef.getD i 0 &&& done == bef.getD i 0)
  let kd (i : Nat) : Kind := kindOf P (ops.getD i default)
  match ready.find? fun i => kd i == .pure || kd i == .read with
  | some i => some i
  | none =>
    match ready.find? fun i => kd i == .eff with
    | some i => some i
    | none =>
      match (List.range ops.size).find? fun i => !done.testBit i && kd i == .eff with
      | some e => match ready.find? fun i => (bef.getD e 0).testBit i with
        | some i => some i
        | none => ready.head?
      | none => ready.head?

def order (P : Program) (ops : Array Oper) (bef : Array Nat) : Nat → Nat → List Nat
  | 0, _ => []
  | n + 1, done => match pick1 P ops bef done with
    | some i => i :: order P ops bef n (done ||| 2 ^ i)
    | none => []

/-- The steps, the held numbers laid out. -/
def steps (P : Program) (ops : Array Oper) (bef : Array Nat) : List Nat → List Nat → Nat → List DI
  | [], _, _ => []
  | i :: l, before, k =>
    let o := ops.getD i default
    let al := kindOf P o == .alloc
    let re := if kindOf P o == .eff then before.filter fun j => kindOf P (ops.getD j default) == .read && !(bef.getD i 0).testBit j else []
    ⟨i, o, if al then some k else none, re⟩ :: steps P ops bef l (i :: before) (if al then k + 1 else k)

/-- What stands between two operations of the one order, the first of which comes first. -/
def pairOk (P : Program) (ops : Array Oper) (bef : Array Nat) (x y : DI) : Bool :=
  x.i != y.i && !(bef.getD x.i 0).testBit y.i && !(x.slot.isSome && x.slot == y.slot) &&
    ((bef.getD y.i 0).testBit x.i || (apartB ops x.o y.o && commK (kindOf P x.o) (kindOf P y.o) && (!(kindOf P x.o == .read && kindOf P y.o == .eff) || y.re.contains x.i)))

def pairsOk (P : Program) (ops : Array Oper) (bef : Array Nat) : List DI → Bool
  | [] => true
  | x :: l => l.all (pairOk P ops bef x) && pairsOk P ops bef l

/-- Is 'bef' what stands ahead of each operation, by the edges that bind? -/
def befOk (ops : Array Oper) (bef : Array Nat) : Bool :=
  (List.range ops.size).all fun j =>
    (ops.getD j default).after.toList.all fun e => !Region.binds .any e || (decide (e.on < j) && (bef.getD j 0).testBit e.on)

/-- All that stands ahead of an operation stands ahead by a chain of edges. -/
def befChain (ops : Array Oper) (bef : Array Nat) : Bool :=
  (List.range ops.size).all fun j => (List.range ops.size).all fun x =>
    !(bef.getD j 0).testBit x || (ops.getD j default).after.toList.any fun e => Region.binds .any e && (e.on == x || (bef.getD e.on 0).testBit x)

def diOk (P : Program) (ops : Array Oper) (n : Nat) (d : DI) : Bool :=
  decide (d.i < ops.size) && (kindOf P d.o == .eff || d.re.isEmpty) && (!(kindOf P d.o == .alloc) || d.slot.isSome) &&
    (match d.slot with
      | some s => decide (s < n)
      | none => true)

def canon (P : Program) (ops : Array Oper) : Option (List DI × Nat) :=
  let bef := Region.before ops
  let l := order P ops bef ops.size 0
  let ds := steps P ops bef l [] 0
  let n := (l.filter fun i => kindOf P (ops.getD i default) == .alloc).length
  if befOk ops bef && befChain ops bef && ds.length == ops.size && (List.range ops.size).all (fun i => ds.any (·.i == i)) && ds.all (diOk P ops n) && pairsOk P ops bef ds then some (ds, n) else none

/-- The text's order. -/
def plainDI (ops : List Oper) : List DI := ops.zipIdx.map fun (o, i) => ⟨i, o, none, []⟩

inductive AEx where
  | normal
  | exit (id : Nat)
  | ret

def dsts : Code → List Tmp
  | .region _ ops _ => ops.toList.filterMap (·.dst)
  | .seq a b => dsts a ++ dsts b
  | .cond _ a b => dsts a ++ dsts b
  | .block _ c => dsts c
  | .loop c => dsts c
  | .scope c => dsts c
  | _ => []

/-- For each loop, by its first region's number: the slots (as a mask) that are kept at its head, and those that are kept behind it; for some codes that follow another one, by the same number: the slots that are kept. -/
abbrev Keep := List (Nat × Nat × Nat) × List (Nat × Nat)

def firstId : Code → Option Nat
  | .region id _ _ => some id
  | .seq a b => (match firstId a with
    | some i => some i
    | none => firstId b)
  | .cond _ a b => (match firstId a with
    | some i => some i
    | none => firstId b)
  | .block _ c => firstId c
  | .loop c => firstId c
  | .scope c => firstId c
  | _ => none

def keepIn : List (Nat × Nat × Nat) → Option Nat → Nat × Nat
  | [], _ => (0, 0)
  | (k, m) :: l, i => if i = some k then m else keepIn l i

def keepOf (kp : Keep) (i : Option Nat) : Nat × Nat := keepIn kp.1 i

def cutIn : List (Nat × Nat) → Option Nat → Option Nat
  | [], _ => none
  | (k, m) :: l, i => if i = some k then some m else cutIn l i

def dmask (c : Code) : Nat := (dsts c).foldl (fun m t => m ||| 2 ^ t) 0

/-- At a loop's head: the slots that it does not need are forgotten. -/
def forget (k : Nat) : Nat → List AV → List AV
  | _, [] => []
  | i, v :: vs => (bif k.testBit i then v else .bot) :: forget k (i + 1) vs

/-- A join: a code that is held as a loop is, but run once. -/
def isScope : Code → Bool
  | .scope _ => true
  | _ => false

def likeC : AV → AV → (AV → R) → R
  | .int k _, v, K => chkInt k v fun n => K (.int k n)
  | .bool _, v, K => chkBool v fun b => K (.bool b)
  | .str _, v, K => chkStr v fun b => K (.str b)
  | .ptr _, v, K => chkPtr v fun b => K (.ptr b)
  | .slice _, v, K => chkSl v fun b => K (.slice b)
  | .map _, v, K => chkMap v fun b => K (.map b)
  | _, v, K => K v

def likeCs : List AV → List AV → (List AV → R) → R
  | [], l, K =>
    match l with
    | [] => K []
    | _ :: _ => Res.fail
  | z :: zs, l, K =>
    match l with
    | [] => Res.fail
    | v :: vs => likeC z v fun v' => likeCs zs vs fun vs' => K (v' :: vs')

/-- A value of the kind of another one. -/
def likeV (z v : AV) (K : AV → R) : R :=
  match z with
  | .agg zs =>
    match v with
    | .agg vs => likeCs zs vs fun vs' => K (.agg vs')
    | _ => Res.fail
  | z => likeC z v K

/-- Behind a loop: what it writes has the kind that it had, what it does not write is what it was, what is not needed is forgotten. -/
def after (d k : Nat) (env' : List AV) : Nat → List AV → (List AV → R) → R
  | _, [], K => K []
  | i, v :: vs, K =>
    bif k.testBit i then
      bif d.testBit i then likeV v (env'.getD i .bot) fun w => after d k env' (i + 1) vs fun ws => K (w :: ws)
      else guardR (AV.beq v (env'.getD i .bot)) (after d k env' (i + 1) vs fun ws => K (v :: ws))
    else after d k env' (i + 1) vs fun ws => K (.bot :: ws)

/-- The exits that leave a code. -/
def exits : Code → List Nat
  | .seq a b => exits a ++ exits b
  | .cond _ a b => exits a ++ exits b
  | .block id c => (exits c).filter fun i => i != id
  | .loop c => exits c
  | .scope c => exits c
  | .exit id => [id]
  | _ => []

def rets : Code → Bool
  | .seq a b => rets a || rets b
  | .cond _ a b => rets a || rets b
  | .block _ c => rets c
  | .loop c => rets c
  | .scope c => rets c
  | .ret => true
  | _ => false

def pickE (id : Nat) (F : Nat → R) : List Nat → R
  | [] => Res.fail
  | i :: l => bif id == i then F i else pickE id F l

def once : List Nat → List Nat
  | [] => []
  | i :: l => bif l.contains i then once l else i :: once l

def onExit (c : Code) (e : AEx) (F : AEx → R) : R :=
  match e with
  | .normal => Res.fail
  | .ret => bif rets c then F .ret else Res.fail
  | .exit id => pickE id (fun i => F (.exit i)) (once (exits c))

variable (L : Keep → Code → List AV → AH → (AEx → List AV → AH → R) → R)

def exec (kp : Keep) : Code → List AV → AH → (AEx → List AV → AH → R) → R
  | .skip, env, h, K => K .normal env h
  | .region _ ops draw, env, h, K =>
    bif draw then
      (match canon P ops with
        | some (l, n) => runD P C ops.toList h.length l [] env (h ++ List.replicate n .unborn) (K .normal)
        | none => Res.fail)
    else runD P C ops.toList 0 (plainDI ops.toList) [] env h (K .normal)
  | .seq a b, env, h, K => exec kp a env h fun e env h =>
    match e with
    | .normal =>
      match cutIn kp.2 (firstId b) with
      | some k => L kp (.scope b) (forget k 0 env) h K
      | none => exec kp b env h K
    | e => K e env h
  | .cond c a b, env, h, K => chkBool (ev env c) fun t => bif t then exec kp a env h K else exec kp b env h K
  | .block id c, env, h, K => exec kp c env h fun e env h =>
    match e with
    | .exit id' => bif id' == id then K .normal env h else K (.exit id') env h
    | e => K e env h
  | .loop c, env, h, K => guardR (!isScope c) <| L kp c (forget (keepOf kp (firstId c)).1 0 env) h fun e env' h' => onExit c e fun e => after (dmask c) (keepOf kp (firstId c)).2 env' 0 (forget (keepOf kp (firstId c)).1 0 env) fun env'' => K e env'' h'
  | .scope c, env, h, K => exec kp c env h K
  | .exit id, env, h, K => K (.exit id) env h
  | .label _, env, h, K => K .normal env h
  | .ret, env, h, K => K .ret env h
  | _, _, _, _ => Res.fail

/-- One round of a loop, and on; or a join's code. -/
def lstep (kp : Keep) (c : Code) (env : List AV) (h : AH) (K : AEx → List AV → AH → R) : R :=
  match c with
  | .scope b => exec P C L kp b env h K
  | c => exec P C L kp c env h fun e env h =>
    match e with
    | .normal => L kp c (forget (keepOf kp (firstId c)).1 0 env) h K
    | e => K e env h

def aResults (env : List AV) (h : AH) : List ResultVar → (List AV → R) → R
  | [], K => K []
  | .tmp t :: l, K => aResults env h l fun vs => K (env.getD t .bot :: vs)
  | .cell a t :: l, K =>
    chkPtr (env.getD a .bot) fun p => ob p fun a =>
      guardR (okT P t) <|
      zeroOf P t fun z =>
      if isAggD (P.underlying t) then ob (h.cellsAt a.1 a.2 (P.cellsOf t)) fun cs => chkCells z.cells.toList cs fun cs => aResults env h l fun vs => K (.agg cs :: vs)
      else ob (h.cell a.1 a.2) fun v => chkCell z v fun v => aResults env h l fun vs => K (v :: vs)

def tupOf : List AV → AV
  | [v] => v
  | vs => .tup vs

/-- A function's body. -/
def fstep (M : FuncId → Keep) (f : FuncId) (args : List AV) (h : AH) (K : AV → AH → R) : R :=
  ob P.funcs[f]? fun fn => ob fn.body fun c => guardR (fn.name != "runtime.NumGoroutine") <|
    exec P C L (M f) c (args ++ List.replicate (fn.ntmps - args.length) .bot) h fun e env h =>
      match e with
      | .normal | .ret => aResults P env h fn.results.toList fun vs => K (tupOf vs) h
      | _ => Res.fail

end

/-! The least reading that is closed: as propositions. -/

abbrev CallP := FuncId → List AV → AH → (AV → AH → Prop) → Prop
abbrev LoopP := Keep → Code → List AV → AH → (AEx → List AV → AH → Prop) → Prop

structure MonoC (C : CallP) : Prop where
  mono : ∀ f args h K K', (∀ v h', K v h' → K' v h') → C f args h K → C f args h K'

structure MonoL (L : LoopP) : Prop where
  mono : ∀ kp c env h K K', (∀ e env h', K e env h' → K' e env h') → L kp c env h K → L kp c env h K'

structure ClosedP (P : Program) (M : FuncId → Keep) (C : CallP) (L : LoopP) : Prop where
  mc : MonoC C
  ml : MonoL L
  call : ∀ f args h K, fstep P C L M f args h K → C f args h K
  loop : ∀ kp c env h K, lstep P C L kp c env h K → L kp c env h K

/-- A call ends, with what K says. -/
def ACall (P : Program) (M : FuncId → Keep) : CallP := fun f args h K => ∀ C L, ClosedP P M C L → C f args h K
def ALoop (P : Program) (M : FuncId → Keep) : LoopP := fun kp c env h K => ∀ C L, ClosedP P M C L → L kp c env h K

/-! The same, run with fuel, as a Bool. -/

def runB (P : Program) (M : FuncId → Keep) : Nat → (FuncId → List AV → AH → (AV → AH → Bool) → Bool) × (Keep → Code → List AV → AH → (AEx → List AV → AH → Bool) → Bool)
  | 0 => (fun _ _ _ _ => false, fun _ _ _ _ _ => false)
  | n + 1 => (fun f args h K => fstep P (runB P M n).1 (runB P M n).2 M f args h K, fun kp c env h K => lstep P (runB P M n).1 (runB P M n).2 kp c env h K)

end Go.Abs
