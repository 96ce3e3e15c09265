/- The framework's words: abstract values, abstract memory, compiled operations, and the verification conditions of compiled code. No program is named here. · What the abstract words mean in a world: RV (a value), MR (the memory that a function owns), Rep (a state). · What reading and writing cells comes to, cell by cell. · How a state goes over a write, a new block, a block that moves. · Each operation that leaves memory alone does what core says. · Operations that write memory or make it. · Addresses, parts, lengths, conversions: operations that leave memory alone. · Whole numbers: the model's Int with wraps, and Lean's UIntN. · Operators on whole numbers. · int's operators, shifts, conversions; the operators as one law. · The operators as one law; unary operators; conversions. · Conversions. · Slices: what they hold, slice expressions, strings of bytes. · append, in all its ways. · append, over a state. · append does what core says. · Slice expressions, arrays out of slices, bytes as a string. · Composite values. · Composite values, made slices: what core says of them. · Made slices; noughts appended; copy; min. · A slice turned to its own type: the block is marked, and read alone from there on. · == of arrays of whole numbers. · == of structs. -/
import Derived.Orders
import Derived.Maps.AppendAt
import Derived.Laws.Rows
import Derived.Laws.Cells
import Derived.Below
import Derived.Laws.Strings
import Derived.Laws.Slices
import Derived.Laws.BytesString
import Derived.Laws.MakeOwn
import Derived.ChangeKeysEq
import Derived.DeepKeys
set_option linter.unusedVariables false
set_option linter.unusedSimpArgs false
set_option linter.unusedSectionVars false
/-! Vc1 -/
namespace Go.Vc

mutual
inductive AV where
  | any | und | nil
  | bool (b : Bool)
  | u8 (x : UInt8) | u16 (x : UInt16) | u32 (x : UInt32) | u64 (x : UInt64)
  | n (x : Nat) | i (x : Int)
  | str (s : List UInt8)
  | ptr (k o : Nat)
  | own (k o len e : Nat)
  | ref (c : Cells) (o : Nat)
  | sl (fr : Bool) (c : Cells)
  | sln (c : Cells)
  | agg (c : Cells)
  | tup (l : List AV)
inductive Cells where
  | b8 (l : List UInt8) | b32 (l : List UInt32) | b64 (l : List UInt64) | ns (l : List Nat)
  | bss (l : List (List UInt8)) | strs (l : List (List UInt8))
  | gen (l : List AV)
  | recs (sz : Nat) (l : List (List AV))
end

instance : Inhabited AV := ⟨.any⟩
instance : Inhabited Cells := ⟨.gen []⟩

/-- the kinds of elements -/
inductive Kd where
  | k8 | k32 | k64 | kn | kb | ks | kg | kr (sz : Nat)
  deriving DecidableEq

def Kd.nil : Kd → Cells
  | .k8 => .b8 [] | .k32 => .b32 [] | .k64 => .b64 [] | .kn => .ns [] | .kb => .bss [] | .ks => .strs [] | .kg => .gen [] | .kr sz => .recs sz []

namespace Cells
def len : Cells → Nat
  | .b8 l => l.length | .b32 l => l.length | .b64 l => l.length | .ns l => l.length
  | .bss l => l.length | .strs l => l.length | .gen l => l.length
  | .recs sz l => sz * l.length
def count : Cells → Nat
  | .b8 l => l.length | .b32 l => l.length | .b64 l => l.length | .ns l => l.length
  | .bss l => l.length | .strs l => l.length | .gen l => l.length
  | .recs _ l => l.length
/-- cells of an element -/
def esz : Cells → Nat
  | .recs sz _ => sz
  | _ => 1
def get : Cells → Nat → AV
  | .b8 l, j => .u8 (l.getD j 0) | .b32 l, j => .u32 (l.getD j 0) | .b64 l, j => .u64 (l.getD j 0) | .ns l, j => .n (l.getD j 0)
  | .bss l, j => .sl false (.b8 (l.getD j [])) | .strs l, j => .str (l.getD j [])
  | .gen l, j => l.getD j .any
  | .recs sz l, j => (l.getD (j / sz) []).getD (j % sz) .any
/-- m cells from o on -/
def sub : Cells → Nat → Nat → Cells
  | .b8 l, o, m => .b8 ((l.drop o).take m) | .b32 l, o, m => .b32 ((l.drop o).take m) | .b64 l, o, m => .b64 ((l.drop o).take m)
  | .ns l, o, m => .ns ((l.drop o).take m) | .bss l, o, m => .bss ((l.drop o).take m) | .strs l, o, m => .strs ((l.drop o).take m)
  | .gen l, o, m => .gen ((l.drop o).take m)
  | .recs sz l, o, m => .gen (((l.getD (o / sz) []).drop (o % sz)).take m)
/-- m elements from the lo-th on -/
def part : Cells → Nat → Nat → Cells
  | .recs sz l, lo, m => .recs sz ((l.drop lo).take m)
  | c, lo, m => c.sub lo m
def app : Cells → Cells → Option Cells
  | .b8 l, .b8 l' => some (.b8 (l ++ l')) | .b32 l, .b32 l' => some (.b32 (l ++ l')) | .b64 l, .b64 l' => some (.b64 (l ++ l'))
  | .ns l, .ns l' => some (.ns (l ++ l')) | .bss l, .bss l' => some (.bss (l ++ l')) | .strs l, .strs l' => some (.strs (l ++ l'))
  | .gen l, .gen l' => some (.gen (l ++ l'))
  | .recs sz l, .recs sz' l' => if sz = sz' then some (.recs sz (l ++ l')) else none
  | _, _ => none
def rd (c : Cells) (o : Nat) : Option Nat → AV
  | none => c.get o
  | some m => .agg (c.sub o m)
def put : Cells → Nat → AV → Option Cells
  | .b8 l, o, .u8 x => some (.b8 (l.set o x))
  | .b32 l, o, .u32 x => some (.b32 (l.set o x))
  | .b64 l, o, .u64 x => some (.b64 (l.set o x))
  | .ns l, o, .n x => some (.ns (l.set o x))
  | .gen l, o, v => some (.gen (l.set o v))
  | .recs sz l, o, v => some (.recs sz (l.set (o / sz) ((l.getD (o / sz) []).set (o % sz) v)))
  | _, _, _ => none
end Cells

def splice {α : Type} (l : List α) (o : Nat) (l' : List α) : List α := l.take o ++ l' ++ l.drop (o + l'.length)

namespace Cells
def puts : Cells → Nat → Cells → Option Cells
  | .b8 l, o, .b8 l' => some (.b8 (splice l o l'))
  | .b32 l, o, .b32 l' => some (.b32 (splice l o l'))
  | .b64 l, o, .b64 l' => some (.b64 (splice l o l'))
  | .ns l, o, .ns l' => some (.ns (splice l o l'))
  | .gen l, o, .gen l' => some (.gen (splice l o l'))
  | .recs sz l, o, .gen l' => some (.recs sz (l.set (o / sz) (splice (l.getD (o / sz) []) (o % sz) l')))
  | _, _, _ => none
/-- its cells, one by one (of a list that is written out) -/
def toL : Cells → List AV
  | .b8 l => l.map .u8 | .b32 l => l.map .u32 | .b64 l => l.map .u64 | .ns l => l.map .n
  | .bss l => l.map fun x => .sl false (.b8 x) | .strs l => l.map .str | .gen l => l
  | .recs _ _ => []
end Cells

/-- a record that is read or written in part lies there whole -/
def Cells.recOk (o m : Nat) : Cells → Prop
  | .recs sz l => o % sz + m ≤ sz ∧ (l.getD (o / sz) []).length = sz
  | _ => True
/-- m cells from o on lie in it -/
def Cells.has (c : Cells) (o m : Nat) : Prop := o + m ≤ c.len ∧ c.recOk o m

inductive Opd where
  | t (x : Nat) | c (v : AV)

/-- kinds of a struct's cells that == asks -/
inductive Ek where
  | bool | u8 | u16 | u32 | u64 | int | str
  deriving DecidableEq

inductive MOp where
  | mv (x : Opd)
  | pick (c a b : Opd)
  | alloc (z : Cells)
  | box (x : Opd)
  | bld (kd : Kd) (xs : List Opd)
  | bldz (kd : Kd) (z : List AV) (xs : List (Nat × Nat × Opd))
  | bsl (kd : Kd) (xs : List Opd)
  | load (sz : Option Nat) (a : Opd)
  | store (sz : Option Nat) (a x : Opd)
  | nilc (x : Opd)
  | bin (op : BinOp) (x y : Opd)
  | binB (op : BinOp) (x y : Opd)
  | binS (op : BinOp) (x y : Opd)
  | binN (x y : Opd)
  | binA (n : Nat) (neg : Bool) (x y : Opd)
  | binG (ks : List Ek) (neg : Bool) (x y : Opd)
  | un (op : UnOp) (x : Opd)
  | conv (k : IntKind) (x : Opd)
  | b2s (x : Opd)
  | cvs (x : Opd)
  | idxS (e : Nat) (x i : Opd)
  | idxA (m e : Nat) (x i : Opd)
  | fld (off : Nat) (x : Opd)
  | field (off : Nat) (sz : Option Nat) (x : Opd)
  | idx (m : Nat) (x i : Opd)
  | ext (j : Nat) (x : Opd)
  | idxT (x i : Opd)
  | lenS (x : Opd)
  | lenT (x : Opd)
  | capn (x : Opd)
  | minN (xs : List Opd)
  | app (kd : Kd) (z : List AV) (by_ : Nat) (s x : Opd)
  | appz (kd : Kd) (z : List AV) (by_ : Nat) (s x : Opd)
  | copy (d s : Opd)
  | slcS (e : Nat) (x : Opd) (lo hi : Option Opd)
  | slcT (x : Opd) (lo hi : Option Opd)
  | slcA (m e : Nat) (x : Opd) (lo hi : Option Opd)
  | mk (kd : Kd) (z : List AV) (by_ : Nat) (l c : Opd)
  | call (mu : Bool) (f : Nat) (args : List (Opd × Option Kd))
  | s2a (m : Nat) (x : Opd)
  | bad

structure MO where
  d : Option Nat
  g : Option (Nat × Bool)
  op : MOp
  aft : List Nat := []
  sus : List Nat := []
  bef : Nat := 0

inductive MC where
  | skip
  | region (id : Nat) (ops : List MO) (draw : Bool) (live : List Nat)
  | seq (a b : MC)
  | cond (c : Opd) (x y : MC)
  | block (id : Nat) (b : MC)
  | loop (b : MC)
  | exit (id : Nat)
  | ret
  | bad
  | cut (b : MC)

abbrev Tm := List (Nat × AV)
abbrev Me := List (Nat × Option Cells)

structure St where
  tm : Tm
  me : Me

def tget : Tm → Nat → AV
  | [], _ => .any
  | (k, v) :: r, t => if k = t then v else tget r t
def mget : Me → Nat → Option (Option Cells)
  | [], _ => none
  | (k, c) :: r, t => if k = t then some c else mget r t
def mset : Me → Nat → Option Cells → Me
  | [], k, c => [(k, c)]
  | (k', c') :: r, k, c => if k' = k then (k, c) :: r else (k', c') :: mset r k c
def msets : Me → List (Nat × Option Cells) → Me
  | m, [] => m
  | m, (k, c) :: r => msets (mset m k c) r
def setT (tm : Tm) : Option Nat → AV → Tm
  | none, _ => tm
  | some d, v => (d, v) :: tm

def ev (tm : Tm) : Opd → AV
  | .t x => tget tm x
  | .c v => v

structure R where
  pre : Prop
  v : AV
  mw : List (Nat × Option Cells)
  mr : List Nat

def fail : R := ⟨False, .any, [], []⟩
def okv (p : Prop) (v : AV) : R := ⟨p, v, [], []⟩

def shl8 (x : UInt8) (c : Nat) : UInt8 := if c < 8 then x <<< (UInt8.ofNat c) else 0
def shr8 (x : UInt8) (c : Nat) : UInt8 := if c < 8 then x >>> (UInt8.ofNat c) else 0
def shl16 (x : UInt16) (c : Nat) : UInt16 := if c < 16 then x <<< (UInt16.ofNat c) else 0
def shr16 (x : UInt16) (c : Nat) : UInt16 := if c < 16 then x >>> (UInt16.ofNat c) else 0
def shl32 (x : UInt32) (c : Nat) : UInt32 := if c < 32 then x <<< (UInt32.ofNat c) else 0
def shr32 (x : UInt32) (c : Nat) : UInt32 := if c < 32 then x >>> (UInt32.ofNat c) else 0
def shl64 (x : UInt64) (c : Nat) : UInt64 := if c < 64 then x <<< (UInt64.ofNat c) else 0
def shr64 (x : UInt64) (c : Nat) : UInt64 := if c < 64 then x >>> (UInt64.ofNat c) else 0

/-- a whole number as an index -/
def ixN : AV → Option (Prop × Nat)
  | .n x => some (True, x)
  | .i x => some (0 ≤ x, x.toNat)
  | .u8 x => some (True, x.toNat) | .u16 x => some (True, x.toNat) | .u32 x => some (True, x.toNat) | .u64 x => some (True, x.toNat)
  | _ => none

def shift (left : Bool) (x : AV) (c : Option (Prop × Nat)) : R :=
  match c with
  | none => fail
  | some (p, c) => match x with
    | .u8 x => okv p (.u8 (if left = true then shl8 x c else shr8 x c))
    | .u16 x => okv p (.u16 (if left = true then shl16 x c else shr16 x c))
    | .u32 x => okv p (.u32 (if left = true then shl32 x c else shr32 x c))
    | .u64 x => okv p (.u64 (if left = true then shl64 x c else shr64 x c))
    | _ => fail

/-- an int's range -/
def inI (x : Int) : Prop := -9223372036854775808 ≤ x ∧ x < 9223372036854775808

def binI (op : BinOp) (x y : Int) : R :=
  match op with
  | .add => okv (inI (x + y)) (.i (x + y))
  | .sub => okv (inI (x - y)) (.i (x - y))
  | .mul => okv (inI (x * y)) (.i (x * y))
  | .eql => okv True (.bool (decide (x = y))) | .neq => okv True (.bool (decide (x ≠ y)))
  | .lss => okv True (.bool (decide (x < y))) | .leq => okv True (.bool (decide (x ≤ y)))
  | .gtr => okv True (.bool (decide (y < x))) | .geq => okv True (.bool (decide (y ≤ x)))
  | .and => okv True (.i (IntKind.i64.wrap ((BitVec.ofInt 64 x &&& BitVec.ofInt 64 y).toNat : Int)))
  | .quo => okv (0 ≤ x ∧ x < 9223372036854775808 ∧ 0 < y) (.i (x / y))
  | .rem => okv (0 ≤ x ∧ 0 < y) (.i (x % y))
  | _ => fail

mutual
/-- are two values alike? (None: the framework cannot tell) -/
def eqv : AV → AV → Option Bool
  | .bool a, .bool b => some (a == b)
  | .u8 a, .u8 b => some (decide (a = b)) | .u16 a, .u16 b => some (decide (a = b)) | .u32 a, .u32 b => some (decide (a = b)) | .u64 a, .u64 b => some (decide (a = b))
  | .n a, .n b => some (decide (a = b)) | .i a, .i b => some (decide (a = b)) | .n a, .i b => some (decide ((a : Int) = b)) | .i a, .n b => some (decide (a = (b : Int)))
  | .str a, .str b => some (decide (a = b))
  | _, _ => none
end
def eqvs : List AV → List AV → Option Bool
  | [], [] => some true
  | a :: l, b :: l' => match eqv a b, eqvs l l' with
    | some x, some y => some (x && y)
    | _, _ => none
  | _, _ => none
def eqc : Cells → Cells → Option Bool
  | .b8 a, .b8 b => some (decide (a = b))
  | .b32 a, .b32 b => some (decide (a = b))
  | .b64 a, .b64 b => some (decide (a = b))
  | .ns a, .ns b => some (decide (a = b))
  | .gen a, .gen b => eqvs a b
  | _, _ => none
/-- a cell of a kind, in its bounds -/
def kOk : Ek → AV → Prop
  | .bool, .bool _ => True | .u8, .u8 _ => True | .u16, .u16 _ => True | .u32, .u32 _ => True | .u64, .u64 _ => True
  | .int, .n x => x < 9223372036854775808
  | .int, .i x => -9223372036854775808 ≤ x ∧ x < 9223372036854775808
  | .str, .str s => s.length < 9223372036854775808
  | _, _ => False
def kOks : List Ek → List AV → Prop
  | [], [] => True
  | k :: ks, a :: l => kOk k a ∧ kOks ks l
  | _, _ => False
def Cells.whole : Cells → Bool
  | .b8 _ | .b32 _ | .b64 _ | .ns _ => true
  | _ => false
def eqr : Option Bool → Bool → R
  | some b, s => okv True (.bool (b == s))
  | none, _ => fail

def bin (op : BinOp) (a b : AV) : R :=
  match op, a, b with
  | .shl, x, y => shift true x (ixN y)
  | .shr, x, y => shift false x (ixN y)
  | op, .n x, .n y => match op with
    | .add => okv (x + y < 9223372036854775808) (.n (x + y))
    | .sub => okv (inI ((x : Int) - y)) (.i ((x : Int) - y))
    | .mul => okv (x * y < 9223372036854775808) (.n (x * y))
    | .quo => okv (x < 9223372036854775808 ∧ 0 < y) (.n (x / y))
    | .rem => okv (0 < y) (.n (x % y))
    | .eql => okv True (.bool (decide (x = y))) | .neq => okv True (.bool (decide (x ≠ y)))
    | .lss => okv True (.bool (decide (x < y))) | .leq => okv True (.bool (decide (x ≤ y)))
    | .gtr => okv True (.bool (decide (y < x))) | .geq => okv True (.bool (decide (y ≤ x)))
    | .and => okv (x < 9223372036854775808 ∧ y < 9223372036854775808) (.n (x &&& y))
    | _ => fail
  | op, .n x, .i y => binI op x y
  | op, .i x, .n y => binI op x y
  | op, .i x, .i y => binI op x y
  | op, .u8 x, .u8 y => match op with
    | .add => okv True (.u8 (x + y)) | .sub => okv True (.u8 (x - y)) | .mul => okv True (.u8 (x * y))
    | .and => okv True (.u8 (x &&& y)) | .or => okv True (.u8 (x ||| y)) | .xor => okv True (.u8 (x ^^^ y)) | .andNot => okv True (.u8 (x &&& ~~~y))
    | .quo => okv (y ≠ 0) (.u8 (x / y)) | .rem => okv (y ≠ 0) (.u8 (x % y))
    | .eql => okv True (.bool (decide (x = y))) | .neq => okv True (.bool (decide (x ≠ y)))
    | .lss => okv True (.bool (decide (x < y))) | .leq => okv True (.bool (decide (x ≤ y)))
    | .gtr => okv True (.bool (decide (y < x))) | .geq => okv True (.bool (decide (y ≤ x)))
    | _ => fail
  | op, .u16 x, .u16 y => match op with
    | .add => okv True (.u16 (x + y)) | .sub => okv True (.u16 (x - y)) | .mul => okv True (.u16 (x * y))
    | .and => okv True (.u16 (x &&& y)) | .or => okv True (.u16 (x ||| y)) | .xor => okv True (.u16 (x ^^^ y)) | .andNot => okv True (.u16 (x &&& ~~~y))
    | .quo => okv (y ≠ 0) (.u16 (x / y)) | .rem => okv (y ≠ 0) (.u16 (x % y))
    | .eql => okv True (.bool (decide (x = y))) | .neq => okv True (.bool (decide (x ≠ y)))
    | .lss => okv True (.bool (decide (x < y))) | .leq => okv True (.bool (decide (x ≤ y)))
    | .gtr => okv True (.bool (decide (y < x))) | .geq => okv True (.bool (decide (y ≤ x)))
    | _ => fail
  | op, .u32 x, .u32 y => match op with
    | .add => okv True (.u32 (x + y)) | .sub => okv True (.u32 (x - y)) | .mul => okv True (.u32 (x * y))
    | .and => okv True (.u32 (x &&& y)) | .or => okv True (.u32 (x ||| y)) | .xor => okv True (.u32 (x ^^^ y)) | .andNot => okv True (.u32 (x &&& ~~~y))
    | .quo => okv (y ≠ 0) (.u32 (x / y)) | .rem => okv (y ≠ 0) (.u32 (x % y))
    | .eql => okv True (.bool (decide (x = y))) | .neq => okv True (.bool (decide (x ≠ y)))
    | .lss => okv True (.bool (decide (x < y))) | .leq => okv True (.bool (decide (x ≤ y)))
    | .gtr => okv True (.bool (decide (y < x))) | .geq => okv True (.bool (decide (y ≤ x)))
    | _ => fail
  | op, .u64 x, .u64 y => match op with
    | .add => okv True (.u64 (x + y)) | .sub => okv True (.u64 (x - y)) | .mul => okv True (.u64 (x * y))
    | .and => okv True (.u64 (x &&& y)) | .or => okv True (.u64 (x ||| y)) | .xor => okv True (.u64 (x ^^^ y)) | .andNot => okv True (.u64 (x &&& ~~~y))
    | .quo => okv (y ≠ 0) (.u64 (x / y)) | .rem => okv (y ≠ 0) (.u64 (x % y))
    | .eql => okv True (.bool (decide (x = y))) | .neq => okv True (.bool (decide (x ≠ y)))
    | .lss => okv True (.bool (decide (x < y))) | .leq => okv True (.bool (decide (x ≤ y)))
    | .gtr => okv True (.bool (decide (y < x))) | .geq => okv True (.bool (decide (y ≤ x)))
    | _ => fail
  | .eql, .bool x, .bool y => okv True (.bool (x == y))
  | .neq, .bool x, .bool y => okv True (.bool (x != y))
  | .eql, .str x, .str y => okv True (.bool (decide (x = y)))
  | .neq, .str x, .str y => okv True (.bool (decide (x ≠ y)))
  | .add, .str x, .str y => okv (x.length + y.length < 9223372036854775808) (.str (x ++ y))
  | .eql, .agg x, .agg y => eqr (eqc x y) true
  | .neq, .agg x, .agg y => eqr (eqc x y) false
  | .eql, .nil, .nil => okv True (.bool true)
  | .eql, .sln _, .nil => okv True (.bool false)
  | _, _, _ => fail

def un (op : UnOp) (a : AV) : R :=
  match op, a with
  | .not, .bool b => okv True (.bool !b)
  | .xor, .u8 x => okv True (.u8 (~~~x)) | .xor, .u16 x => okv True (.u16 (~~~x)) | .xor, .u32 x => okv True (.u32 (~~~x)) | .xor, .u64 x => okv True (.u64 (~~~x))
  | _, _ => fail

def conv (k : IntKind) (a : AV) : R :=
  match k, a with
  | .u8, .u8 x => okv True (.u8 x) | .u8, .u16 x => okv True (.u8 x.toUInt8) | .u8, .u32 x => okv True (.u8 x.toUInt8) | .u8, .u64 x => okv True (.u8 x.toUInt8)
  | .u16, .u8 x => okv True (.u16 x.toUInt16) | .u16, .u16 x => okv True (.u16 x) | .u16, .u32 x => okv True (.u16 x.toUInt16) | .u16, .u64 x => okv True (.u16 x.toUInt16)
  | .u32, .u8 x => okv True (.u32 x.toUInt32) | .u32, .u16 x => okv True (.u32 x.toUInt32) | .u32, .u32 x => okv True (.u32 x) | .u32, .u64 x => okv True (.u32 x.toUInt32)
  | .u64, .u8 x => okv True (.u64 x.toUInt64) | .u64, .u16 x => okv True (.u64 x.toUInt64) | .u64, .u32 x => okv True (.u64 x.toUInt64) | .u64, .u64 x => okv True (.u64 x)
  | .i64, .u8 x => okv True (.n x.toNat) | .i64, .u16 x => okv True (.n x.toNat) | .i64, .u32 x => okv True (.n x.toNat)
  | .i64, .u64 x => okv (x.toNat < 9223372036854775808) (.n x.toNat)
  | .i64, .n x => okv (x < 9223372036854775808) (.n x) | .i64, .i x => okv (inI x) (.i x)
  | .u8, .n x => okv True (.u8 (UInt8.ofNat x)) | .u16, .n x => okv True (.u16 (UInt16.ofNat x)) | .u32, .n x => okv True (.u32 (UInt32.ofNat x)) | .u64, .n x => okv True (.u64 (UInt64.ofNat x))
  | .u8, .i x => okv True (.u8 (UInt8.ofInt x)) | .u16, .i x => okv True (.u16 (UInt16.ofInt x)) | .u32, .i x => okv True (.u32 (UInt32.ofInt x)) | .u64, .i x => okv True (.u64 (UInt64.ofInt x))
  | _, _ => fail

def AV.one : AV → Bool
  | .any | .und | .agg _ | .tup _ => false
  | _ => true

/-- values that are whole numbers -/
def AV.num : AV → Bool
  | .u8 _ | .u16 _ | .u32 _ | .u64 _ | .n _ | .i _ => true
  | _ => false

/-- the elements that a slice of a block names lie in it -/
def Cells.win (c : Cells) (o l e : Nat) : Prop := e = c.esz ∧ 0 < e ∧ o % e = 0 ∧ o / e + l ≤ c.count

/-- cells as cells of a kind that holds them one by one -/
def Cells.asK : Kd → Cells → Cells
  | .kg => fun c => match c with
    | .bss l => .gen (l.map fun x => .sl false (.b8 x))
    | .strs l => .gen (l.map .str)
    | c => c
  | _ => fun c => c

/-- what a slice holds -/
def content (m : Nat → Option (Option Cells)) (kd : Kd) : AV → Option (Prop × Cells × List Nat)
  | .nil => some (True, kd.nil, [])
  | .sl _ c => some (True, c.asK kd, [])
  | .sln c => some (True, c.asK kd, [])
  | .own k o l e => match m k with
    | some (some c) => some (c.win o l e, c.part (o / e) l, [k])
    | _ => none
  | .str s => some (True, .b8 s, [])
  | _ => none

/-- how long a slice is -/
def lenOf : AV → Option Nat
  | .nil => some 0
  | .sl _ c => some c.count | .sln c => some c.count
  | .own _ _ l _ => some l
  | .str s => some s.length
  | _ => none

/-- values that name no memory -/
def AV.sc : AV → Bool
  | .any | .und | .nil | .bool _ | .u8 _ | .u16 _ | .u32 _ | .u64 _ | .n _ | .i _ | .str _ => true
  | _ => false
/-- cells that name no memory -/
def Cells.sc : Cells → Prop
  | .bss _ => False
  | .gen l => l.all AV.sc = true
  | .recs _ l => ∀ r ∈ l, r.all AV.sc = true
  | _ => True
/-- cells that name no memory of one's own, and say of none that it is new -/
def Cells.nf : Cells → Prop
  | .gen l => l.all AV.sc = true
  | .recs _ l => ∀ r ∈ l, r.all AV.sc = true
  | _ => True

/-- a value as a callee sees it: what it owns is read alone -/
def pur (m : Nat → Option (Option Cells)) : Nat → AV → AV
  | 0, _ => .any
  | f + 1, .own k o l e => match m k with
    | some (some c) => match c.part (o / e) l with
      | .gen l' => .sl false (.gen (l'.map (pur m f)))
      | c' => .sl false c'
    | _ => .any
  | _ + 1, .ptr _ _ => .any
  | _ + 1, .sl _ c => .sl false c
  | f + 1, .agg (.gen l) => .agg (.gen (l.map (pur m f)))
  | _ + 1, .agg (.recs _ _) => .any
  | _ + 1, .tup _ => .any
  | _ + 1, v => v
/-- it may be seen so -/
def purP (m : Nat → Option (Option Cells)) : Nat → AV → Prop
  | 0, _ => True
  | f + 1, .own k o l e => match m k with
    | some (some c) => c.win o l e ∧ (match c.part (o / e) l with
      | .gen l' => ∀ x ∈ l', purP m f x ∧ x.one = true ∧ (pur m f x).one = true
      | .recs _ _ => False
      | _ => True)
    | _ => True
  | f + 1, .agg (.gen l) => ∀ x ∈ l, purP m f x ∧ x.one = true ∧ (pur m f x).one = true
  | _ + 1, .sl _ c => c.nf
  | _ + 1, .sln c => c.nf
  | _ + 1, .ref c _ => c.nf
  | _ + 1, _ => True

def unB : AV → List UInt8
  | .sl _ (.b8 x) => x | .sln (.b8 x) => x
  | _ => []
def isB : AV → Bool
  | .sl _ (.b8 _) => true | .sln (.b8 _) => true | .nil => true
  | _ => false

/-- an argument in the form that its type has -/
def coe : Option Kd → AV → R
  | none, v => okv True v
  | some k, .nil => okv True (.sl false k.nil)
  | some .kb, .sl _ (.gen l) => okv (l.all isB = true) (.sl false (.bss (l.map unB)))
  | some _, v => okv True v

structure CR where
  pre : Prop
  res : AV
  mem : List (Option Cells)
  fresh : List Cells

abbrev Ctr := Nat → List AV → List Cells → CR

/-- a result names new memory alone (al: or, what is read alone may be what the caller reads alone) -/
def resOk (al : Prop) : Nat → AV → Prop
  | 0, _ => False
  | _ + 1, .sl fr c => (fr = true ∨ al) ∧ c.sc
  | _ + 1, .sln _ => False
  | _ + 1, .ref _ _ => False
  | f + 1, .agg (.gen l) => ∀ x ∈ l, resOk al f x
  | _ + 1, .agg c => c.sc
  | f + 1, .tup l => ∀ x ∈ l, resOk al f x
  | _ + 1, _ => True
def resOkC (al : Prop) (f : Nat) : Cells → Prop
  | .gen l => ∀ x ∈ l, resOk al f x
  | c => c.sc

/-- the key of a new block that a call handed back -/
def fkey (d j : Nat) : Nat := (j + 3) * 1000 + d

/-- keys turned -/
def ren (f : Nat → Nat) : Nat → AV → AV
  | 0, _ => .any
  | _ + 1, .ptr k o => .ptr (f k) o
  | _ + 1, .own k o l e => .own (f k) o l e
  | m + 1, .agg (.gen l) => .agg (.gen (l.map (ren f m)))
  | m + 1, .tup l => .tup (l.map (ren f m))
  | _ + 1, v => v
def renC (f : Nat → Nat) (m : Nat) : Cells → Cells
  | .gen l => .gen (l.map (ren f m))
  | c => c

/-- a callee's key as the caller's: the j-th block handed over, the j-th new one -/
def back (ks : List Nat) (d k : Nat) : Nat := if k < 2000 then ks.getD (k - 1000) 0 else fkey d (k - 2000)
/-- a caller's key as the callee's -/
def there : List Nat → Nat → Nat → Nat
  | [], _, _ => 0
  | a :: r, j, k => if a = k then j else there r (j + 1) k

/-- the keys that a value names, in order -/
def keysOf (m : Nat → Option (Option Cells)) : Nat → AV → List Nat
  | 0, _ => []
  | f + 1, .ptr k _ => k :: (match m k with | some (some (.gen l)) => l.flatMap (keysOf m f) | _ => [])
  | f + 1, .own k _ _ _ => k :: (match m k with | some (some (.gen l)) => l.flatMap (keysOf m f) | _ => [])
  | f + 1, .agg (.gen l) => l.flatMap (keysOf m f)
  | _ + 1, _ => []
def dd : List Nat → List Nat → List Nat
  | acc, [] => acc
  | acc, a :: r => if a ∈ acc then dd acc r else dd (acc ++ [a]) r

def alive (m : Nat → Option (Option Cells)) (k : Nat) : Option Cells := (m k).bind id

def un8 : List AV → Option (List UInt8)
  | [] => some []
  | .u8 x :: r => (un8 r).map (x :: ·)
  | _ => none
def un32 : List AV → Option (List UInt32)
  | [] => some []
  | .u32 x :: r => (un32 r).map (x :: ·)
  | _ => none
def un64 : List AV → Option (List UInt64)
  | [] => some []
  | .u64 x :: r => (un64 r).map (x :: ·)
  | _ => none
def unN : List AV → Option (List Nat)
  | [] => some []
  | .n x :: r => (unN r).map (x :: ·)
  | _ => none
def unS : List AV → Option (List (List UInt8))
  | [] => some []
  | .str x :: r => (unS r).map (x :: ·)
  | _ => none
def unR (sz : Nat) : List AV → Option (List (List AV))
  | [] => some []
  | .agg (.gen x) :: r => if x.length = sz then (unR sz r).map (x :: ·) else none
  | _ => none
/-- the cells of elements that are written out -/
def tyC : Kd → List AV → Option Cells
  | .k8, l => (un8 l).map .b8
  | .k32, l => (un32 l).map .b32
  | .k64, l => (un64 l).map .b64
  | .kn, l => (unN l).map .ns
  | .ks, l => (unS l).map .strs
  | .kr sz, l => (unR sz l).map (.recs sz)
  | _, l => if l.all AV.one = true then some (.gen l) else none
/-- m elements that hold nothing yet -/
def zeroC (z : List AV) (m : Nat) : Kd → Cells
  | .k8 => .b8 (List.replicate m 0) | .k32 => .b32 (List.replicate m 0) | .k64 => .b64 (List.replicate m 0) | .kn => .ns (List.replicate m 0)
  | .kb => .bss (List.replicate m []) | .ks => .strs (List.replicate m [])
  | .kg => .gen (List.replicate m (z.getD 0 .any))
  | .kr sz => .recs sz (List.replicate m z)
def Kd.esz : Kd → Nat
  | .kr sz => sz
  | _ => 1

/-- the parts of a struct or an array (where, of how many cells, what), laid over its noughts -/
def fillL : List AV → List (Nat × Nat × AV) → Option (List AV)
  | z, [] => some z
  | z, (o, n, .agg c) :: r => if c.len = n ∧ c.toL.length = n ∧ o + n ≤ z.length then fillL (splice z o c.toL) r else none
  | z, (o, n, v) :: r => if n = 1 ∧ o < z.length ∧ v.one = true then fillL (z.set o v) r else none

def minA : AV → AV → Option AV
  | .n x, .n y => some (.n (min x y))
  | .n x, .i y => some (.i (min (x : Int) y))
  | .i x, .n y => some (.i (min x (y : Int)))
  | .i x, .i y => some (.i (min x y))
  | _, _ => none
def minL : AV → List AV → Option AV
  | v, [] => some v
  | v, a :: r => match minA v a with
    | some u => minL u r
    | none => none

/-- the bounds of a slice expression: low, high, that they are right -/
def bnds (tm : Tm) (lo hi : Option Opd) (l : Nat) : Option (Prop × Nat × Nat) :=
  match lo, hi with
  | none, none => some (True, 0, l)
  | some a, none => (ixN (ev tm a)).map fun x => (x.1 ∧ x.2 ≤ l, x.2, l)
  | none, some b => (ixN (ev tm b)).map fun y => (y.1 ∧ y.2 ≤ l, 0, y.2)
  | some a, some b => match ixN (ev tm a), ixN (ev tm b) with
    | some x, some y => some (x.1 ∧ y.1 ∧ x.2 ≤ y.2 ∧ y.2 ≤ l, x.2, y.2)
    | _, _ => none

/-- 2^47 bytes: what a slice that grows may come to -/
def room (c by_ : Nat) : Prop := c < 9223372036854775808 ∧ c * by_ ≤ 140737488355328

/-- append: s and what comes to it -/
def appR (m : Nat → Option (Option Cells)) (d : Nat) (kd : Kd) (by_ : Nat) (s : AV) (news : Option (Prop × Cells × List Nat)) : R :=
  match news with
  | none => fail
  | some (p, cn, ks) => match s with
    | .nil => match kd.nil.app cn with
      | some c => ⟨p ∧ m d = none ∧ room c.count by_ ∧ cn.esz = kd.esz, .own d 0 c.count kd.esz, [(d, some c)], d :: ks⟩
      | none => fail
    | .own k o l e => match m k with
      | some (some c0) => match (c0.part 0 l).app cn with
        | some c => ⟨p ∧ m d = none ∧ o = 0 ∧ e = kd.esz ∧ l ≤ c0.count ∧ room c.count by_ ∧ c0.esz = e ∧ cn.esz = e, .own d 0 c.count e, [(k, none), (d, some c)], d :: k :: ks⟩
        | none => fail
      | _ => fail
    | _ => fail

def callR (Γ : Ctr) (d : Nat) (mu : Bool) (f : Nat) (vals : List (AV × Option Kd)) (m : Nat → Option (Option Cells)) : R :=
  if mu = true then
    let ks := dd [] (vals.flatMap fun x => keysOf m 3 x.1)
    let L := ks.filterMap (alive m)
    let g := fun k => 1000 + there ks 0 k
    let cr := Γ f (vals.map fun x => ren g 3 x.1) (L.map (renC g 3))
    ⟨L.length = ks.length ∧ cr.pre ∧ cr.mem.length = ks.length ∧ (∀ j, j < cr.fresh.length → m (fkey d j) = none),
     ren (back ks d) 3 cr.res,
     (ks.zip cr.mem).map (fun x => (x.1, x.2.map (renC (back ks d) 3))) ++ cr.fresh.mapIdx (fun j c => (fkey d j, some (renC (back ks d) 3 c))),
     (cr.fresh.mapIdx fun j _ => fkey d j) ++ ks⟩
  else
    let as := vals.map fun x => coe x.2 (pur m 3 x.1)
    let cr := Γ f (as.map (·.v)) []
    ⟨(∀ x ∈ vals, purP m 3 x.1) ∧ (∀ x ∈ as, x.pre) ∧ cr.pre ∧ resOk ((vals.flatMap fun x => keysOf m 3 x.1) = []) 3 cr.res ∧ (∀ c ∈ cr.fresh, resOkC False 2 c) ∧ (∀ j, j < cr.fresh.length → m (fkey d j) = none),
     ren (back [] d) 3 cr.res,
     cr.fresh.mapIdx (fun j c => (fkey d j, some (renC (back [] d) 3 c))),
     (cr.fresh.mapIdx fun j _ => fkey d j) ++ vals.flatMap fun x => keysOf m 3 x.1⟩

def core (Γ : Ctr) (d : Nat) (op : MOp) (tm : Tm) (m : Nat → Option (Option Cells)) : R :=
  match op with
  | .mv x => okv True (ev tm x)
  | .pick c a b => match ev tm c with
    | .bool t => okv True (if t = true then ev tm a else ev tm b)
    | _ => fail
  | .alloc z => ⟨m d = none, .ptr d 0, [(d, some z)], [d]⟩
  | .box x => match ev tm x with
    | .agg c => ⟨m d = none, .ptr d 0, [(d, some c)], [d]⟩
    | v => ⟨m d = none ∧ v.one = true, .ptr d 0, [(d, some (.gen [v]))], [d]⟩
  | .load sz a => match ev tm a with
    | .ptr k o => match m k with
      | some (some c) => ⟨c.has o (sz.getD 1), c.rd o sz, [], [k]⟩
      | _ => ⟨False, .any, [], [k]⟩
    | .ref c o => okv (c.has o (sz.getD 1)) (c.rd o sz)
    | _ => fail
  | .store none a x => match ev tm a with
    | .ptr k o => match m k with
      | some (some c) => match c.put o (ev tm x) with
        | some c' => ⟨c.has o 1 ∧ (ev tm x).one = true, .und, [(k, some c')], [k]⟩
        | none => ⟨False, .any, [], [k]⟩
      | _ => ⟨False, .any, [], [k]⟩
    | _ => fail
  | .store (some sz) a x => match ev tm a, ev tm x with
    | .ptr k o, .agg c' => match m k with
      | some (some c) => match c.puts o c' with
        | some c2 => ⟨c'.len = sz ∧ c.has o sz, .und, [(k, some c2)], [k]⟩
        | none => ⟨False, .any, [], [k]⟩
      | _ => ⟨False, .any, [], [k]⟩
    | _, _ => fail
  | .nilc x => match ev tm x with
    | .ptr k o => okv True (.ptr k o)
    | .ref c o => okv True (.ref c o)
    | _ => fail
  | .bin op x y => ⟨(ev tm x).num = true ∧ (ev tm y).num = true ∧ (bin op (ev tm x) (ev tm y)).pre, (bin op (ev tm x) (ev tm y)).v, [], []⟩
  | .binB op x y => match ev tm x, ev tm y with
    | .bool p, .bool q => okv (bin op (.bool p) (.bool q)).pre (bin op (.bool p) (.bool q)).v
    | _, _ => fail
  | .binS op x y => match ev tm x, ev tm y with
    | .str p, .str q => okv (bin op (.str p) (.str q)).pre (bin op (.str p) (.str q)).v
    | _, _ => fail
  | .binN x y => match ev tm x, ev tm y with
    | .nil, .nil => okv True (.bool true)
    | .sln _, .nil => okv True (.bool false)
    | _, _ => fail
  | .binA n neg x y => match ev tm x, ev tm y with
    | .agg p, .agg q => ⟨p.len = n ∧ q.len = n ∧ p.whole = true ∧ (eqr (eqc p q) (!neg)).pre, (eqr (eqc p q) (!neg)).v, [], []⟩
    | _, _ => fail
  | .binG ks neg x y => match ev tm x, ev tm y with
    | .agg (.gen p), .agg (.gen q) => ⟨kOks ks p ∧ kOks ks q ∧ (eqr (eqvs p q) (!neg)).pre, (eqr (eqvs p q) (!neg)).v, [], []⟩
    | _, _ => fail
  | .un op x => un op (ev tm x)
  | .conv k x => conv k (ev tm x)
  | .b2s x => match ev tm x with
    | .str _ => fail
    | v => match content m .k8 v with
      | some (p, .b8 l, ks) => ⟨p, .str l, [], ks⟩
      | _ => fail
  | .cvs x => match ev tm x with
    | .own k o l e => match m k with
      | some (some (.b8 L)) => ⟨o = 0 ∧ e = 1 ∧ L.length = l ∧ 0 < l, .sl false (.b8 L), [(k, none)], [k]⟩
      | _ => fail
    | _ => fail
  | .idxS e x i => match ixN (ev tm i) with
    | none => fail
    | some (p, j) => match ev tm x with
      | .sl _ c => okv (p ∧ j < c.count) (.ref c (j * e))
      | .sln c => okv (p ∧ j < c.count) (.ref c (j * e))
      | .own k o l e' => okv (p ∧ j < l ∧ e = e') (.ptr k (o + j * e))
      | _ => fail
  | .idxA n e x i => match ixN (ev tm i) with
    | none => fail
    | some (p, j) => match ev tm x with
      | .ptr k o => okv (p ∧ j < n) (.ptr k (o + j * e))
      | .ref c o => okv (p ∧ j < n) (.ref c (o + j * e))
      | _ => fail
  | .fld off x => match ev tm x with
    | .ptr k o => okv True (.ptr k (o + off))
    | .ref c o => okv True (.ref c (o + off))
    | _ => fail
  | .field off sz x => match ev tm x with
    | .agg c => okv (c.has off (sz.getD 1)) (c.rd off sz)
    | _ => fail
  | .idx n x i => match ixN (ev tm i) with
    | none => fail
    | some (p, j) => match ev tm x with
      | .agg c => okv (p ∧ j < n ∧ c.len = n) (c.get j)
      | _ => fail
  | .idxT x i => match ixN (ev tm i), ev tm x with
    | some (p, j), .str s => okv (p ∧ j < s.length) (.u8 (s.getD j 0))
    | _, _ => fail
  | .ext j x => match ev tm x with
    | .tup l => okv (j < l.length) (l.getD j .any)
    | _ => fail
  | .lenS x => match ev tm x with
    | .nil => okv True (.n 0)
    | .sl _ c => okv True (.n c.count)
    | .sln c => okv True (.n c.count)
    | .own _ _ l _ => okv True (.n l)
    | _ => fail
  | .lenT x => match ev tm x with
    | .str s => okv True (.n s.length)
    | _ => fail
  | .capn x => match ev tm x with
    | .nil => okv True (.n 0)
    | _ => fail
  | .bld kd xs => match tyC kd (xs.map (ev tm)) with
    | some c => okv True (.agg c)
    | none => fail
  | .bldz kd z xs => match fillL z (xs.map fun x => (x.1, x.2.1, ev tm x.2.2)) with
    | some l => match tyC kd l with
      | some c => okv True (.agg c)
      | none => fail
    | none => fail
  | .bsl kd xs => match tyC kd (xs.map (ev tm)) with
    | some c => ⟨m d = none, .own d 0 xs.length kd.esz, [(d, some c)], [d]⟩
    | none => fail
  | .minN xs => match xs.map (ev tm) with
    | v :: r => match minL v r with
      | some u => okv True u
      | none => fail
    | [] => fail
  | .app kd _ b s x => match ev tm x with
    | .str _ => fail
    | v => appR m d kd b (ev tm s) (content m kd v)
  | .appz kd z b s x => match ixN (ev tm x) with
    | some (p, j) => let r := appR m d kd b (ev tm s) (some (True, zeroC z j kd, []))
      ⟨p ∧ j < 140737488355328 ∧ r.pre, r.v, r.mw, r.mr⟩
    | none => fail
  | .copy x y => match ev tm x, ev tm y with
    | _, .str _ => fail
    | .own k o l e, vy => match m k, content m .k8 vy, lenOf vy with
      | some (some c), some (p, cn, ks), some ly => match c.puts o (cn.part 0 (min ly l)) with
        | some c' => ⟨p ∧ e = 1 ∧ cn.esz = 1 ∧ c.has o (min ly l), .n (min ly l), [(k, some c')], k :: ks⟩
        | none => fail
      | _, _, _ => fail
    | _, _ => fail
  | .slcS e x lo hi => match lenOf (ev tm x) with
    | none => fail
    | some l => match bnds tm lo hi l with
      | none => fail
      | some (p, a, b) => match ev tm x with
        | .nil => okv p .nil
        | .sl fr c => okv (p ∧ c.esz = e) (.sl fr (c.part a (b - a)))
        | .sln c => okv (p ∧ c.esz = e) (.sl false (c.part a (b - a)))
        | .own k o _ e' => okv (p ∧ e' = e) (.own k (o + a * e) (b - a) e)
        | _ => fail
  | .slcT x lo hi => match ev tm x with
    | .str s => match bnds tm lo hi s.length with
      | some (p, a, b) => okv p (.str ((s.drop a).take (b - a)))
      | none => fail
    | _ => fail
  | .slcA n e x lo hi => match bnds tm lo hi n with
    | none => fail
    | some (p, a, b) => match ev tm x with
      | .ptr k o => match m k with
        | some (some c) => ⟨p ∧ o + n * e ≤ c.len, .own k (o + a * e) (b - a) e, [], [k]⟩
        | _ => fail
      | _ => fail
  | .mk kd z b l c => match ixN (ev tm l), ixN (ev tm c) with
    | some (p, l), some (q, c) => ⟨p ∧ q ∧ l ≤ c ∧ room c b ∧ m d = none, .own d 0 l kd.esz, [(d, some (zeroC z c kd))], [d]⟩
    | _, _ => fail
  | .call mu f args => callR Γ d mu f (args.map fun x => (ev tm x.1, x.2)) m
  | .s2a n x => match ev tm x with
    | .sl _ c => okv (n ≤ c.count ∧ 0 < n) (.ref c 0)
    | .sln c => okv (n ≤ c.count ∧ 0 < n) (.ref c 0)
    | .own k o l e => okv (n ≤ l ∧ 0 < n) (.ptr k o)
    | _ => fail
  | .bad => fail

def vcOps (Γ : Ctr) : List MO → St → (St → Prop) → Prop
  | [], s, K => K s
  | o :: os, s, K =>
    match o.g with
    | none => (core Γ (o.d.getD 0) o.op s.tm (mget s.me)).pre ∧ vcOps Γ os ⟨setT s.tm o.d (core Γ (o.d.getD 0) o.op s.tm (mget s.me)).v, msets s.me (core Γ (o.d.getD 0) o.op s.tm (mget s.me)).mw⟩ K
    | some (g, want) => match tget s.tm g with
      | .bool b => (b = want → (core Γ (o.d.getD 0) o.op s.tm (mget s.me)).pre ∧ vcOps Γ os ⟨setT s.tm o.d (core Γ (o.d.getD 0) o.op s.tm (mget s.me)).v, msets s.me (core Γ (o.d.getD 0) o.op s.tm (mget s.me)).mw⟩ K) ∧
        (¬ b = want → vcOps Γ os ⟨setT s.tm o.d .und, s.me⟩ K)
      | .und => vcOps Γ os ⟨setT s.tm o.d .und, s.me⟩ K
      | _ => False

/-- nothing here is written that an unordered one reads or writes, and the other way round -/
def disj (fs : List (List Nat × List Nat)) (sus : List Nat) (mw : List (Nat × Option Cells)) (mr : List Nat) : Prop :=
  ∀ j ∈ sus, (∀ k ∈ (fs.getD j ([], [])).2, k ∉ mr) ∧ ∀ k ∈ mw, k.1 ∉ (fs.getD j ([], [])).1 ∧ k.1 ∉ (fs.getD j ([], [])).2

/-- the same of a region that draws its order -/
def vcOpsD (Γ : Ctr) : List MO → List (List Nat × List Nat) → St → (St → Prop) → Prop
  | [], _, s, K => K s
  | o :: os, fs, s, K =>
    match o.g with
    | none => (core Γ (o.d.getD 0) o.op s.tm (mget s.me)).pre ∧ disj fs o.sus (core Γ (o.d.getD 0) o.op s.tm (mget s.me)).mw (core Γ (o.d.getD 0) o.op s.tm (mget s.me)).mr ∧
      vcOpsD Γ os (fs ++ [((core Γ (o.d.getD 0) o.op s.tm (mget s.me)).mr, (core Γ (o.d.getD 0) o.op s.tm (mget s.me)).mw.map (·.1))]) ⟨setT s.tm o.d (core Γ (o.d.getD 0) o.op s.tm (mget s.me)).v, msets s.me (core Γ (o.d.getD 0) o.op s.tm (mget s.me)).mw⟩ K
    | some (g, want) => match tget s.tm g with
      | .bool b => (b = want → (core Γ (o.d.getD 0) o.op s.tm (mget s.me)).pre ∧ disj fs o.sus (core Γ (o.d.getD 0) o.op s.tm (mget s.me)).mw (core Γ (o.d.getD 0) o.op s.tm (mget s.me)).mr ∧
          vcOpsD Γ os (fs ++ [((core Γ (o.d.getD 0) o.op s.tm (mget s.me)).mr, (core Γ (o.d.getD 0) o.op s.tm (mget s.me)).mw.map (·.1))]) ⟨setT s.tm o.d (core Γ (o.d.getD 0) o.op s.tm (mget s.me)).v, msets s.me (core Γ (o.d.getD 0) o.op s.tm (mget s.me)).mw⟩ K) ∧
        (¬ b = want → vcOpsD Γ os (fs ++ [([], [])]) ⟨setT s.tm o.d .und, s.me⟩ K)
      | .und => vcOpsD Γ os (fs ++ [([], [])]) ⟨setT s.tm o.d .und, s.me⟩ K
      | _ => False

def keep (live : List Nat) (tm : Tm) : Tm := live.map fun t => (t, tget tm t)
end Go.Vc

/-! Vc2 -/
set_option linter.unusedVariables false
set_option linter.unusedSimpArgs false
namespace Go.Vc

abbrev Bt := Nat → Option (Option (Nat × Nat))
def bt0 : Bt := fun _ => none

/-- B: the heap's size when the function began; O: the blocks that it owns. -/
inductive RV (B : Nat) (O : Nat → Prop) (w : World) : Bt → AV → Value → Prop
  | any {β v} : RV B O w β .any v
  | und {β} : RV B O w β .und undef
  | nil {β} : RV B O w β .nil (.slice none 0 0)
  | bool {β b} : RV B O w β (.bool b) (.bool b)
  | u8 {β} {x : UInt8} : RV B O w β (.u8 x) (.int .u8 (x.toNat : Int))
  | u16 {β} {x : UInt16} : RV B O w β (.u16 x) (.int .u16 (x.toNat : Int))
  | u32 {β} {x : UInt32} : RV B O w β (.u32 x) (.int .u32 (x.toNat : Int))
  | u64 {β} {x : UInt64} : RV B O w β (.u64 x) (.int .u64 (x.toNat : Int))
  | n {β} {x : Nat} : RV B O w β (.n x) (.int .i64 (x : Int))
  | i {β} {x : Int} : RV B O w β (.i x) (.int .i64 x)
  | str {β} {s : ByteArray} : RV B O w β (.str s.data.toList) (.string s)
  | ptr {β : Bt} {k o b sz} (h : β k = some (some (b, sz))) : RV B O w β (.ptr k o) (.pointer (some ⟨b, o, none⟩))
  | own {β : Bt} {k o o' b sz len cap e} (h : β k = some (some (b, sz))) (hl : len ≤ cap) (hc : o + cap * e ≤ sz) (ho : o' = o ∨ cap = 0) : RV B O w β (.own k o len e) (.slice (some ⟨b, o', none⟩) len cap)
  | ownnil {β : Bt} {k e} (h : β k = some none) : RV B O w β (.own k 0 0 e) (.slice none 0 0)
  | ref {β : Bt} {c : Cells} {a : Addr} {o : Nat} {us : List Value} (hl : us.length = c.len) (hc : ∀ j u, us[j]? = some u → w.cell? (a.add j) = some u) (hO : ¬ O a.block) (hb : a.block < w.heap.size)
      (h1 : ∀ u ∈ us, u.oneCell' = true) (hs : ∀ j, j < c.len → RV B O w bt0 (c.get j) (us.getD j undef)) : RV B O w β (.ref c o) (.pointer (some (a.add o)))
  | sl {β : Bt} {fr : Bool} {c : Cells} {a : Addr} {cap : Nat} {us : List Value} (hl : us.length = c.len) (hc : ∀ j u, us[j]? = some u → w.cell? (a.add j) = some u) (hO : ¬ O a.block) (hb : a.block < w.heap.size) (hf : fr = true → B ≤ a.block)
      (h1 : ∀ u ∈ us, u.oneCell' = true) (hcap : c.count ≤ cap) (hs : ∀ j, j < c.len → RV B O w bt0 (c.get j) (us.getD j undef)) : RV B O w β (.sl fr c) (.slice (some a) c.count cap)
  | sl0 {β : Bt} {fr : Bool} {c : Cells} {a : Option Addr} {cap : Nat} (h : c.len = 0) (h' : c.count = 0) (hn : a = none → cap = 0) : RV B O w β (.sl fr c) (.slice a 0 cap)
  | sln {β : Bt} {c : Cells} {a : Addr} {cap : Nat} {us : List Value} (hl : us.length = c.len) (hc : ∀ j u, us[j]? = some u → w.cell? (a.add j) = some u) (hO : ¬ O a.block) (hb : a.block < w.heap.size)
      (h1 : ∀ u ∈ us, u.oneCell' = true) (hcap : c.count ≤ cap) (hs : ∀ j, j < c.len → RV B O w bt0 (c.get j) (us.getD j undef)) : RV B O w β (.sln c) (.slice (some a) c.count cap)
  | sln0 {β : Bt} {c : Cells} {a : Addr} {cap : Nat} (h : c.len = 0) (h' : c.count = 0) : RV B O w β (.sln c) (.slice (some a) 0 cap)
  | agg {β : Bt} {c : Cells} {us : List Value} (hl : us.length = c.len) (h1 : ∀ u ∈ us, u.oneCell' = true) (hs : ∀ j, j < c.len → RV B O w β (c.get j) (us.getD j undef)) : RV B O w β (.agg c) (.agg us.toArray)
  | tup {β : Bt} {l : List AV} {us : List Value} (hl : us.length = l.length) (hs : ∀ j, j < l.length → RV B O w β (l.getD j .any) (us.getD j undef)) : RV B O w β (.tup l) (.tuple us.toArray)

/-- the world may go on as long as what was read alone stays -/
theorem RV.mono {B : Nat} {O : Nat → Prop} {w : World} {β : Bt} {a : AV} {v : Value} (h : RV B O w β a v) {B' : Nat} {O' : Nat → Prop} {w' : World} (hB : B' ≤ B)
    (hO : ∀ b, b < w.heap.size → O' b → O b) (hsz : w.heap.size ≤ w'.heap.size) (hw : ∀ b, b < w.heap.size → ¬ O b → w'.heap[b]? = w.heap[b]?) :
    ∀ β' : Bt, (∀ k x, β k = some x → β' k = some x) → RV B' O' w' β' a v := by
  have cellk : ∀ (a : Addr) (us : List Value), ¬ O a.block → a.block < w.heap.size → (∀ j u, us[j]? = some u → w.cell? (a.add j) = some u) → (∀ j u, us[j]? = some u → w'.cell? (a.add j) = some u) := by
    intro a us h1 h2 h3 j u hj
    have hb : (a.add j).block = a.block := by unfold Addr.add; split <;> rfl
    rw [World.cell?_of_block (w := w) (hw _ (by rw [hb]; exact h2) (by rw [hb]; exact h1))]
    exact h3 j u hj
  induction h with
  | any => intro β' _; exact .any
  | und => intro β' _; exact .und
  | nil => intro β' _; exact .nil
  | bool => intro β' _; exact .bool
  | u8 => intro β' _; exact .u8
  | u16 => intro β' _; exact .u16
  | u32 => intro β' _; exact .u32
  | u64 => intro β' _; exact .u64
  | n => intro β' _; exact .n
  | i => intro β' _; exact .i
  | str => intro β' _; exact .str
  | ptr h => intro β' hb; exact .ptr (hb _ _ h)
  | own h hl hc ho => intro β' hb; exact .own (hb _ _ h) hl hc ho
  | ownnil h => intro β' hb; exact .ownnil (hb _ _ h)
  | ref hl hc hO' hb h1 hs ih => intro β' _; exact .ref hl (cellk _ _ hO' hb hc) (fun hx => hO' (hO _ hb hx)) (Nat.lt_of_lt_of_le hb hsz) h1 (fun j hj => ih j hj bt0 (fun _ _ h => h))
  | sl hl hc hO' hb hf h1 hcap hs ih => intro β' _; exact .sl hl (cellk _ _ hO' hb hc) (fun hx => hO' (hO _ hb hx)) (Nat.lt_of_lt_of_le hb hsz) (fun e => Nat.le_trans hB (hf e)) h1 hcap (fun j hj => ih j hj bt0 (fun _ _ h => h))
  | sl0 h h' hn => intro β' _; exact .sl0 h h' hn
  | sln0 h h' => intro β' _; exact .sln0 h h'
  | sln hl hc hO' hb h1 hcap hs ih => intro β' _; exact .sln hl (cellk _ _ hO' hb hc) (fun hx => hO' (hO _ hb hx)) (Nat.lt_of_lt_of_le hb hsz) h1 hcap (fun j hj => ih j hj bt0 (fun _ _ h => h))
  | agg hl h1 hs ih => intro β' hb; exact .agg hl h1 (fun j hj => ih j hj β' hb)
  | tup hl hs ih => intro β' hb; exact .tup hl (fun j hj => ih j hj β' hb)

theorem RV.one {B O w β a v} (h : RV B O w β a v) (h1 : a.one = true) : v.oneCell' = true := by
  cases h <;> first | rfl | (simp [AV.one] at h1)

/-- a function's frame: what it began with -/
structure Fr where
  B : Nat
  bor : Nat → Prop
  w0 : World
  /-- blocks that are another's: they are not come near -/
  off : Nat → Prop := fun _ => False

def Owned (me : Me) (β : Bt) (b : Nat) : Prop := ∃ k c sz, mget me k = some (some c) ∧ β k = some (some (b, sz))

/-- what is not read alone: one's own, another's -/
def Own (F : Fr) (me : Me) (β : Bt) (b : Nat) : Prop := Owned me β b ∨ F.off b
theorem Own.imp {F : Fr} {me me' : Me} {β β' : Bt} {b : Nat} (h : Own F me β b) (hi : Owned me β b → Owned me' β' b) : Own F me' β' b := h.elim (fun h => .inl (hi h)) .inr

def BlkRep (B : Nat) (O : Nat → Prop) (w : World) (β : Bt) (x : Option (Option (Nat × Nat))) (c : Cells) : Prop :=
  match x with
  | none => False
  | some none => c.len = 0 ∧ c.count = 0
  | some (some (b, sz)) => ∃ cs T, w.heap[b]? = some (.cells cs T (0, 0)) ∧ cs.size = sz ∧ c.len ≤ sz ∧ (∀ u ∈ cs.toList, u.oneCell' = true) ∧ ∀ j, j < c.len → RV B O w β (c.get j) (cs.getD j undef)

structure FrameOk (F : Fr) (w : World) : Prop where
  os : w.os = F.w0.os
  tape : w.tape = F.w0.tape
  output : w.output = F.w0.output
  hB : F.B = F.w0.heap.size
  size : F.B ≤ w.heap.size
  keep : ∀ b, b < F.B → ¬ F.bor b → w.heap[b]? = F.w0.heap[b]?
  offs : ∀ b, F.off b → b < F.B ∧ ¬ F.bor b

structure MR (F : Fr) (me : Me) (β : Bt) (w : World) : Prop where
  un : ∀ k, mget me k = none → β k = none
  bl : ∀ k c, mget me k = some (some c) → BlkRep F.B (Own F me β) w β (β k) c
  inj : ∀ k k' c c' b sz sz', mget me k = some (some c) → mget me k' = some (some c') → β k = some (some (b, sz)) → β k' = some (some (b, sz')) → k = k'
  ow : ∀ k c b sz, mget me k = some (some c) → β k = some (some (b, sz)) → F.bor b ∨ F.B ≤ b
  fr : FrameOk F w

structure Rep (nt : Nat) (F : Fr) (s : St) (β : Bt) (a : Act) (w : World) : Prop where
  nt : a.tmps.size = nt
  df : a.defers = []
  tm : ∀ t, RV F.B (Own F s.me β) w β (tget s.tm t) (a.tmps.getD t undef)
  mr : MR F s.me β w

theorem Rep.evc {nt F s β a w} (h : Rep nt F s β a w) (t : Nat) : RV F.B (Own F s.me β) w β (tget s.tm t) (a.eval (.tmp t)) := h.tm t

/-- a value is put in its slot, memory stays -/
theorem Rep.put {nt F s β a w} (h : Rep nt F s β a w) {d : Option Nat} (hd : ∀ t, d = some t → t < nt) {av : AV} {v : Value} (hv : RV F.B (Own F s.me β) w β av v) :
    Rep nt F ⟨setT s.tm d av, s.me⟩ β (a.put d v) w := by
  cases d with
  | none => exact ⟨h.nt, h.df, h.tm, h.mr⟩
  | some d =>
    refine ⟨by simpa [Act.put] using h.nt, h.df, fun t => ?_, h.mr⟩
    have hlt : d < a.tmps.size := by rw [h.nt]; exact hd d rfl
    simp only [setT, tget, Act.put]
    by_cases e : d = t
    · subst e
      rw [if_pos rfl]
      simpa [Array.getD, hlt] using hv
    · rw [if_neg e]
      have := h.tm t
      have e2 : (a.tmps.setIfInBounds d v).getD t undef = a.tmps.getD t undef := by
        simp [Array.getD_eq_getD_getElem?, Array.getElem?_setIfInBounds_ne e]
      rw [e2]; exact this
end Go.Vc

/-! Vc2b -/
set_option linter.unusedVariables false
set_option linter.unusedSimpArgs false
namespace Go.Vc

theorem getD_sub {α : Type} (l : List α) (o m j : Nat) (d : α) (hj : j < m) : ((l.drop o).take m).getD j d = l.getD (o + j) d := by
  simp [List.getD_eq_getElem?_getD, List.getElem?_take, hj]
theorem len_sub {α : Type} (l : List α) (o m : Nat) (h : o + m ≤ l.length) : ((l.drop o).take m).length = m := by simp; omega

theorem Cells.sub_len {c : Cells} {o m : Nat} (h : c.has o m) : (c.sub o m).len = m := by
  obtain ⟨h, h2⟩ := h
  cases c <;> simp only [Cells.len, Cells.sub, Cells.recOk] at * <;> first
    | exact len_sub _ _ _ h
    | (exact len_sub _ _ _ (by omega))
theorem Cells.sub_get {c : Cells} {o m j : Nat} (h : c.has o m) (hj : j < m) : (c.sub o m).get j = c.get (o + j) := by
  obtain ⟨h, h2⟩ := h
  cases c with
  | recs sz l =>
    simp only [Cells.get, Cells.sub, Cells.recOk] at *
    rw [getD_sub _ _ _ _ _ hj]
    have hsz : 0 < sz := by omega
    have e := Nat.mod_add_div o sz
    have e1 : (o + j) / sz = o / sz := by
      rw [show o + j = (o % sz + j) + sz * (o / sz) by omega, Nat.add_mul_div_left _ _ hsz, Nat.div_eq_of_lt (by omega), Nat.zero_add]
    have e2 : (o + j) % sz = o % sz + j := by
      rw [show o + j = (o % sz + j) + sz * (o / sz) by omega, Nat.add_mul_mod_self_left, Nat.mod_eq_of_lt (by omega)]
    rw [e1, e2]
  | _ => simp only [Cells.get, Cells.sub] at *; rw [getD_sub _ _ _ _ _ hj]

theorem getD_set {α : Type} (l : List α) (o j : Nat) (x d : α) (ho : o < l.length) : (l.set o x).getD j d = if j = o then x else l.getD j d := by
  simp only [List.getD_eq_getElem?_getD, List.getElem?_set]
  by_cases e : j = o
  · subst e; simp [ho]
  · simp [e, Ne.symm e]

theorem divmod_ne {sz j o : Nat} (h1 : j / sz = o / sz) (h2 : j % sz = o % sz) : j = o := by
  have := Nat.mod_add_div j sz
  have := Nat.mod_add_div o sz
  rw [h1, h2] at *; omega

theorem Cells.put_spec {c c' : Cells} {o : Nat} {v : AV} (h : c.put o v = some c') (ho : c.has o 1) :
    c'.len = c.len ∧ c'.count = c.count ∧ ∀ j, j < c.len → c'.get j = if j = o then v else c.get j := by
  obtain ⟨ho, hr⟩ := ho
  cases c with
  | recs sz l =>
    simp only [Cells.put, Option.some.injEq] at h; subst h
    simp only [Cells.len, Cells.count, Cells.get, Cells.recOk, List.length_set] at *
    refine ⟨trivial, trivial, fun j hj => ?_⟩
    have hsz : 0 < sz := by omega
    have hol : o / sz < l.length := (Nat.div_lt_iff_lt_mul hsz).2 (by rw [Nat.mul_comm]; omega)
    rw [getD_set _ _ _ _ _ hol]
    by_cases e : j / sz = o / sz
    · rw [if_pos e, getD_set _ _ _ _ _ (by rw [hr.2]; exact Nat.mod_lt _ hsz)]
      by_cases e2 : j % sz = o % sz
      · rw [if_pos e2, if_pos (divmod_ne e e2)]
      · rw [if_neg e2, if_neg (fun e3 => e2 (by rw [e3])), e]
    · rw [if_neg e, if_neg (fun e3 => e (by rw [e3]))]
  | gen l =>
    simp only [Cells.put, Option.some.injEq] at h; subst h
    simp only [Cells.len, Cells.count, Cells.get, List.length_set] at *
    exact ⟨trivial, trivial, fun j hj => getD_set _ _ _ _ _ (by omega)⟩
  | _ =>
    cases v <;> simp only [Cells.put, Option.some.injEq, reduceCtorEq] at h
    all_goals
      subst h
      simp only [Cells.len, Cells.count, Cells.get, List.length_set] at *
      refine ⟨trivial, trivial, fun j hj => ?_⟩
      rw [getD_set _ _ _ _ _ (by omega)]
      all_goals (split <;> rfl)

theorem getD_splice {α : Type} (l l' : List α) (o j : Nat) (d : α) (h : o + l'.length ≤ l.length) :
    (splice l o l').getD j d = if o ≤ j ∧ j < o + l'.length then l'.getD (j - o) d else l.getD j d := by
  unfold splice
  simp only [List.getD_eq_getElem?_getD, List.append_assoc, List.getElem?_append, List.length_take, List.getElem?_take, List.getElem?_drop]
  have hm : min o l.length = o := by omega
  rw [hm]
  by_cases h1 : j < o
  · simp [h1]; intro h2; omega
  · rw [if_neg h1]
    by_cases h2 : j < o + l'.length
    · rw [if_pos (by omega), if_pos ⟨by omega, h2⟩]
    · rw [if_neg (by omega), if_neg (by omega)]
      congr 2; omega
theorem length_splice {α : Type} (l l' : List α) (o : Nat) (h : o + l'.length ≤ l.length) : (splice l o l').length = l.length := by
  simp [splice]; omega

theorem Cells.puts_spec {c c' c2 : Cells} {o m : Nat} (h : c.puts o c' = some c2) (hm : c'.len = m) (ho : c.has o m) :
    c2.len = c.len ∧ c2.count = c.count ∧ ∀ j, j < c.len → c2.get j = if o ≤ j ∧ j < o + m then c'.get (j - o) else c.get j := by
  obtain ⟨ho, hr⟩ := ho
  cases c with
  | recs sz l =>
    cases c' <;> simp only [Cells.puts, Option.some.injEq, reduceCtorEq] at h
    rename_i l'
    subst h
    change l'.length = m at hm
    subst hm
    simp only [Cells.len, Cells.count, Cells.get, Cells.recOk, List.length_set] at *
    refine ⟨trivial, trivial, fun j hj => ?_⟩
    have hsz : 0 < sz := by
      rcases Nat.eq_zero_or_pos sz with e | e
      · subst e; simp at hj
      · exact e
    by_cases hz : l'.length = 0
    · have : l' = [] := List.eq_nil_of_length_eq_zero hz
      subst this
      rw [if_neg (by simp only [List.length_nil]; omega)]
      have e0 : splice (l.getD (o / sz) []) (o % sz) [] = l.getD (o / sz) [] := by simp [splice]
      rw [e0]
      by_cases hol : o / sz < l.length
      · rw [getD_set _ _ _ _ _ hol]; split
        · rename_i e; rw [e]
        · rfl
      · rw [List.set_eq_of_length_le (by omega)]
    have hol : o / sz < l.length := (Nat.div_lt_iff_lt_mul hsz).2 (by rw [Nat.mul_comm]; omega)
    rw [getD_set _ _ _ _ _ hol]
    have ej := Nat.mod_add_div j sz
    have eo := Nat.mod_add_div o sz
    have lj := Nat.mod_lt j hsz
    have lo := Nat.mod_lt o hsz
    by_cases e : j / sz = o / sz
    · rw [if_pos e, getD_splice _ _ _ _ _ (by rw [hr.2]; omega)]
      rw [e] at ej ⊢
      by_cases h1 : o ≤ j ∧ j < o + l'.length
      · rw [if_pos h1, if_pos (by omega)]; congr 1; omega
      · rw [if_neg h1, if_neg (by omega)]
    · rw [if_neg e, if_neg]
      intro h1
      apply e
      have : j / sz = (o + (j - o)) / sz := by congr 1; omega
      rw [this, show o + (j - o) = (o % sz + (j - o)) + sz * (o / sz) by omega, Nat.add_mul_div_left _ _ hsz, Nat.div_eq_of_lt (by omega), Nat.zero_add]
  | _ =>
    cases c' <;> simp only [Cells.puts, Option.some.injEq, reduceCtorEq] at h
    all_goals
      subst h
      rename_i l'
      change l'.length = m at hm
      subst hm
      simp only [Cells.len, Cells.count, Cells.get] at *
      refine ⟨length_splice _ _ _ ho, length_splice _ _ _ ho, fun j hj => ?_⟩
      rw [getD_splice _ _ _ _ _ ho]
      all_goals (split <;> rfl)
end Go.Vc

/-! Vc2c -/
set_option linter.unusedVariables false
set_option linter.unusedSimpArgs false
namespace Go.Vc

theorem mget_mset (m : Me) (k : Nat) (c : Option Cells) (t : Nat) : mget (mset m k c) t = if t = k then some c else mget m t := by
  induction m with
  | nil =>
    simp only [mset, mget]
    by_cases e : t = k
    · subst e; simp
    · rw [if_neg e, if_neg (Ne.symm e)]
  | cons x r ih =>
    obtain ⟨k', c'⟩ := x
    simp only [mset]
    by_cases e : k' = k
    · rw [if_pos e]
      simp only [mget]
      by_cases e2 : t = k
      · subst e2; simp
      · rw [if_neg (fun h => e2 h.symm), if_neg e2, if_neg (fun h => e2 (h.symm.trans e))]
    · rw [if_neg e]
      simp only [mget, ih]
      by_cases e2 : k' = t
      · subst e2; simp [e]
      · rw [if_neg e2, if_neg e2]

def upd (β : Bt) (d : Nat) (x : Option (Nat × Nat)) : Bt := fun k => if k = d then some x else β k

theorem BlkRep.mono {B B' : Nat} {O O' : Nat → Prop} {w w' : World} {β β' : Bt} {x : Option (Option (Nat × Nat))} {c : Cells} (h : BlkRep B O w β x c)
    (hw : ∀ b sz, x = some (some (b, sz)) → w'.heap[b]? = w.heap[b]?) (key : ∀ {av v}, RV B O w β av v → RV B' O' w' β' av v) : BlkRep B' O' w' β' x c := by
  match x, h with
  | some none, h => exact h
  | some (some (b, sz)), ⟨cs, T, h1, h2, h3, h4, h5⟩ => exact ⟨cs, T, (hw b sz rfl).trans h1, h2, h3, h4, fun j hj => key (h5 j hj)⟩

section
variable {nt : Nat} {F : Fr} {s : St} {β : Bt} {a : Act} {w : World}

theorem MR.lt (h : MR F s.me β w) {k c b sz} (hk : mget s.me k = some (some c)) (hb : β k = some (some (b, sz))) : b < w.heap.size := by
  have h2 := h.bl k c hk
  rw [hb] at h2
  obtain ⟨cs, T, hh, _⟩ := h2
  exact (Array.getElem?_eq_some_iff.1 hh).1

/-- the frame, where a block is written that was borrowed or is new -/
theorem FrameOk.row (h : FrameOk F w) {b : Nat} (hb : F.bor b ∨ F.B ≤ b) (cs : Array Value) : FrameOk F (w.setRow b cs) := by
  refine ⟨h.os, h.tape, h.output, h.hB, by simpa using h.size, fun k hk hn => ?_, h.offs⟩
  rw [setRow_other w b k cs (by rintro rfl; rcases hb with hb | hb; exact hn hb; omega)]
  exact h.keep k hk hn
theorem FrameOk.new (h : FrameOk F w) (o : Obj) : FrameOk F (w.alloc o) := by
  refine ⟨h.os, h.tape, h.output, h.hB, by simp; have := h.size; omega, fun k hk hn => ?_, h.offs⟩
  rw [heap_alloc_old w o k (by have := h.size; omega)]
  exact h.keep k hk hn
theorem FrameOk.drew (h : FrameOk F w) : FrameOk F w.drew := ⟨h.os, h.tape, h.output, h.hB, h.size, h.keep, h.offs⟩

theorem Rep.drew (h : Rep nt F s β a w) : Rep nt F s β a w.drew := by
  have key : ∀ {x v}, RV F.B (Own F s.me β) w β x v → RV F.B (Own F s.me β) w.drew β x v := fun hx => hx.mono (w' := w.drew) (Nat.le_refl _) (fun _ _ h => h) (Nat.le_refl _) (fun _ _ _ => rfl) β (fun _ _ h => h)
  exact ⟨h.nt, h.df, fun t => key (h.tm t), h.mr.un, fun k c hk => (h.mr.bl k c hk).mono (fun _ _ _ => rfl) key, h.mr.inj, h.mr.ow, h.mr.fr.drew⟩

/-- block k is written anew -/
theorem Rep.setk (h : Rep nt F s β a w) {k b sz : Nat} {c c' : Cells} {cs cs' : Array Value} {T : TypeId} (hk : mget s.me k = some (some c)) (hb : β k = some (some (b, sz)))
    (hh : w.heap[b]? = some (.cells cs T (0, 0))) (hsz : cs'.size = sz) (hl : c'.len ≤ sz) (h1 : ∀ u ∈ cs'.toList, u.oneCell' = true)
    (hv : ∀ j, j < c'.len → RV F.B (Own F s.me β) w β (c'.get j) (cs'.getD j undef)) :
    Rep nt F ⟨s.tm, mset s.me k (some c')⟩ β a (w.setRow b cs') := by
  have hO : ∀ x, Owned (mset s.me k (some c')) β x ↔ Owned s.me β x := by
    intro x
    constructor
    · rintro ⟨k1, c1, sz1, e1, e2⟩
      rw [mget_mset] at e1
      by_cases e : k1 = k
      · subst e; exact ⟨k1, c, sz1, hk, e2⟩
      · rw [if_neg e] at e1; exact ⟨k1, c1, sz1, e1, e2⟩
    · rintro ⟨k1, c1, sz1, e1, e2⟩
      by_cases e : k1 = k
      · subst e; exact ⟨k1, c', sz1, by rw [mget_mset, if_pos rfl], e2⟩
      · exact ⟨k1, c1, sz1, by rw [mget_mset, if_neg e]; exact e1, e2⟩
  have hOb : Owned s.me β b := ⟨k, c, sz, hk, hb⟩
  have key : ∀ {x v}, RV F.B (Own F s.me β) w β x v → RV F.B (Own F (mset s.me k (some c')) β) (w.setRow b cs') β x v := fun hx =>
    hx.mono (Nat.le_refl _) (fun x _ hx => hx.imp (hO x).1) (by simp) (fun x _ hx => setRow_other w b x cs' (by rintro rfl; exact hx (.inl hOb))) β (fun _ _ h => h)
  refine ⟨h.nt, h.df, fun t => key (h.tm t), fun k1 e => ?_, fun k1 c1 e => ?_, fun k1 k2 c1 c2 b1 z1 z2 e1 e2 e3 e4 => ?_, fun k1 c1 b1 z1 e1 e2 => ?_, h.mr.fr.row (h.mr.ow k c b sz hk hb) cs'⟩
  · rw [mget_mset] at e
    by_cases e2 : k1 = k
    · rw [if_pos e2] at e; cases e
    · rw [if_neg e2] at e; exact h.mr.un k1 e
  · rw [mget_mset] at e
    by_cases e2 : k1 = k
    · subst e2
      rw [if_pos rfl] at e
      injection e with e; injection e with e; subst e
      rw [hb]
      exact ⟨cs', T, setRow_heap w b cs cs' T (0, 0) hh, hsz, hl, h1, fun j hj => key (hv j hj)⟩
    · rw [if_neg e2] at e
      exact (h.mr.bl k1 c1 e).mono (fun b1 z1 hb1 => setRow_other w b b1 cs' (by rintro rfl; exact e2 (h.mr.inj k1 k c1 c _ z1 sz e hk hb1 hb))) key
  · have f1 : ∃ c0, mget s.me k1 = some (some c0) := by
      rw [mget_mset] at e1
      by_cases q : k1 = k
      · subst q; exact ⟨c, hk⟩
      · rw [if_neg q] at e1; exact ⟨c1, e1⟩
    have f2 : ∃ c0, mget s.me k2 = some (some c0) := by
      rw [mget_mset] at e2
      by_cases q : k2 = k
      · subst q; exact ⟨c, hk⟩
      · rw [if_neg q] at e2; exact ⟨c2, e2⟩
    obtain ⟨d1, f1⟩ := f1
    obtain ⟨d2, f2⟩ := f2
    exact h.mr.inj k1 k2 d1 d2 b1 z1 z2 f1 f2 e3 e4
  · rw [mget_mset] at e1
    by_cases q : k1 = k
    · subst q; exact h.mr.ow k1 c b1 z1 hk e2
    · rw [if_neg q] at e1; exact h.mr.ow k1 c1 b1 z1 e1 e2

/-- a new block comes -/
theorem Rep.newk (h : Rep nt F s β a w) {d : Nat} {c : Cells} {cs : Array Value} {T : TypeId} (hd : mget s.me d = none) (hl : c.len ≤ cs.size) (h1 : ∀ u ∈ cs.toList, u.oneCell' = true)
    (hv : ∀ j, j < c.len → RV F.B (Own F s.me β) w β (c.get j) (cs.getD j undef)) :
    Rep nt F ⟨s.tm, mset s.me d (some c)⟩ (upd β d (some (w.heap.size, cs.size))) a (w.alloc (.cells cs T)) := by
  have hβ : ∀ k x, β k = some x → upd β d (some (w.heap.size, cs.size)) k = some x := by
    intro k x hk
    unfold upd
    rw [if_neg (by rintro rfl; rw [h.mr.un _ hd] at hk; cases hk)]
    exact hk
  have hne : ∀ k c0, mget s.me k = some c0 → k ≠ d := by rintro k c0 hk rfl; rw [hd] at hk; cases hk
  have hβ' : ∀ k, k ≠ d → upd β d (some (w.heap.size, cs.size)) k = β k := fun k hk => by unfold upd; rw [if_neg hk]
  have hO : ∀ x, x < w.heap.size → Owned (mset s.me d (some c)) (upd β d (some (w.heap.size, cs.size))) x → Owned s.me β x := by
    rintro x hx ⟨k1, c1, sz1, e1, e2⟩
    rw [mget_mset] at e1
    by_cases e : k1 = d
    · subst e
      simp only [upd, if_true, Option.some.injEq, Prod.mk.injEq] at e2
      omega
    · rw [if_neg e] at e1
      rw [hβ' _ e] at e2
      exact ⟨k1, c1, sz1, e1, e2⟩
  have key : ∀ {x v}, RV F.B (Own F s.me β) w β x v → RV F.B (Own F (mset s.me d (some c)) (upd β d (some (w.heap.size, cs.size)))) (w.alloc (.cells cs T)) (upd β d (some (w.heap.size, cs.size))) x v := fun hx =>
    hx.mono (Nat.le_refl _) (fun x h1 h2 => h2.imp (hO x h1)) (by simp) (fun x hx _ => heap_alloc_old w _ x hx) _ hβ
  refine ⟨h.nt, h.df, fun t => key (h.tm t), fun k1 e => ?_, fun k1 c1 e => ?_, fun k1 k2 c1 c2 b1 z1 z2 e1 e2 e3 e4 => ?_, fun k1 c1 b1 z1 e1 e2 => ?_, h.mr.fr.new _⟩
  · rw [mget_mset] at e
    by_cases e2 : k1 = d
    · rw [if_pos e2] at e; cases e
    · rw [if_neg e2] at e; rw [hβ' _ e2]; exact h.mr.un k1 e
  · rw [mget_mset] at e
    by_cases e2 : k1 = d
    · subst e2
      rw [if_pos rfl] at e
      injection e with e; injection e with e; subst e
      simp only [upd, if_true]
      exact ⟨cs, T, heap_alloc_new w _, rfl, hl, h1, fun j hj => key (hv j hj)⟩
    · rw [if_neg e2] at e
      rw [hβ' _ e2]
      exact (h.mr.bl k1 c1 e).mono (fun b1 z1 hb1 => heap_alloc_old w _ b1 (h.mr.lt e hb1)) key
  · rw [mget_mset] at e1 e2
    by_cases q1 : k1 = d
    · by_cases q2 : k2 = d
      · rw [q1, q2]
      · rw [if_neg q2] at e2
        rw [hβ' _ q2] at e4
        subst q1
        simp only [upd, if_true, Option.some.injEq, Prod.mk.injEq] at e3
        have := h.mr.lt e2 e4
        omega
    · rw [if_neg q1] at e1
      rw [hβ' _ q1] at e3
      by_cases q2 : k2 = d
      · subst q2
        simp only [upd, if_true, Option.some.injEq, Prod.mk.injEq] at e4
        have := h.mr.lt e1 e3
        omega
      · rw [if_neg q2] at e2
        rw [hβ' _ q2] at e4
        exact h.mr.inj k1 k2 c1 c2 b1 z1 z2 e1 e2 e3 e4
  · rw [mget_mset] at e1
    by_cases q : k1 = d
    · subst q
      simp only [upd, if_true, Option.some.injEq, Prod.mk.injEq] at e2
      right
      have := h.mr.fr.size
      omega
    · rw [if_neg q] at e1
      rw [hβ' _ q] at e2
      exact h.mr.ow k1 c1 b1 z1 e1 e2
end
end Go.Vc

/-! Vc3 -/
set_option linter.unusedVariables false
set_option linter.unusedSimpArgs false
namespace Go.Vc

def constOk : Value → AV → Bool
  | .bool b, .bool b' => b == b'
  | .int .u8 x, .u8 y => x == (y.toNat : Int)
  | .int .u16 x, .u16 y => x == (y.toNat : Int)
  | .int .u32 x, .u32 y => x == (y.toNat : Int)
  | .int .u64 x, .u64 y => x == (y.toNat : Int)
  | .int .i64 x, .n y => x == (y : Int)
  | .int .i64 x, .i y => x == y
  | .string s, .str l => s.data.toList == l
  | .slice none 0 0, .nil => true
  | .slice none 0 0, .sl _ (.b8 []) => true
  | _, .any => true
  | _, _ => false
def opdOk : Operand → Opd → Bool
  | .tmp t, .t t' => t == t'
  | .const v, .c av => constOk v av
  | _, _ => false

theorem constOk_rv {B O w β v av} (h : constOk v av = true) : RV B O w β av v := by
  unfold constOk at h
  split at h <;> first
    | (simp at h; done)
    | (simp only [beq_iff_eq] at h; subst h; constructor)
    | exact .nil
    | exact .any
    | exact .sl0 rfl rfl (fun _ => rfl)

section
variable {P : Program} {nt : Nat} {F : Fr} {s : St} {β : Bt} {a : Act} {w : World} {o : Oper} {Q : Exit → Act → World → Prop}

theorem Rep.ev (h : Rep nt F s β a w) {x : Operand} {y : Opd} (hx : opdOk x y = true) : RV F.B (Own F s.me β) w β (ev s.tm y) (a.eval x) := by
  cases x <;> cases y <;> simp [opdOk] at hx
  · subst hx; exact h.tm _
  · exact constOk_rv hx

/-- the operation comes to r -/
def Good (P : Program) (nt : Nat) (F : Fr) (s : St) (a : Act) (w : World) (Q : Exit → Act → World → Prop) (o : Oper) (r : R) : Prop :=
  o.wp P a w (fun a' w' => ∃ β', Rep nt F ⟨setT s.tm o.dst r.v, msets s.me r.mw⟩ β' a' w') Q

theorem good_val (h : Rep nt F s β a w) (hd : ∀ t, o.dst = some t → t < nt) {r : R} {v : Value} (hr : (execOp a.eval o).run P w = .ok (.value v) w) (hm : r.mw = [])
    (hv : RV F.B (Own F s.me β) w β r.v v) : Good P nt F s a w Q o r := by
  unfold Good Oper.wp
  rw [hr]
  simp only [Oper.upon, hm, msets]
  exact ⟨β, h.put hd hv⟩

theorem good_mv (h : Rep nt F s β a w) (hd : ∀ t, o.dst = some t → t < nt) {x : Operand} {y : Opd} (ho : o.op = .move x ∨ o.op = .assign x) (hx : opdOk x y = true) :
    Good P nt F s a w Q o (okv True (ev s.tm y)) := by
  refine good_val h hd (v := a.eval x) ?_ rfl (h.ev hx)
  rcases ho with ho | ho <;> simp [execOp, ho]

theorem good_pick (h : Rep nt F s β a w) (hd : ∀ t, o.dst = some t → t < nt) {c x y : Operand} {c' x' y' : Opd} (ho : o.op = .pick c x y) (hc : opdOk c c' = true) (hx : opdOk x x' = true) (hy : opdOk y y' = true)
    {t : Bool} (ht : Vc.ev s.tm c' = .bool t) : Good P nt F s a w Q o (okv True (if t = true then Vc.ev s.tm x' else Vc.ev s.tm y')) := by
  have e := h.ev hc
  rw [ht] at e
  generalize hce : a.eval c = vc at e
  cases e
  cases t
  · exact good_val h hd (v := a.eval y) (by simp [execOp, ho, hce, asBool]) rfl (h.ev hy)
  · exact good_val h hd (v := a.eval x) (by simp [execOp, ho, hce, asBool]) rfl (h.ev hx)

theorem good_nilc (h : Rep nt F s β a w) (hd : ∀ t, o.dst = some t → t < nt) {x : Operand} {x' : Opd} (ho : o.op = .nilCheck x) (hx : opdOk x x' = true)
    (ht : (∃ k o, Vc.ev s.tm x' = .ptr k o) ∨ ∃ c o, Vc.ev s.tm x' = .ref c o) : Good P nt F s a w Q o (okv True (Vc.ev s.tm x')) := by
  have e := h.ev hx
  refine good_val h hd (v := a.eval x) ?_ rfl e
  rcases ht with ⟨k, o', ht⟩ | ⟨c, o', ht⟩ <;> rw [ht] at e <;> generalize hxe : a.eval x = vx at e <;> cases e <;> simp [execOp, ho, hxe]

/-- is a type's value one cell, or so many? -/
def tyAg (P : Program) (t : TypeId) : Option (Option Nat) :=
  match P.underlying t with
  | some (.struct _) | some (.array _ _) => (P.info? t).map fun i => some i.size
  | some _ => (P.info? t).bind fun i => if i.size = 1 then some none else none
  | none => none

theorem run_loadVar_one {t : TypeId} {ad : Addr} {v : Value} (ht : tyAg P t = some none) (hc : w.cell? ad = some v) : (loadVar t ad).run P w = .ok v w := by
  unfold tyAg at ht
  have hagg : (isAgg t).run P w = .ok false w := by
    cases hu : P.underlying t with
    | none => rw [hu] at ht; cases ht
    | some d =>
      rw [hu] at ht
      unfold isAgg
      rw [Sem.run_bind, run_underlying hu w]
      cases d <;> first
        | rfl
        | (cases hi : P.info? t <;> simp [hi] at ht)
  simp [loadVar, hagg, hc]

theorem tyAg_some {t : TypeId} {m : Nat} (ht : tyAg P t = some (some m)) : ∃ i, P.info? t = some i ∧ i.size = m ∧ (isAgg t).run P w = .ok true w := by
  unfold tyAg at ht
  cases hu : P.underlying t with
  | none => rw [hu] at ht; cases ht
  | some d =>
    rw [hu] at ht
    cases hi : P.info? t with
    | none => cases d <;> simp [hi] at ht
    | some i =>
      have hagg : (match d with | .struct _ | .array _ _ => true | _ => false) = true ∧ i.size = m := by
        cases d <;> simp [hi] at ht <;> first | exact ⟨rfl, ht⟩ | (split at ht <;> simp at ht)
      refine ⟨i, rfl, hagg.2, ?_⟩
      unfold isAgg
      rw [Sem.run_bind, run_underlying hu w]
      cases d <;> simp_all
theorem tyAg_one {t : TypeId} (ht : tyAg P t = some none) : ∃ i, P.info? t = some i ∧ i.size = 1 := by
  unfold tyAg at ht
  cases hu : P.underlying t with
  | none => rw [hu] at ht; cases ht
  | some d =>
    rw [hu] at ht
    cases hi : P.info? t with
    | none => cases d <;> simp [hi] at ht
    | some i =>
      refine ⟨i, rfl, ?_⟩
      cases d <;> simp [hi] at ht <;> (try exact ht) <;> (split at ht <;> simp_all)

theorem run_loadVar_agg {t : TypeId} {ad : Addr} {us : List Value} (ht : tyAg P t = some (some us.length)) (hc : ∀ j u, us[j]? = some u → w.cell? (ad.add j) = some u) :
    (loadVar t ad).run P w = .ok (.agg us.toArray) w := by
  obtain ⟨i, hi, hs, hagg⟩ := tyAg_some (w := w) ht
  simp [loadVar, hagg, sizeOf, typeInfo, hi, hs, run_loadCells_list w ad us hc]

theorem add_cell (b o j : Nat) : (⟨b, o, none⟩ : Addr).add j = ⟨b, o + j, none⟩ := by unfold Addr.add; split <;> simp_all
theorem add_add (a : Addr) (i j : Nat) : (a.add i).add j = a.add (i + j) := by
  unfold Addr.add
  by_cases hi : i = 0 <;> by_cases hj : j = 0 <;> simp [hi, hj, Nat.add_assoc]

/-- m values from o on, out of a list of cells that read as c -/
theorem rv_sub {B O β} {c : Cells} {us : List Value} {off m : Nat} (hl : c.len ≤ us.length) (h1 : ∀ u ∈ us, u.oneCell' = true) (hs : ∀ j, j < c.len → RV B O w β (c.get j) (us.getD j undef))
    (hh : c.has off m) : RV B O w β (.agg (c.sub off m)) (.agg ((us.drop off).take m).toArray) ∧ ((us.drop off).take m).length = m := by
  have hlen : ((us.drop off).take m).length = m := len_sub us off m (by have := hh.1; omega)
  refine ⟨.agg (by rw [hlen, Cells.sub_len hh]) (fun u hu => h1 u (List.mem_of_mem_drop (List.mem_of_mem_take hu))) (fun j hj => ?_), hlen⟩
  rw [Cells.sub_len hh] at hj
  rw [Cells.sub_get hh hj, getD_sub _ _ _ _ _ hj]
  exact hs _ (by have := hh.1; omega)

theorem getD_getElem? {us : List Value} {j : Nat} (h : j < us.length) : us[j]? = some (us.getD j undef) := by
  simp [List.getD_eq_getElem?_getD, h]

theorem good_load_ptr (h : Rep nt F s β a w) (hd : ∀ t, o.dst = some t → t < nt) {t : TypeId} {sz : Option Nat} {x : Operand} {x' : Opd} (ho : o.op = .load t x) (ht : tyAg P t = some sz) (hx : opdOk x x' = true)
    {k off : Nat} {c : Cells} (he : Vc.ev s.tm x' = .ptr k off) (hk : mget s.me k = some (some c)) (hh : c.has off (sz.getD 1)) {r : R} (hr : r.v = c.rd off sz) (hm : r.mw = []) : Good P nt F s a w Q o r := by
  have e := h.ev hx
  rw [he] at e
  generalize hxe : a.eval x = vx at e
  cases e with
  | ptr hb =>
  rename_i b z
  have hbl := h.mr.bl k c hk
  rw [hb] at hbl
  obtain ⟨cs, T, g1, g2, g3, g4, g5⟩ := hbl
  cases sz with
  | none =>
    have hlt : off < cs.size := by have := hh.1; simp at this; omega
    have hc : w.cell? ⟨b, off, none⟩ = some (cs.getD off undef) := by
      rw [cell_of_row w b off cs T _ g1]; simp [Array.getD, hlt]
    refine good_val h hd (v := cs.getD off undef) ?_ hm ?_
    · simp [execOp, ho, hxe, Instr.loadAt, Instr.sureAddr, run_loadVar_one ht hc]
    · rw [hr]; exact g5 off (by have := hh.1; simp at this; omega)
  | some m =>
    simp only [Option.getD_some] at hh
    have q := rv_sub (w := w) (us := cs.toList) (by simp; omega) g4 (fun j hj => by have := g5 j hj; simpa using this) hh
    refine good_val h hd (v := .agg ((cs.toList.drop off).take m).toArray) ?_ hm (by rw [hr]; exact q.1)
    have hc : ∀ j u, ((cs.toList.drop off).take m)[j]? = some u → w.cell? ((⟨b, off, none⟩ : Addr).add j) = some u := by
      intro j u hu
      rw [add_cell, cell_of_row w b _ cs T _ g1]
      rw [List.getElem?_take] at hu
      split at hu
      · simpa [List.getElem?_drop] using hu
      · cases hu
    have hrun := run_loadVar_agg (P := P) (w := w) (t := t) (by rw [q.2]; exact ht) hc
    simp [execOp, ho, hxe, Instr.loadAt, Instr.sureAddr, hrun]

theorem good_load_ref (h : Rep nt F s β a w) (hd : ∀ t, o.dst = some t → t < nt) {t : TypeId} {sz : Option Nat} {x : Operand} {x' : Opd} (ho : o.op = .load t x) (ht : tyAg P t = some sz) (hx : opdOk x x' = true)
    {off : Nat} {c : Cells} (he : Vc.ev s.tm x' = .ref c off) (hh : c.has off (sz.getD 1)) : Good P nt F s a w Q o (okv (c.has off (sz.getD 1)) (c.rd off sz)) := by
  have e := h.ev hx
  rw [he] at e
  generalize hxe : a.eval x = vx at e
  cases e with
  | ref hl hc hO hb h1 hs =>
  rename_i ad us
  have lift : ∀ {x v}, RV F.B (Own F s.me β) w bt0 x v → RV F.B (Own F s.me β) w β x v := fun hx => hx.mono (Nat.le_refl _) (fun _ _ h => h) (Nat.le_refl _) (fun _ _ _ => rfl) β (fun _ _ h => by cases h)
  cases sz with
  | none =>
    have hlt : off < us.length := by have := hh.1; simp at this; omega
    refine good_val h hd (v := us.getD off undef) ?_ rfl (lift (hs off (by omega)))
    simp [execOp, ho, hxe, Instr.loadAt, Instr.sureAddr, run_loadVar_one ht (hc off _ (getD_getElem? hlt))]
  | some m =>
    simp only [Option.getD_some] at hh
    have q := rv_sub (w := w) (us := us) (by omega) h1 (fun j hj => lift (hs j hj)) hh
    refine good_val h hd (v := .agg ((us.drop off).take m).toArray) ?_ rfl q.1
    have hc' : ∀ j u, ((us.drop off).take m)[j]? = some u → w.cell? ((ad.add off).add j) = some u := by
      intro j u hu
      rw [add_add]
      rw [List.getElem?_take] at hu
      split at hu
      · exact hc _ _ (by simpa [List.getElem?_drop] using hu)
      · cases hu
    have hrun := run_loadVar_agg (P := P) (w := w) (t := t) (by rw [q.2]; exact ht) hc'
    simp [execOp, ho, hxe, Instr.loadAt, Instr.sureAddr, hrun]
end
end Go.Vc

/-! Vc3b -/
set_option linter.unusedVariables false
set_option linter.unusedSimpArgs false
namespace Go.Vc
section
variable {P : Program} {nt : Nat} {F : Fr} {s : St} {β : Bt} {a : Act} {w : World} {o : Oper} {Q : Exit → Act → World → Prop}

theorem Value.cells_one {v : Value} (h : v.oneCell' = true) : v.cells = #[v] := by cases v <;> simp_all [Value.cells, Value.oneCell']

theorem getD_toArray_splice {l l' : List Value} {o j : Nat} {d : Value} (h : o + l'.length ≤ l.length) :
    (splice l o l').toArray.getD j d = if o ≤ j ∧ j < o + l'.length then l'.getD (j - o) d else l.getD j d := by
  rw [← getD_splice l l' o j d h]
  simp [List.getD_eq_getElem?_getD]

/-- cells vs (they read as the cells of v) go into block k from off on -/
theorem good_store_core (h : Rep nt F s β a w) (hd : ∀ t, o.dst = some t → t < nt) {t : TypeId} {x y : Operand} {x' : Opd} (ho : o.op = .store t x y)
    (hx : opdOk x x' = true) {k off m : Nat} {c c2 : Cells} (he : Vc.ev s.tm x' = .ptr k off) (hk : mget s.me k = some (some c)) (hh : c.has off m)
    {us : List Value} (hvs : (a.eval y).cells = us.toArray) (hm : us.length = m) (hsz : ∃ i, P.info? t = some i ∧ i.size = m) (h1 : ∀ u ∈ us, u.oneCell' = true)
    (hl : c2.len = c.len) {f : Nat → AV} (hg : ∀ j, j < c.len → c2.get j = if off ≤ j ∧ j < off + m then f (j - off) else c.get j)
    (hf : ∀ j, j < m → RV F.B (Own F s.me β) w β (f j) (us.getD j undef))
    {r : R} (hr : r.v = .und) (hmw : r.mw = [(k, some c2)]) : Good P nt F s a w Q o r := by
  have e := h.ev hx
  rw [he] at e
  generalize hxe : a.eval x = vx at e
  cases e with
  | ptr hb =>
  rename_i b z
  have hbl := h.mr.bl k c hk
  rw [hb] at hbl
  obtain ⟨cs, T, g1, g2, g3, g4, g5⟩ := hbl
  have hfit : off + us.length ≤ cs.toList.length := by have := hh.1; simp; omega
  have hst := run_storeCells_at P b off T us 0 cs w g1 (by have := hh.1; simp at hfit ⊢; omega) h1
  simp only [Nat.add_zero] at hst
  obtain ⟨i, hi, hs⟩ := hsz
  have hrun : (execOp a.eval o).run P w = .ok .skip (w.setRow b (splice cs.toList off us).toArray) := by
    simp only [execOp, ho, hxe, Instr.storeAt, Instr.sureAddr, storeVar, Sem.run_bind, Sem.run_pure, Result.andThen_ok, hvs, sizeOf, typeInfo, run_program, hi, hs]
    simp [hm, hst, splice]
  unfold Good Oper.wp
  rw [hrun]
  simp only [Oper.upon, hr, hmw, msets]
  have hset := h.setk (c' := c2) (cs' := (splice cs.toList off us).toArray) hk hb g1 (by simp [length_splice _ _ _ hfit, ← g2]) (by omega)
    (by
      intro u hu
      simp only [splice, List.append_assoc] at hu
      have : u ∈ cs.toList.take off ++ (us ++ cs.toList.drop (off + us.length)) := by simpa using hu
      rcases List.mem_append.1 this with q | q
      · exact g4 u (List.mem_of_mem_take q)
      · rcases List.mem_append.1 q with q | q
        · exact h1 u q
        · exact g4 u (List.mem_of_mem_drop q))
    (fun j hj => by
      rw [hl] at hj
      rw [hg j hj, getD_toArray_splice hfit, hm]
      split
      · exact hf _ (by omega)
      · have := g5 j hj; simpa using this)
  exact ⟨β, hset.put hd .und⟩

theorem good_store_one (h : Rep nt F s β a w) (hd : ∀ t, o.dst = some t → t < nt) {t : TypeId} {x y : Operand} {x' y' : Opd} (ho : o.op = .store t x y) (ht : tyAg P t = some none)
    (hx : opdOk x x' = true) (hy : opdOk y y' = true) {k off : Nat} {c c2 : Cells} (he : Vc.ev s.tm x' = .ptr k off) (hk : mget s.me k = some (some c)) (hh : c.has off 1)
    (h1 : (Vc.ev s.tm y').one = true) (hp : c.put off (Vc.ev s.tm y') = some c2)
    {r : R} (hr : r.v = .und) (hmw : r.mw = [(k, some c2)]) : Good P nt F s a w Q o r := by
  have ey := h.ev hy
  have o1 := ey.one h1
  obtain ⟨p1, _, p3⟩ := Cells.put_spec hp hh
  refine good_store_core h hd ho hx he hk hh (us := [a.eval y]) (by rw [Value.cells_one o1]) rfl (tyAg_one ht) (by simpa using o1) p1 (f := fun _ => Vc.ev s.tm y') (fun j hj => ?_) (fun j hj => ?_) hr hmw
  · rw [p3 j hj]
    by_cases e : j = off
    · rw [if_pos e, if_pos (by omega)]
    · rw [if_neg e, if_neg (by omega)]
  · have : j = 0 := by omega
    subst this
    exact ey

theorem good_store_agg (h : Rep nt F s β a w) (hd : ∀ t, o.dst = some t → t < nt) {t : TypeId} {m : Nat} {x y : Operand} {x' y' : Opd} (ho : o.op = .store t x y) (ht : tyAg P t = some (some m))
    (hx : opdOk x x' = true) (hy : opdOk y y' = true) {k off : Nat} {c c' c2 : Cells} (he : Vc.ev s.tm x' = .ptr k off) (hk : mget s.me k = some (some c)) (hh : c.has off m)
    (hv : Vc.ev s.tm y' = .agg c') (hm : c'.len = m) (hp : c.puts off c' = some c2)
    {r : R} (hr : r.v = .und) (hmw : r.mw = [(k, some c2)]) : Good P nt F s a w Q o r := by
  have ey := h.ev hy
  rw [hv] at ey
  generalize hye : a.eval y = vy at ey
  cases ey with
  | agg hl h1 hs =>
  rename_i us
  obtain ⟨p1, _, p3⟩ := Cells.puts_spec hp hm hh
  obtain ⟨i, hi, hsz, _⟩ := tyAg_some (w := w) ht
  exact good_store_core h hd ho hx he hk hh (us := us) (by rw [hye]; rfl) (hl.trans hm) ⟨i, hi, hsz⟩ h1 p1 p3 (fun j hj => hs j (by omega)) hr hmw

/-- a new block, out of cells that read as c -/
theorem good_new (h : Rep nt F s β a w) (hd : ∀ t, o.dst = some t → t < nt) {d : Nat} {c : Cells} {us : List Value} {T : TypeId} {w' : World} (hw' : w' = w ∨ w' = w.drew) {v : Value}
    (hrun : (execOp a.eval o).run P w = .ok (.value v) (w'.alloc (.cells us.toArray T))) (hdk : mget s.me d = none) (hl : c.len ≤ us.length) (h1 : ∀ u ∈ us, u.oneCell' = true)
    (hv : ∀ j, j < c.len → RV F.B (Own F s.me β) w β (c.get j) (us.getD j undef)) {r : R}
    (hr : RV F.B (Own F (mset s.me d (some c)) (upd β d (some (w.heap.size, us.length)))) (w'.alloc (.cells us.toArray T)) (upd β d (some (w.heap.size, us.length))) r.v v) (hmw : r.mw = [(d, some c)]) : Good P nt F s a w Q o r := by
  unfold Good Oper.wp
  rw [hrun]
  simp only [Oper.upon, hmw, msets]
  have hsz : us.toArray.size = us.length := by simp
  rcases hw' with rfl | rfl
  · have := h.newk (T := T) (cs := us.toArray) hdk (by simpa using hl) (by simpa using h1) (fun j hj => by simpa [List.getD_eq_getElem?_getD] using hv j hj)
    rw [hsz] at this
    exact ⟨_, this.put hd hr⟩
  · have h' := h.drew
    have key : ∀ {x v}, RV F.B (Own F s.me β) w β x v → RV F.B (Own F s.me β) w.drew β x v := fun hx => hx.mono (w' := w.drew) (Nat.le_refl _) (fun _ _ h => h) (Nat.le_refl _) (fun _ _ _ => rfl) β (fun _ _ h => h)
    have := h'.newk (T := T) (cs := us.toArray) hdk (by simpa using hl) (by simpa using h1) (fun j hj => by have q := key (hv j hj); simpa [List.getD_eq_getElem?_getD] using q)
    rw [hsz] at this
    exact ⟨_, this.put hd hr⟩

/-- do values read as these? (a check of closed values) -/
def cellsOk (c : Cells) (us : List Value) : Bool := c.len == us.length && (List.range us.length).all fun j => constOk (us.getD j undef) (c.get j)
theorem constOk_one {v av} (h : constOk v av = true) (h1 : av.one = true) : v.oneCell' = true := by
  have := constOk_rv (B := 0) (O := fun _ => False) (w := default) (β := bt0) h
  exact this.one h1

theorem good_alloc (h : Rep nt F s β a w) (hd : ∀ t, o.dst = some t → t < nt) {t : TypeId} {z : Cells} {us : List Value} (ho : o.op = .alloc t) (hz : (P.info? t).bind (·.zero) = some (.agg us.toArray) ∨ (∃ v, (P.info? t).bind (·.zero) = some v ∧ v.oneCell' = true ∧ us = [v]))
    (hc : cellsOk z us = true) (h1 : ∀ u ∈ us, u.oneCell' = true) {d : Nat} (hdk : mget s.me d = none) {r : R} (hr : r.v = .ptr d 0) (hmw : r.mw = [(d, some z)]) : Good P nt F s a w Q o r := by
  have hrun : (execOp a.eval o).run P w = .ok (.value (.pointer (some ⟨w.heap.size, 0, none⟩))) (w.alloc (.cells us.toArray t)) := by
    rcases hz with hz | ⟨v, hz, hv, rfl⟩
    · cases hi : P.info? t with
      | none => simp [hi] at hz
      | some i =>
        have hzz : i.zero = some (.agg us.toArray) := by simpa [hi] using hz
        simp [execOp, ho, Instr.alloc, zeroValue, typeInfo, hi, hzz, newVar, newRow, Value.cells]
    · cases hi : P.info? t with
      | none => simp [hi] at hz
      | some i =>
        have hzz : i.zero = some v := by simpa [hi] using hz
        simp [execOp, ho, Instr.alloc, zeroValue, typeInfo, hi, hzz, newVar, newRow, Value.cells_one hv]
  unfold cellsOk at hc
  simp only [Bool.and_eq_true, beq_iff_eq, List.all_eq_true, List.mem_range] at hc
  refine good_new h hd (.inl rfl) hrun hdk (by omega) h1 (fun j hj => constOk_rv (hc.2 j (by omega))) ?_ hmw
  rw [hr]
  exact .ptr (sz := us.length) (by simp [upd])

theorem good_box_agg (h : Rep nt F s β a w) (hd : ∀ t, o.dst = some t → t < nt) {t : TypeId} {x : Operand} {x' : Opd} (ho : o.op = .box t x) (hx : opdOk x x' = true) {c : Cells} (he : Vc.ev s.tm x' = .agg c)
    {d : Nat} (hdk : mget s.me d = none) {r : R} (hr : r.v = .ptr d 0) (hmw : r.mw = [(d, some c)]) : Good P nt F s a w Q o r := by
  have ex := h.ev hx
  rw [he] at ex
  generalize hxe : a.eval x = vx at ex
  cases ex with
  | agg hl h1 hs =>
  rename_i us
  refine good_new h hd (.inl rfl) (T := t) (v := .pointer (some ⟨w.heap.size, 0, none⟩)) (us := us) ?_ hdk (by omega) h1 hs ?_ hmw
  · simp [execOp, ho, hxe, Instr.box, newVar, newRow, Value.cells]
  · rw [hr]; exact .ptr (sz := us.length) (by simp [upd])
theorem good_box_one (h : Rep nt F s β a w) (hd : ∀ t, o.dst = some t → t < nt) {t : TypeId} {x : Operand} {x' : Opd} (ho : o.op = .box t x) (hx : opdOk x x' = true) (h1 : (Vc.ev s.tm x').one = true)
    {d : Nat} (hdk : mget s.me d = none) {r : R} (hr : r.v = .ptr d 0) (hmw : r.mw = [(d, some (.gen [Vc.ev s.tm x']))]) : Good P nt F s a w Q o r := by
  have ex := h.ev hx
  have o1 := ex.one h1
  refine good_new h hd (.inl rfl) (T := t) (v := .pointer (some ⟨w.heap.size, 0, none⟩)) (us := [a.eval x]) ?_ hdk (by simp [Cells.len]) (by simpa using o1) (fun j hj => ?_) ?_ hmw
  · simp [execOp, ho, Instr.box, newVar, newRow, Value.cells_one o1]
  · have : j = 0 := by simp [Cells.len] at hj; exact hj
    subst this
    exact ex
  · rw [hr]; exact .ptr (sz := 1) (by simp [upd])
end
end Go.Vc

/-! Vc3c -/
set_option linter.unusedVariables false
set_option linter.unusedSimpArgs false
namespace Go.Vc
section
variable {P : Program} {nt : Nat} {F : Fr} {s : St} {β : Bt} {a : Act} {w : World} {o : Oper} {Q : Exit → Act → World → Prop}

theorem ixN_rv {B O β av v p j} (h : ixN av = some (p, j)) (hv : RV B O w β av v) (hp : p) : ∃ k, v = .int k (j : Int) := by
  cases hv <;> simp only [ixN, Option.some.injEq, Prod.mk.injEq, reduceCtorEq] at h
  all_goals
    obtain ⟨rfl, rfl⟩ := h
    first
      | exact ⟨_, rfl⟩
      | exact ⟨_, by rw [Int.toNat_of_nonneg hp]⟩

/-- a slice type with elements of e cells -/
def tySl (P : Program) (t e : Nat) : Bool :=
  match P.underlying t with
  | some (.slice el) => (P.info? el).map (·.size) == some e
  | _ => false
theorem tySl_spec {t e : Nat} (h : tySl P t e = true) : ∃ el i, P.underlying t = some (.slice el) ∧ P.info? el = some i ∧ i.size = e := by
  unfold tySl at h
  split at h
  · rename_i el hu
    simp only [beq_iff_eq] at h
    cases hi : P.info? el with
    | none => simp [hi] at h
    | some i => exact ⟨el, i, hu, hi, by simpa [hi] using h⟩
  · simp at h
def tyAr (P : Program) (t m e : Nat) : Bool :=
  match P.underlying t with
  | some (.array n el) => n == m && (P.info? el).map (·.size) == some e
  | _ => false
theorem tyAr_spec {t m e : Nat} (h : tyAr P t m e = true) : ∃ el i, P.underlying t = some (.array m el) ∧ P.info? el = some i ∧ i.size = e := by
  unfold tyAr at h
  split at h
  · rename_i n el hu
    simp only [Bool.and_eq_true, beq_iff_eq] at h
    obtain ⟨rfl, h⟩ := h
    cases hi : P.info? el with
    | none => simp [hi] at h
    | some i => exact ⟨el, i, hu, hi, by simpa [hi] using h⟩
  · simp at h

theorem good_idxS_ro (h : Rep nt F s β a w) (hd : ∀ t, o.dst = some t → t < nt) {t e : Nat} {x y : Operand} {x' y' : Opd} (ho : o.op = .indexAddr t x y) (ht : tySl P t e = true)
    (hx : opdOk x x' = true) (hy : opdOk y y' = true) {p j} (hi : ixN (Vc.ev s.tm y') = some (p, j)) {c : Cells} (he : (∃ fr, Vc.ev s.tm x' = .sl fr c) ∨ Vc.ev s.tm x' = .sln c) (hp : p ∧ j < c.count) :
    Good P nt F s a w Q o (okv (p ∧ j < c.count) (.ref c (j * e))) := by
  obtain ⟨el, i, hu, hif, hs⟩ := tySl_spec ht
  obtain ⟨k, hk⟩ := ixN_rv hi (h.ev hy) hp.1
  have ex := h.ev hx
  generalize hxe : a.eval x = vx at ex
  have fin : ∀ {ad : Addr} {cap : Nat} {us : List Value}, vx = .slice (some ad) c.count cap → RV F.B (Own F s.me β) w β (.ref c (j * e)) (.pointer (some (ad.add (j * e)))) →
      Good P nt F s a w Q o (okv (p ∧ j < c.count) (.ref c (j * e))) := by
    intro ad cap us hv hr
    refine good_val h hd (v := .pointer (some (ad.add (j * e)))) ?_ rfl hr
    have hlt := hp.2
    simp [execOp, ho, hxe, hv, hk, Instr.indexAt, asIntOf, run_underlying hu, sizeOf, typeInfo, hif, hs, hlt]
  rcases he with ⟨fr, he⟩ | he
  · rw [he] at ex
    generalize hc2 : c.count = cc at *
    cases ex with
    | sl hl hc hO hb hf h1 hcap hs' =>
      rename_i ad cap us
      exact fin (us := us) (by rw [hc2]) (.ref hl hc hO hb h1 hs')
    | sl0 h0 h0' => omega
  · rw [he] at ex
    generalize hc2 : c.count = cc at *
    cases ex with
    | sln0 h0 h0' => omega
    | sln hl hc hO hb h1 hcap hs' =>
      rename_i ad cap us
      exact fin (us := us) (by rw [hc2]) (.ref hl hc hO hb h1 hs')

theorem good_idxS_own (h : Rep nt F s β a w) (hd : ∀ t, o.dst = some t → t < nt) {t e e' : Nat} {x y : Operand} {x' y' : Opd} (ho : o.op = .indexAddr t x y) (ht : tySl P t e = true)
    (hx : opdOk x x' = true) (hy : opdOk y y' = true) {p j} (hi : ixN (Vc.ev s.tm y') = some (p, j)) {k off l : Nat} (he : Vc.ev s.tm x' = .own k off l e') (hp : p ∧ j < l ∧ e = e') :
    Good P nt F s a w Q o (okv (p ∧ j < l ∧ e = e') (.ptr k (off + j * e))) := by
  obtain ⟨el, i, hu, hif, hs⟩ := tySl_spec ht
  obtain ⟨kk, hk⟩ := ixN_rv hi (h.ev hy) hp.1
  have ex := h.ev hx
  generalize hxe : a.eval x = vx at ex
  rw [he] at ex
  cases ex with
  | own hb hl hc ho' =>
    rename_i o' b sz cap
    have hoo : o' = off := by rcases ho' with h | h <;> omega
    subst hoo
    refine good_val h hd (v := .pointer (some ((⟨b, o', none⟩ : Addr).add (j * e)))) ?_ rfl ?_
    · have hlt := hp.2.1
      simp [execOp, ho, hxe, hk, Instr.indexAt, asIntOf, run_underlying hu, sizeOf, typeInfo, hif, hs, hlt]
    · rw [add_cell]; exact .ptr hb
  | ownnil hb => omega

theorem good_idxA_ptr (h : Rep nt F s β a w) (hd : ∀ t, o.dst = some t → t < nt) {t m e : Nat} {x y : Operand} {x' y' : Opd} (ho : o.op = .indexAddr t x y) (ht : tyAr P t m e = true)
    (hx : opdOk x x' = true) (hy : opdOk y y' = true) {p j} (hi : ixN (Vc.ev s.tm y') = some (p, j)) {k off : Nat} (he : Vc.ev s.tm x' = .ptr k off) (hp : p ∧ j < m) :
    Good P nt F s a w Q o (okv (p ∧ j < m) (.ptr k (off + j * e))) := by
  obtain ⟨el, i, hu, hif, hs⟩ := tyAr_spec ht
  obtain ⟨kk, hk⟩ := ixN_rv hi (h.ev hy) hp.1
  have ex := h.ev hx
  generalize hxe : a.eval x = vx at ex
  rw [he] at ex
  cases ex with
  | ptr hb =>
    rename_i b sz
    refine good_val h hd (v := .pointer (some ((⟨b, off, none⟩ : Addr).add (j * e)))) ?_ rfl ?_
    · have hlt := hp.2
      simp [execOp, ho, hxe, hk, Instr.indexAt, Instr.sureAddr, asIntOf, run_underlying hu, sizeOf, typeInfo, hif, hs, hlt]
    · rw [add_cell]; exact .ptr hb
theorem good_idxA_ref (h : Rep nt F s β a w) (hd : ∀ t, o.dst = some t → t < nt) {t m e : Nat} {x y : Operand} {x' y' : Opd} (ho : o.op = .indexAddr t x y) (ht : tyAr P t m e = true)
    (hx : opdOk x x' = true) (hy : opdOk y y' = true) {p j} (hi : ixN (Vc.ev s.tm y') = some (p, j)) {c : Cells} {off : Nat} (he : Vc.ev s.tm x' = .ref c off) (hp : p ∧ j < m) :
    Good P nt F s a w Q o (okv (p ∧ j < m) (.ref c (off + j * e))) := by
  obtain ⟨el, i, hu, hif, hs⟩ := tyAr_spec ht
  obtain ⟨kk, hk⟩ := ixN_rv hi (h.ev hy) hp.1
  have ex := h.ev hx
  generalize hxe : a.eval x = vx at ex
  rw [he] at ex
  cases ex with
  | ref hl hc hO hb h1 hs' =>
    rename_i ad us
    refine good_val h hd (v := .pointer (some ((ad.add off).add (j * e)))) ?_ rfl ?_
    · have hlt := hp.2
      simp [execOp, ho, hxe, hk, Instr.indexAt, Instr.sureAddr, asIntOf, run_underlying hu, sizeOf, typeInfo, hif, hs, hlt]
    · rw [add_add]; exact .ref hl hc hO hb h1 hs'

/-- a struct's field: where it lies, and that it takes cells -/
def tyFld (P : Program) (t f off : Nat) (sz : Option Nat) : Bool :=
  match P.underlying t with
  | some (.struct fs) => match fs[f]? with
    | some fd => fd.offset == off && tyAg P fd.type == some sz && (P.info? fd.type).any (fun i => i.size != 0)
    | none => false
  | _ => false
theorem tyFld_spec {t f off sz} (h : tyFld P t f off sz = true) : ∃ fs fd i, P.underlying t = some (.struct fs) ∧ fs[f]? = some fd ∧ fd.offset = off ∧ tyAg P fd.type = some sz ∧ P.info? fd.type = some i ∧ i.size ≠ 0 := by
  unfold tyFld at h
  split at h
  · rename_i fs hu
    split at h
    · rename_i fd hf
      simp only [Bool.and_eq_true, beq_iff_eq] at h
      cases hi : P.info? fd.type with
      | none => simp [hi] at h
      | some i => exact ⟨fs, fd, i, hu, hf, h.1.1, h.1.2, hi, by simpa [hi] using h.2⟩
    · simp at h
  · simp at h

theorem good_fld_ptr (h : Rep nt F s β a w) (hd : ∀ t, o.dst = some t → t < nt) {t f off : Nat} {sz : Option Nat} {x : Operand} {x' : Opd} (ho : o.op = .fieldAddr t x f) (ht : tyFld P t f off sz = true)
    (hx : opdOk x x' = true) {k off0 : Nat} (he : Vc.ev s.tm x' = .ptr k off0) : Good P nt F s a w Q o (okv True (.ptr k (off0 + off))) := by
  obtain ⟨fs, fd, i, hu, hf, hoff, _, hi, hs⟩ := tyFld_spec ht
  have ex := h.ev hx
  generalize hxe : a.eval x = vx at ex
  rw [he] at ex
  cases ex with
  | ptr hb =>
    rename_i b z
    refine good_val h hd (v := .pointer (some ((⟨b, off0, none⟩ : Addr).add off))) ?_ rfl ?_
    · simp [execOp, ho, hxe, Instr.fieldAt, Instr.sureAddr, run_underlying hu, hf, fieldPlace, sizeOf, typeInfo, hi, hs, hoff]
    · rw [add_cell]; exact .ptr hb
theorem good_fld_ref (h : Rep nt F s β a w) (hd : ∀ t, o.dst = some t → t < nt) {t f off : Nat} {sz : Option Nat} {x : Operand} {x' : Opd} (ho : o.op = .fieldAddr t x f) (ht : tyFld P t f off sz = true)
    (hx : opdOk x x' = true) {c : Cells} {off0 : Nat} (he : Vc.ev s.tm x' = .ref c off0) : Good P nt F s a w Q o (okv True (.ref c (off0 + off))) := by
  obtain ⟨fs, fd, i, hu, hf, hoff, _, hi, hs⟩ := tyFld_spec ht
  have ex := h.ev hx
  generalize hxe : a.eval x = vx at ex
  rw [he] at ex
  cases ex with
  | ref hl hc hO hb h1 hs' =>
    rename_i ad us
    refine good_val h hd (v := .pointer (some ((ad.add off0).add off))) ?_ rfl ?_
    · simp [execOp, ho, hxe, Instr.fieldAt, Instr.sureAddr, run_underlying hu, hf, fieldPlace, sizeOf, typeInfo, hi, hs, hoff]
    · rw [add_add]; exact .ref hl hc hO hb h1 hs'

theorem run_part_one {t : TypeId} (ht : tyAg P t = some none) {us : List Value} {off : Nat} (hlt : off < us.length) : (part t us.toArray off).run P w = .ok (us.getD off undef) w := by
  have hagg : (isAgg t).run P w = .ok false w := by
    unfold tyAg at ht
    cases hu : P.underlying t with
    | none => rw [hu] at ht; cases ht
    | some d =>
      rw [hu] at ht
      unfold isAgg
      rw [Sem.run_bind, run_underlying hu w]
      cases d <;> first
        | rfl
        | (cases hi : P.info? t <;> simp [hi] at ht)
  simp only [part, Sem.run_bind, hagg, Result.andThen_ok]
  have e : us.toArray[off]? = some (us.getD off undef) := by simpa using getD_getElem? hlt
  rw [e]
  rfl

/-- a part of a struct or an array that is a value -/
theorem run_part {B O β} {t : TypeId} {sz : Option Nat} (ht : tyAg P t = some sz) {c : Cells} {us : List Value} {off : Nat} (hl : us.length = c.len) (h1 : ∀ u ∈ us, u.oneCell' = true)
    (hs : ∀ j, j < c.len → RV B O w β (c.get j) (us.getD j undef)) (hh : c.has off (sz.getD 1)) : ∃ v, (part t us.toArray off).run P w = .ok v w ∧ RV B O w β (c.rd off sz) v := by
  cases sz with
  | none =>
    have hlt : off < us.length := by have := hh.1; simp at this; omega
    exact ⟨us.getD off undef, run_part_one ht hlt, hs off (by omega)⟩
  | some m =>
    simp only [Option.getD_some] at hh
    obtain ⟨i, hi, hsz, hagg⟩ := tyAg_some (w := w) ht
    have q := rv_sub (w := w) (us := us) (by omega) h1 hs hh
    refine ⟨_, ?_, q.1⟩
    simp [part, hagg, sizeOf, typeInfo, hi, hsz, List.extract_eq_take_drop, Nat.add_sub_cancel_left]

theorem good_field (h : Rep nt F s β a w) (hd : ∀ t, o.dst = some t → t < nt) {t f off : Nat} {sz : Option Nat} {x : Operand} {x' : Opd} (ho : o.op = .field t x f) (ht : tyFld P t f off sz = true)
    (hx : opdOk x x' = true) {c : Cells} (he : Vc.ev s.tm x' = .agg c) (hh : c.has off (sz.getD 1)) : Good P nt F s a w Q o (okv (c.has off (sz.getD 1)) (c.rd off sz)) := by
  obtain ⟨fs, fd, i, hu, hf, hoff, hag, hi, hs⟩ := tyFld_spec ht
  have ex := h.ev hx
  generalize hxe : a.eval x = vx at ex
  rw [he] at ex
  cases ex with
  | agg hl h1 hs' =>
    rename_i us
    obtain ⟨v, hv, hr⟩ := run_part hag hl h1 hs' hh
    refine good_val h hd (v := v) ?_ rfl hr
    simp [execOp, ho, hxe, Instr.field, run_underlying hu, hf, asAgg, hoff, hv]

theorem good_idx_agg (h : Rep nt F s β a w) (hd : ∀ t, o.dst = some t → t < nt) {t m : Nat} {x y : Operand} {x' y' : Opd} (ho : o.op = .index t x y) (ht : tyAr P t m 1 = true) (hel : ∀ el, P.underlying t = some (.array m el) → tyAg P el = some none)
    (hx : opdOk x x' = true) (hy : opdOk y y' = true) {p j} (hi : ixN (Vc.ev s.tm y') = some (p, j)) {c : Cells} (he : Vc.ev s.tm x' = .agg c) (hp : p ∧ j < m ∧ c.len = m) {r : R} (hr : r.v = c.get j) (hmw : r.mw = []) :
    Good P nt F s a w Q o r := by
  obtain ⟨el, i, hu, hif, hs⟩ := tyAr_spec ht
  obtain ⟨kk, hk⟩ := ixN_rv hi (h.ev hy) hp.1
  have ex := h.ev hx
  generalize hxe : a.eval x = vx at ex
  rw [he] at ex
  cases ex with
  | agg hl h1 hs' =>
    rename_i us
    have hlt := hp.2.1
    refine good_val h hd (v := us.getD j undef) ?_ hmw (by rw [hr]; exact hs' j (by omega))
    have hpart := run_part_one (P := P) (w := w) (hel el hu) (us := us) (off := j) (by omega)
    simp [execOp, ho, hxe, hk, Instr.index, asIntOf, run_underlying hu, sizeOf, typeInfo, hif, hs, hlt, hpart]

theorem good_idx_str (h : Rep nt F s β a w) (hd : ∀ t, o.dst = some t → t < nt) {t : Nat} {x y : Operand} {x' y' : Opd} (ho : o.op = .index t x y) (ht : P.underlying t = some .string)
    (hx : opdOk x x' = true) (hy : opdOk y y' = true) {p j} (hi : ixN (Vc.ev s.tm y') = some (p, j)) {l : List UInt8} (he : Vc.ev s.tm x' = .str l) (hp : p ∧ j < l.length) :
    Good P nt F s a w Q o (okv (p ∧ j < l.length) (.u8 (l.getD j 0))) := by
  obtain ⟨kk, hk⟩ := ixN_rv hi (h.ev hy) hp.1
  have ex := h.ev hx
  generalize hxe : a.eval x = vx at ex
  rw [he] at ex
  generalize hll : l = ll at *
  cases ex with
  | str =>
    rename_i b
    have hlt : j < b.size := by have := hp.2; simpa using this
    refine good_val h hd (v := .int .u8 ((b.data.toList.getD j 0).toNat : Int)) ?_ rfl .u8
    have e : b[j]? = some (b.data.toList.getD j 0) := by
      rw [getElem?_pos b j hlt]
      congr 1
      simp only [List.getD_eq_getElem?_getD]
      rw [List.getElem?_eq_getElem (by simpa using hlt)]
      rfl
    simp [execOp, ho, hxe, hk, Instr.index, asIntOf, run_underlying ht, e]

theorem good_ext (h : Rep nt F s β a w) (hd : ∀ t, o.dst = some t → t < nt) {x : Operand} {x' : Opd} {j : Nat} (ho : o.op = .extract x j) (hx : opdOk x x' = true) {l : List AV} (he : Vc.ev s.tm x' = .tup l) (hj : j < l.length) :
    Good P nt F s a w Q o (okv (j < l.length) (l.getD j .any)) := by
  have ex := h.ev hx
  generalize hxe : a.eval x = vx at ex
  rw [he] at ex
  cases ex with
  | tup hl hs =>
    rename_i us
    have e : us[j]? = some (us.getD j undef) := getD_getElem? (by omega)
    have r := hs j hj
    generalize us.getD j undef = u at e r
    refine good_val h hd (v := u) ?_ rfl r
    simp [execOp, ho, hxe, Instr.extract, e]

theorem lenOf_rv {B O β av v l} (h : lenOf av = some l) (hv : RV B O w β av v) : (∃ ad cap, v = .slice ad l cap) ∨ (∃ b : ByteArray, v = .string b ∧ b.size = l ∧ ∃ s, av = .str s) := by
  cases hv <;> simp only [lenOf, Option.some.injEq, reduceCtorEq] at h
  all_goals subst h
  case str => right; exact ⟨_, rfl, by simp, _, rfl⟩
  case sl0 h0 h1 hn => left; rw [h1]; exact ⟨_, _, rfl⟩
  case sln0 h0 h1 => left; rw [h1]; exact ⟨_, _, rfl⟩
  all_goals (left; exact ⟨_, _, rfl⟩)

/-- len's operand is a slice or a string -/
def tyLen (P : Program) (t : Nat) (str : Bool) : Bool :=
  match P.underlying t with
  | some (.slice _) => !str
  | some .string => str
  | _ => false
theorem good_len (h : Rep nt F s β a w) (hd : ∀ t, o.dst = some t → t < nt) {x : Operand} {x' : Opd} {t : Nat} {str : Bool} (ho : o.op = .call { callee := .builtin .len, args := #[x], argTypes := #[t] }) (ht : tyLen P t str = true)
    (hx : opdOk x x' = true) {l : Nat} (hl : lenOf (Vc.ev s.tm x') = some l) (hs : str = true ↔ ∃ b, Vc.ev s.tm x' = .str b) : Good P nt F s a w Q o (okv True (.n l)) := by
  have ex := h.ev hx
  generalize hxe : a.eval x = vx at ex
  refine good_val h hd (v := .int .i64 (l : Int)) ?_ rfl .n
  unfold tyLen at ht
  rcases lenOf_rv hl ex with ⟨ad, cap, rfl⟩ | ⟨b, rfl, hb, s', hs'⟩
  · have hstr : str = false := by
      cases hstr : str with
      | false => rfl
      | true =>
        obtain ⟨b, hb⟩ := hs.1 hstr
        rw [hb] at ex
        cases ex
    subst hstr
    split at ht
    · rename_i el hu
      simp [execOp, ho, hxe, resolve, invoke, builtin, Builtin.len_, run_underlying hu, goInt]
    · simp at ht
    · simp at ht
  · have hstr : str = true := hs.2 ⟨s', hs'⟩
    subst hstr
    split at ht
    · simp at ht
    · rename_i hu
      simp [execOp, ho, hxe, resolve, invoke, builtin, Builtin.len_, run_underlying hu, goInt, hb]
    · simp at ht
theorem good_capn (h : Rep nt F s β a w) (hd : ∀ t, o.dst = some t → t < nt) {x : Operand} {x' : Opd} {t : Nat} (ho : o.op = .call { callee := .builtin .cap, args := #[x], argTypes := #[t] }) (ht : tyLen P t false = true)
    (hx : opdOk x x' = true) (he : Vc.ev s.tm x' = .nil) : Good P nt F s a w Q o (okv True (.n 0)) := by
  have ex := h.ev hx
  rw [he] at ex
  generalize hxe : a.eval x = vx at ex
  cases ex
  refine good_val h hd (v := .int .i64 ((0 : Nat) : Int)) ?_ rfl .n
  unfold tyLen at ht
  split at ht
  · rename_i el hu
    simp [execOp, ho, hxe, resolve, invoke, builtin, Builtin.cap_, run_underlying hu, goInt]
  · simp at ht
  · simp at ht
end
end Go.Vc

/-! Vc3d -/
set_option linter.unusedVariables false
set_option linter.unusedSimpArgs false
namespace Go.Vc

theorem w8 (z : Int) : IntKind.u8.wrap z = z % 256 := by
  have h : (2 ^ IntKind.u8.bits : Int) = 256 := by decide
  simp only [IntKind.wrap, IntKind.signed, h, Bool.false_and, Bool.false_eq_true, if_false]
theorem u8_lt (x : UInt8) : x.toNat < 256 := x.toNat_lt
theorem u8_bv (x : UInt8) : BitVec.ofInt IntKind.u8.bits (x.toNat : Int) = x.toBitVec := by
  show BitVec.ofInt 8 (x.toNat : Int) = x.toBitVec
  rw [BitVec.ofInt_natCast]
  apply BitVec.eq_of_toNat_eq
  rw [BitVec.toNat_ofNat]
  exact Nat.mod_eq_of_lt x.toNat_lt
theorem u8_wn (x : UInt8) : IntKind.u8.wrap (x.toNat : Int) = (x.toNat : Int) := by rw [w8]; have := u8_lt x; omega
theorem shl8_nat (x : UInt8) (c : Nat) : ((shl8 x c).toNat : Int) = IntKind.u8.wrap ((x.toNat : Int) * 2 ^ (min c IntKind.u8.bits)) := by
  rw [w8]
  have hb : IntKind.u8.bits = 8 := rfl
  rw [hb]
  unfold shl8
  by_cases h : c < 8
  · rw [if_pos h, UInt8.toNat_shiftLeft, show min c 8 = c by omega]
    have e : (UInt8.ofNat c).toNat % 8 = c := by
      rw [UInt8.toNat_ofNat']; omega
    rw [e, Nat.shiftLeft_eq]
    have : ((2 : Int) ^ c) = ((2 ^ c : Nat) : Int) := by simp
    rw [this]
    generalize 2 ^ c = p
    rw [← Int.natCast_mul]
    generalize x.toNat * p = q
    omega
  · rw [if_neg h, show min c 8 = 8 by omega]
    have : (x.toNat : Int) * 2 ^ 8 % 256 = 0 := by
      rw [show ((2 : Int) ^ 8) = 256 by decide]
      omega
    rw [this]; rfl
theorem shr8_nat (x : UInt8) (c : Nat) : ((shr8 x c).toNat : Int) = (x.toNat : Int).fdiv (2 ^ (min c IntKind.u8.bits)) := by
  have hb : IntKind.u8.bits = 8 := rfl
  rw [hb, Int.fdiv_eq_ediv_of_nonneg _ (by exact Int.pow_nonneg (by omega))]
  unfold shr8
  by_cases h : c < 8
  · rw [if_pos h, UInt8.toNat_shiftRight, show min c 8 = c by omega]
    have e : (UInt8.ofNat c).toNat % 8 = c := by
      rw [UInt8.toNat_ofNat']; omega
    rw [e, Nat.shiftRight_eq_div_pow]
    have : ((2 : Int) ^ c) = ((2 ^ c : Nat) : Int) := by simp
    rw [this, ← Int.natCast_ediv]
  · rw [if_neg h, show min c 8 = 8 by omega, show ((2 : Int) ^ 8) = 256 by decide]
    have := u8_lt x
    have : (x.toNat : Int) / 256 = 0 := by omega
    rw [this]; rfl

theorem w16 (z : Int) : IntKind.u16.wrap z = z % 65536 := by
  have h : (2 ^ IntKind.u16.bits : Int) = 65536 := by decide
  simp only [IntKind.wrap, IntKind.signed, h, Bool.false_and, Bool.false_eq_true, if_false]
theorem u16_lt (x : UInt16) : x.toNat < 65536 := x.toNat_lt
theorem u16_bv (x : UInt16) : BitVec.ofInt IntKind.u16.bits (x.toNat : Int) = x.toBitVec := by
  show BitVec.ofInt 16 (x.toNat : Int) = x.toBitVec
  rw [BitVec.ofInt_natCast]
  apply BitVec.eq_of_toNat_eq
  rw [BitVec.toNat_ofNat]
  exact Nat.mod_eq_of_lt x.toNat_lt
theorem u16_wn (x : UInt16) : IntKind.u16.wrap (x.toNat : Int) = (x.toNat : Int) := by rw [w16]; have := u16_lt x; omega
theorem shl16_nat (x : UInt16) (c : Nat) : ((shl16 x c).toNat : Int) = IntKind.u16.wrap ((x.toNat : Int) * 2 ^ (min c IntKind.u16.bits)) := by
  rw [w16]
  have hb : IntKind.u16.bits = 16 := rfl
  rw [hb]
  unfold shl16
  by_cases h : c < 16
  · rw [if_pos h, UInt16.toNat_shiftLeft, show min c 16 = c by omega]
    have e : (UInt16.ofNat c).toNat % 16 = c := by
      rw [UInt16.toNat_ofNat']; omega
    rw [e, Nat.shiftLeft_eq]
    have : ((2 : Int) ^ c) = ((2 ^ c : Nat) : Int) := by simp
    rw [this]
    generalize 2 ^ c = p
    rw [← Int.natCast_mul]
    generalize x.toNat * p = q
    omega
  · rw [if_neg h, show min c 16 = 16 by omega]
    have : (x.toNat : Int) * 2 ^ 16 % 65536 = 0 := by
      rw [show ((2 : Int) ^ 16) = 65536 by decide]
      omega
    rw [this]; rfl
theorem shr16_nat (x : UInt16) (c : Nat) : ((shr16 x c).toNat : Int) = (x.toNat : Int).fdiv (2 ^ (min c IntKind.u16.bits)) := by
  have hb : IntKind.u16.bits = 16 := rfl
  rw [hb, Int.fdiv_eq_ediv_of_nonneg _ (by exact Int.pow_nonneg (by omega))]
  unfold shr16
  by_cases h : c < 16
  · rw [if_pos h, UInt16.toNat_shiftRight, show min c 16 = c by omega]
    have e : (UInt16.ofNat c).toNat % 16 = c := by
      rw [UInt16.toNat_ofNat']; omega
    rw [e, Nat.shiftRight_eq_div_pow]
    have : ((2 : Int) ^ c) = ((2 ^ c : Nat) : Int) := by simp
    rw [this, ← Int.natCast_ediv]
  · rw [if_neg h, show min c 16 = 16 by omega, show ((2 : Int) ^ 16) = 65536 by decide]
    have := u16_lt x
    have : (x.toNat : Int) / 65536 = 0 := by omega
    rw [this]; rfl

theorem w32 (z : Int) : IntKind.u32.wrap z = z % 4294967296 := by
  have h : (2 ^ IntKind.u32.bits : Int) = 4294967296 := by decide
  simp only [IntKind.wrap, IntKind.signed, h, Bool.false_and, Bool.false_eq_true, if_false]
theorem u32_lt (x : UInt32) : x.toNat < 4294967296 := x.toNat_lt
theorem u32_bv (x : UInt32) : BitVec.ofInt IntKind.u32.bits (x.toNat : Int) = x.toBitVec := by
  show BitVec.ofInt 32 (x.toNat : Int) = x.toBitVec
  rw [BitVec.ofInt_natCast]
  apply BitVec.eq_of_toNat_eq
  rw [BitVec.toNat_ofNat]
  exact Nat.mod_eq_of_lt x.toNat_lt
theorem u32_wn (x : UInt32) : IntKind.u32.wrap (x.toNat : Int) = (x.toNat : Int) := by rw [w32]; have := u32_lt x; omega
theorem shl32_nat (x : UInt32) (c : Nat) : ((shl32 x c).toNat : Int) = IntKind.u32.wrap ((x.toNat : Int) * 2 ^ (min c IntKind.u32.bits)) := by
  rw [w32]
  have hb : IntKind.u32.bits = 32 := rfl
  rw [hb]
  unfold shl32
  by_cases h : c < 32
  · rw [if_pos h, UInt32.toNat_shiftLeft, show min c 32 = c by omega]
    have e : (UInt32.ofNat c).toNat % 32 = c := by
      rw [UInt32.toNat_ofNat']; omega
    rw [e, Nat.shiftLeft_eq]
    have : ((2 : Int) ^ c) = ((2 ^ c : Nat) : Int) := by simp
    rw [this]
    generalize 2 ^ c = p
    rw [← Int.natCast_mul]
    generalize x.toNat * p = q
    omega
  · rw [if_neg h, show min c 32 = 32 by omega]
    have : (x.toNat : Int) * 2 ^ 32 % 4294967296 = 0 := by
      rw [show ((2 : Int) ^ 32) = 4294967296 by decide]
      omega
    rw [this]; rfl
theorem shr32_nat (x : UInt32) (c : Nat) : ((shr32 x c).toNat : Int) = (x.toNat : Int).fdiv (2 ^ (min c IntKind.u32.bits)) := by
  have hb : IntKind.u32.bits = 32 := rfl
  rw [hb, Int.fdiv_eq_ediv_of_nonneg _ (by exact Int.pow_nonneg (by omega))]
  unfold shr32
  by_cases h : c < 32
  · rw [if_pos h, UInt32.toNat_shiftRight, show min c 32 = c by omega]
    have e : (UInt32.ofNat c).toNat % 32 = c := by
      rw [UInt32.toNat_ofNat']; omega
    rw [e, Nat.shiftRight_eq_div_pow]
    have : ((2 : Int) ^ c) = ((2 ^ c : Nat) : Int) := by simp
    rw [this, ← Int.natCast_ediv]
  · rw [if_neg h, show min c 32 = 32 by omega, show ((2 : Int) ^ 32) = 4294967296 by decide]
    have := u32_lt x
    have : (x.toNat : Int) / 4294967296 = 0 := by omega
    rw [this]; rfl

theorem w64 (z : Int) : IntKind.u64.wrap z = z % 18446744073709551616 := by
  have h : (2 ^ IntKind.u64.bits : Int) = 18446744073709551616 := by decide
  simp only [IntKind.wrap, IntKind.signed, h, Bool.false_and, Bool.false_eq_true, if_false]
theorem u64_lt (x : UInt64) : x.toNat < 18446744073709551616 := x.toNat_lt
theorem u64_bv (x : UInt64) : BitVec.ofInt IntKind.u64.bits (x.toNat : Int) = x.toBitVec := by
  show BitVec.ofInt 64 (x.toNat : Int) = x.toBitVec
  rw [BitVec.ofInt_natCast]
  apply BitVec.eq_of_toNat_eq
  rw [BitVec.toNat_ofNat]
  exact Nat.mod_eq_of_lt x.toNat_lt
theorem u64_wn (x : UInt64) : IntKind.u64.wrap (x.toNat : Int) = (x.toNat : Int) := by rw [w64]; have := u64_lt x; omega
theorem shl64_nat (x : UInt64) (c : Nat) : ((shl64 x c).toNat : Int) = IntKind.u64.wrap ((x.toNat : Int) * 2 ^ (min c IntKind.u64.bits)) := by
  rw [w64]
  have hb : IntKind.u64.bits = 64 := rfl
  rw [hb]
  unfold shl64
  by_cases h : c < 64
  · rw [if_pos h, UInt64.toNat_shiftLeft, show min c 64 = c by omega]
    have e : (UInt64.ofNat c).toNat % 64 = c := by
      rw [UInt64.toNat_ofNat']; omega
    rw [e, Nat.shiftLeft_eq]
    have : ((2 : Int) ^ c) = ((2 ^ c : Nat) : Int) := by simp
    rw [this]
    generalize 2 ^ c = p
    rw [← Int.natCast_mul]
    generalize x.toNat * p = q
    omega
  · rw [if_neg h, show min c 64 = 64 by omega]
    have : (x.toNat : Int) * 2 ^ 64 % 18446744073709551616 = 0 := by
      rw [show ((2 : Int) ^ 64) = 18446744073709551616 by decide]
      omega
    rw [this]; rfl
theorem shr64_nat (x : UInt64) (c : Nat) : ((shr64 x c).toNat : Int) = (x.toNat : Int).fdiv (2 ^ (min c IntKind.u64.bits)) := by
  have hb : IntKind.u64.bits = 64 := rfl
  rw [hb, Int.fdiv_eq_ediv_of_nonneg _ (by exact Int.pow_nonneg (by omega))]
  unfold shr64
  by_cases h : c < 64
  · rw [if_pos h, UInt64.toNat_shiftRight, show min c 64 = c by omega]
    have e : (UInt64.ofNat c).toNat % 64 = c := by
      rw [UInt64.toNat_ofNat']; omega
    rw [e, Nat.shiftRight_eq_div_pow]
    have : ((2 : Int) ^ c) = ((2 ^ c : Nat) : Int) := by simp
    rw [this, ← Int.natCast_ediv]
  · rw [if_neg h, show min c 64 = 64 by omega, show ((2 : Int) ^ 64) = 18446744073709551616 by decide]
    have := u64_lt x
    have : (x.toNat : Int) / 18446744073709551616 = 0 := by omega
    rw [this]; rfl
end Go.Vc

/-! Vc3e -/
set_option linter.unusedVariables false
set_option linter.unusedSimpArgs false
namespace Go.Vc
section
variable {P : Program} {nt : Nat} {F : Fr} {s : St} {β : Bt} {a : Act} {w : World} {o : Oper} {Q : Exit → Act → World → Prop}

theorem back8 (r : BitVec 8) : IntKind.u8.wrap (r.toNat : Int) = (r.toNat : Int) := by
  have h : r.toNat < 256 := r.isLt
  rw [w8]; omega
theorem bin_u8 {O' : Nat → Prop} {B' : Nat} {op : BinOp} (hop : op ≠ .shl ∧ op ≠ .shr) {x y : UInt8} {t : Nat} (hp : (bin op (.u8 x) (.u8 y)).pre) :
    ∃ v, (binOp op t (.int .u8 (x.toNat : Int)) (.int .u8 (y.toNat : Int))).run P w = .ok v w ∧ RV B' O' w β (bin op (.u8 x) (.u8 y)).v v := by
  have lx := u8_lt x
  have ly := u8_lt y
  have mk : ∀ (z : Int) (u : UInt8), z = (u.toNat : Int) → RV B' O' w β (.u8 u) (.int .u8 z) := fun z u h => by rw [h]; exact .u8
  have mb : ∀ (b c : Bool), b = c → RV B' O' w β (.bool c) (.bool b) := fun b c h => by rw [h]; exact .bool
  have hn : ∀ z : UInt8, z ≠ 0 → (z.toNat : Int) ≠ 0 := fun z hz e => hz (UInt8.toNat_inj.1 (by simpa using (by omega : z.toNat = 0)))
  cases op <;> first
    | exact absurd rfl hop.1
    | exact absurd rfl hop.2
    | (refine ⟨_, by simp only [binOp, ne_eq, not_true, if_false, Op.intArith]; rfl, mk _ _ ?_⟩; simp only [w8, UInt8.toNat_add, UInt8.toNat_sub, UInt8.toNat_mul]; first | omega | (rw [← Int.natCast_mul]; generalize x.toNat * y.toNat = q; omega))
    | (have hq : y ≠ 0 := hp
       have := hn y hq
       refine ⟨_, by simp only [binOp, ne_eq, not_true, if_false, Op.intDiv, this]; rfl, mk _ _ ?_⟩
       first
         | (simp only [w8, UInt8.toNat_div]; rw [Int.tdiv_eq_ediv_of_nonneg (by omega), ← Int.natCast_ediv]; have := Nat.div_le_self x.toNat y.toNat; generalize x.toNat / y.toNat = q at *; omega)
         | (simp only [UInt8.toNat_mod]; rw [Int.tmod_eq_emod_of_nonneg (by omega), ← Int.natCast_emod]))
    | (refine ⟨_, by simp only [binOp, ne_eq, not_true, if_false, Op.intBits, u8_bv]; rfl, mk _ _ ?_⟩; exact back8 _)
    | (refine ⟨_, by simp only [binOp, ne_eq, not_true, if_false, Op.intCmp]; rfl, mb _ _ ?_⟩
       rw [Bool.eq_iff_iff]
       simp only [beq_iff_eq, bne_iff_ne, ne_eq, decide_eq_true_eq, ← UInt8.toNat_inj, UInt8.lt_iff_toNat_lt, UInt8.le_iff_toNat_le]
       omega)

theorem back16 (r : BitVec 16) : IntKind.u16.wrap (r.toNat : Int) = (r.toNat : Int) := by
  have h : r.toNat < 65536 := r.isLt
  rw [w16]; omega
theorem bin_u16 {O' : Nat → Prop} {B' : Nat} {op : BinOp} (hop : op ≠ .shl ∧ op ≠ .shr) {x y : UInt16} {t : Nat} (hp : (bin op (.u16 x) (.u16 y)).pre) :
    ∃ v, (binOp op t (.int .u16 (x.toNat : Int)) (.int .u16 (y.toNat : Int))).run P w = .ok v w ∧ RV B' O' w β (bin op (.u16 x) (.u16 y)).v v := by
  have lx := u16_lt x
  have ly := u16_lt y
  have mk : ∀ (z : Int) (u : UInt16), z = (u.toNat : Int) → RV B' O' w β (.u16 u) (.int .u16 z) := fun z u h => by rw [h]; exact .u16
  have mb : ∀ (b c : Bool), b = c → RV B' O' w β (.bool c) (.bool b) := fun b c h => by rw [h]; exact .bool
  have hn : ∀ z : UInt16, z ≠ 0 → (z.toNat : Int) ≠ 0 := fun z hz e => hz (UInt16.toNat_inj.1 (by simpa using (by omega : z.toNat = 0)))
  cases op <;> first
    | exact absurd rfl hop.1
    | exact absurd rfl hop.2
    | (refine ⟨_, by simp only [binOp, ne_eq, not_true, if_false, Op.intArith]; rfl, mk _ _ ?_⟩; simp only [w16, UInt16.toNat_add, UInt16.toNat_sub, UInt16.toNat_mul]; first | omega | (rw [← Int.natCast_mul]; generalize x.toNat * y.toNat = q; omega))
    | (have hq : y ≠ 0 := hp
       have := hn y hq
       refine ⟨_, by simp only [binOp, ne_eq, not_true, if_false, Op.intDiv, this]; rfl, mk _ _ ?_⟩
       first
         | (simp only [w16, UInt16.toNat_div]; rw [Int.tdiv_eq_ediv_of_nonneg (by omega), ← Int.natCast_ediv]; have := Nat.div_le_self x.toNat y.toNat; generalize x.toNat / y.toNat = q at *; omega)
         | (simp only [UInt16.toNat_mod]; rw [Int.tmod_eq_emod_of_nonneg (by omega), ← Int.natCast_emod]))
    | (refine ⟨_, by simp only [binOp, ne_eq, not_true, if_false, Op.intBits, u16_bv]; rfl, mk _ _ ?_⟩; exact back16 _)
    | (refine ⟨_, by simp only [binOp, ne_eq, not_true, if_false, Op.intCmp]; rfl, mb _ _ ?_⟩
       rw [Bool.eq_iff_iff]
       simp only [beq_iff_eq, bne_iff_ne, ne_eq, decide_eq_true_eq, ← UInt16.toNat_inj, UInt16.lt_iff_toNat_lt, UInt16.le_iff_toNat_le]
       omega)

theorem back32 (r : BitVec 32) : IntKind.u32.wrap (r.toNat : Int) = (r.toNat : Int) := by
  have h : r.toNat < 4294967296 := r.isLt
  rw [w32]; omega
theorem bin_u32 {O' : Nat → Prop} {B' : Nat} {op : BinOp} (hop : op ≠ .shl ∧ op ≠ .shr) {x y : UInt32} {t : Nat} (hp : (bin op (.u32 x) (.u32 y)).pre) :
    ∃ v, (binOp op t (.int .u32 (x.toNat : Int)) (.int .u32 (y.toNat : Int))).run P w = .ok v w ∧ RV B' O' w β (bin op (.u32 x) (.u32 y)).v v := by
  have lx := u32_lt x
  have ly := u32_lt y
  have mk : ∀ (z : Int) (u : UInt32), z = (u.toNat : Int) → RV B' O' w β (.u32 u) (.int .u32 z) := fun z u h => by rw [h]; exact .u32
  have mb : ∀ (b c : Bool), b = c → RV B' O' w β (.bool c) (.bool b) := fun b c h => by rw [h]; exact .bool
  have hn : ∀ z : UInt32, z ≠ 0 → (z.toNat : Int) ≠ 0 := fun z hz e => hz (UInt32.toNat_inj.1 (by simpa using (by omega : z.toNat = 0)))
  cases op <;> first
    | exact absurd rfl hop.1
    | exact absurd rfl hop.2
    | (refine ⟨_, by simp only [binOp, ne_eq, not_true, if_false, Op.intArith]; rfl, mk _ _ ?_⟩; simp only [w32, UInt32.toNat_add, UInt32.toNat_sub, UInt32.toNat_mul]; first | omega | (rw [← Int.natCast_mul]; generalize x.toNat * y.toNat = q; omega))
    | (have hq : y ≠ 0 := hp
       have := hn y hq
       refine ⟨_, by simp only [binOp, ne_eq, not_true, if_false, Op.intDiv, this]; rfl, mk _ _ ?_⟩
       first
         | (simp only [w32, UInt32.toNat_div]; rw [Int.tdiv_eq_ediv_of_nonneg (by omega), ← Int.natCast_ediv]; have := Nat.div_le_self x.toNat y.toNat; generalize x.toNat / y.toNat = q at *; omega)
         | (simp only [UInt32.toNat_mod]; rw [Int.tmod_eq_emod_of_nonneg (by omega), ← Int.natCast_emod]))
    | (refine ⟨_, by simp only [binOp, ne_eq, not_true, if_false, Op.intBits, u32_bv]; rfl, mk _ _ ?_⟩; exact back32 _)
    | (refine ⟨_, by simp only [binOp, ne_eq, not_true, if_false, Op.intCmp]; rfl, mb _ _ ?_⟩
       rw [Bool.eq_iff_iff]
       simp only [beq_iff_eq, bne_iff_ne, ne_eq, decide_eq_true_eq, ← UInt32.toNat_inj, UInt32.lt_iff_toNat_lt, UInt32.le_iff_toNat_le]
       omega)

theorem back64 (r : BitVec 64) : IntKind.u64.wrap (r.toNat : Int) = (r.toNat : Int) := by
  have h : r.toNat < 18446744073709551616 := r.isLt
  rw [w64]; omega
theorem bin_u64 {O' : Nat → Prop} {B' : Nat} {op : BinOp} (hop : op ≠ .shl ∧ op ≠ .shr) {x y : UInt64} {t : Nat} (hp : (bin op (.u64 x) (.u64 y)).pre) :
    ∃ v, (binOp op t (.int .u64 (x.toNat : Int)) (.int .u64 (y.toNat : Int))).run P w = .ok v w ∧ RV B' O' w β (bin op (.u64 x) (.u64 y)).v v := by
  have lx := u64_lt x
  have ly := u64_lt y
  have mk : ∀ (z : Int) (u : UInt64), z = (u.toNat : Int) → RV B' O' w β (.u64 u) (.int .u64 z) := fun z u h => by rw [h]; exact .u64
  have mb : ∀ (b c : Bool), b = c → RV B' O' w β (.bool c) (.bool b) := fun b c h => by rw [h]; exact .bool
  have hn : ∀ z : UInt64, z ≠ 0 → (z.toNat : Int) ≠ 0 := fun z hz e => hz (UInt64.toNat_inj.1 (by simpa using (by omega : z.toNat = 0)))
  cases op <;> first
    | exact absurd rfl hop.1
    | exact absurd rfl hop.2
    | (refine ⟨_, by simp only [binOp, ne_eq, not_true, if_false, Op.intArith]; rfl, mk _ _ ?_⟩; simp only [w64, UInt64.toNat_add, UInt64.toNat_sub, UInt64.toNat_mul]; first | omega | (rw [← Int.natCast_mul]; generalize x.toNat * y.toNat = q; omega))
    | (have hq : y ≠ 0 := hp
       have := hn y hq
       refine ⟨_, by simp only [binOp, ne_eq, not_true, if_false, Op.intDiv, this]; rfl, mk _ _ ?_⟩
       first
         | (simp only [w64, UInt64.toNat_div]; rw [Int.tdiv_eq_ediv_of_nonneg (by omega), ← Int.natCast_ediv]; have := Nat.div_le_self x.toNat y.toNat; generalize x.toNat / y.toNat = q at *; omega)
         | (simp only [UInt64.toNat_mod]; rw [Int.tmod_eq_emod_of_nonneg (by omega), ← Int.natCast_emod]))
    | (refine ⟨_, by simp only [binOp, ne_eq, not_true, if_false, Op.intBits, u64_bv]; rfl, mk _ _ ?_⟩; exact back64 _)
    | (refine ⟨_, by simp only [binOp, ne_eq, not_true, if_false, Op.intCmp]; rfl, mb _ _ ?_⟩
       rw [Bool.eq_iff_iff]
       simp only [beq_iff_eq, bne_iff_ne, ne_eq, decide_eq_true_eq, ← UInt64.toNat_inj, UInt64.lt_iff_toNat_lt, UInt64.le_iff_toNat_le]
       omega)
end
end Go.Vc

/-! Vc3f -/
set_option linter.unusedVariables false
set_option linter.unusedSimpArgs false
namespace Go.Vc
theorem wI {z : Int} (h : inI z) : IntKind.i64.wrap z = z := by
  unfold inI at h
  have hb : (2 ^ IntKind.i64.bits : Int) = 18446744073709551616 := by decide
  have hc : (2 ^ (IntKind.i64.bits - 1) : Int) = 9223372036854775808 := by decide
  unfold IntKind.wrap
  simp only [hb, hc]
  split
  · rename_i hq
    simp only [Bool.and_eq_true, decide_eq_true_eq] at hq
    omega
  · rename_i hq
    simp only [IntKind.signed, Bool.true_and, decide_eq_true_eq] at hq
    omega
theorem inN {x : Nat} (h : x < 9223372036854775808) : inI (x : Int) := ⟨by omega, by omega⟩

section
variable {P : Program} {nt : Nat} {F : Fr} {s : St} {β : Bt} {a : Act} {w : World} {o : Oper} {Q : Exit → Act → World → Prop}

theorem rvb {O' : Nat → Prop} {B' : Nat} {b c : Bool} (h : b = c) : RV B' O' w β (.bool c) (.bool b) := by rw [h]; exact .bool
theorem rvi {O' : Nat → Prop} {B' : Nat} {b c : Int} (h : b = c) : RV B' O' w β (.i c) (.int .i64 b) := by rw [h]; exact .i
theorem rvn {O' : Nat → Prop} {B' : Nat} {b : Int} {c : Nat} (h : b = (c : Int)) : RV B' O' w β (.n c) (.int .i64 b) := by rw [h]; exact .n

theorem bin_i {O' : Nat → Prop} {B' : Nat} {op : BinOp} (hop : op ≠ .shl ∧ op ≠ .shr) {x y : Int} {t : Nat} (hp : (binI op x y).pre) :
    ∃ v, (binOp op t (.int .i64 x) (.int .i64 y)).run P w = .ok v w ∧ RV B' O' w β (binI op x y).v v := by
  cases op <;> first
    | exact absurd rfl hop.1
    | exact absurd rfl hop.2
    | (exfalso; exact hp; done)
    | (have hq : inI _ := hp
       exact ⟨_, by simp only [binOp, ne_eq, not_true, if_false, Op.intArith]; rfl, rvi (wI hq)⟩)
    | (have hq : 0 ≤ x ∧ x < 9223372036854775808 ∧ 0 < y := hp
       have hy : y ≠ 0 := by omega
       refine ⟨_, by simp only [binOp, ne_eq, not_true, if_false, Op.intDiv, hy]; rfl, rvi ?_⟩
       rw [Int.tdiv_eq_ediv_of_nonneg hq.1]
       exact wI ⟨by have := Int.ediv_nonneg hq.1 (by omega : 0 ≤ y); omega, by have := Int.ediv_le_self y hq.1; omega⟩)
    | (have hq : 0 ≤ x ∧ 0 < y := hp
       have hy : y ≠ 0 := by omega
       exact ⟨_, by simp only [binOp, ne_eq, not_true, if_false, Op.intDiv, hy]; rfl, rvi (Int.tmod_eq_emod_of_nonneg hq.1)⟩)
    | exact ⟨_, by simp only [binOp, ne_eq, not_true, if_false, Op.intBits]; rfl, rvi rfl⟩
    | (refine ⟨_, by simp only [binOp, ne_eq, not_true, if_false, Op.intCmp]; rfl, rvb ?_⟩
       all_goals (rw [Bool.eq_iff_iff]; (try simp only [beq_iff_eq, bne_iff_ne, ne_eq, decide_eq_true_eq, gt_iff_lt, ge_iff_le])))

theorem bin_n {O' : Nat → Prop} {B' : Nat} {op : BinOp} (hop : op ≠ .shl ∧ op ≠ .shr) {x y : Nat} {t : Nat} (hp : (bin op (.n x) (.n y)).pre) :
    ∃ v, (binOp op t (.int .i64 (x : Int)) (.int .i64 (y : Int))).run P w = .ok v w ∧ RV B' O' w β (bin op (.n x) (.n y)).v v := by
  cases op <;> first
    | exact absurd rfl hop.1
    | exact absurd rfl hop.2
    | (exfalso; exact hp; done)
    | (have hq : x + y < 9223372036854775808 := hp
       exact ⟨_, by simp only [binOp, ne_eq, not_true, if_false, Op.intArith]; rfl, rvn (by rw [← Int.natCast_add]; exact wI (inN hq))⟩)
    | (have hq : inI ((x : Int) - y) := hp
       exact ⟨_, by simp only [binOp, ne_eq, not_true, if_false, Op.intArith]; rfl, rvi (wI hq)⟩)
    | (have hq : x * y < 9223372036854775808 := hp
       exact ⟨_, by simp only [binOp, ne_eq, not_true, if_false, Op.intArith]; rfl, rvn (by rw [← Int.natCast_mul]; exact wI (inN hq))⟩)
    | (have hq : x < 9223372036854775808 ∧ 0 < y := hp
       have hy : (y : Int) ≠ 0 := by omega
       refine ⟨_, by simp only [binOp, ne_eq, not_true, if_false, Op.intDiv, hy]; rfl, rvn ?_⟩
       rw [Int.tdiv_eq_ediv_of_nonneg (by omega), ← Int.natCast_ediv]
       exact wI (inN (by have := Nat.div_le_self x y; generalize x / y = q at *; omega)))
    | (have hq : 0 < y := hp
       have hy : (y : Int) ≠ 0 := by omega
       exact ⟨_, by simp only [binOp, ne_eq, not_true, if_false, Op.intDiv, hy]; rfl, rvn (by rw [Int.tmod_eq_emod_of_nonneg (by omega), ← Int.natCast_emod])⟩)
    | (have hq : x < 9223372036854775808 ∧ y < 9223372036854775808 := hp
       refine ⟨_, by simp only [binOp, ne_eq, not_true, if_false, Op.intBits]; rfl, rvn ?_⟩
       have e : (BitVec.ofInt IntKind.i64.bits (x : Int) &&& BitVec.ofInt IntKind.i64.bits (y : Int)).toNat = x &&& y := by
         show (BitVec.ofInt 64 (x : Int) &&& BitVec.ofInt 64 (y : Int)).toNat = x &&& y
         rw [BitVec.ofInt_natCast, BitVec.ofInt_natCast, BitVec.toNat_and, BitVec.toNat_ofNat, BitVec.toNat_ofNat, Nat.mod_eq_of_lt (by omega), Nat.mod_eq_of_lt (by omega)]
       rw [e]
       exact wI (inN (Nat.lt_of_le_of_lt Nat.and_le_left hq.1)))
    | (refine ⟨_, by simp only [binOp, ne_eq, not_true, if_false, Op.intCmp]; rfl, rvb ?_⟩
       rw [Bool.eq_iff_iff]
       simp only [beq_iff_eq, bne_iff_ne, ne_eq, decide_eq_true_eq]
       omega)

theorem shift_rv {O' : Nat → Prop} {B' : Nat} {left : Bool} {x y : AV} {vx vy : Value} (hx : RV B' O' w β x vx) (hy : RV B' O' w β y vy) {t : Nat} (hp : (shift left x (ixN y)).pre) :
    ∃ v, (binOp (if left = true then .shl else .shr) t vx vy).run P w = .ok v w ∧ RV B' O' w β (shift left x (ixN y)).v v := by
  cases hc : ixN y with
  | none => rw [hc] at hp; exact hp.elim
  | some pc =>
    obtain ⟨p, c⟩ := pc
    rw [hc] at hp
    have hpp : p := by cases x <;> first | exact hp | exact hp.elim
    obtain ⟨k, rfl⟩ := ixN_rv hc hy hpp
    have hnn : ¬ ((c : Int) < 0) := by omega
    cases hx <;> simp only [shift] at hp ⊢ <;> first
      | (exfalso; exact hp; done)
      | (cases left
         · simp only [binOp, Op.shift, hnn, if_false, Int.toNat_natCast, Bool.false_eq_true]
           refine ⟨_, rfl, ?_⟩
           first
             | (rw [← shr8_nat]; exact .u8) | (rw [← shr16_nat]; exact .u16) | (rw [← shr32_nat]; exact .u32) | (rw [← shr64_nat]; exact .u64)
         · simp only [binOp, Op.shift, hnn, if_false, Int.toNat_natCast, if_true]
           refine ⟨_, rfl, ?_⟩
           first
             | (rw [← shl8_nat]; exact .u8) | (rw [← shl16_nat]; exact .u16) | (rw [← shl32_nat]; exact .u32) | (rw [← shl64_nat]; exact .u64))
end
end Go.Vc

/-! Vc3g -/
set_option linter.unusedVariables false
set_option linter.unusedSimpArgs false
namespace Go.Vc
section
variable {P : Program} {nt : Nat} {F : Fr} {s : St} {β : Bt} {a : Act} {w : World} {o : Oper} {Q : Exit → Act → World → Prop}

theorem num_int {O' : Nat → Prop} {B' : Nat} {av v} (h : av.num = true) (hv : RV B' O' w β av v) : ∃ k z, v = .int k z := by
  cases hv <;> simp [AV.num] at h <;> exact ⟨_, _, rfl⟩

theorem run_bin_num {O' : Nat → Prop} {B' : Nat} {op : BinOp} {x y : AV} {vx vy : Value} {t : Nat} (hx : RV B' O' w β x vx) (hy : RV B' O' w β y vy) (nx : x.num = true) (ny : y.num = true) (hp : (bin op x y).pre) :
    ∃ v, (binOp op t vx vy).run P w = .ok v w ∧ RV B' O' w β (bin op x y).v v := by
  by_cases h1 : op = .shl
  · subst h1
    have := shift_rv (P := P) (left := true) hx hy (t := t) (by cases x <;> simp_all [bin, AV.num])
    cases x <;> simp_all [bin, AV.num]
  by_cases h2 : op = .shr
  · subst h2
    have := shift_rv (P := P) (left := false) hx hy (t := t) (by cases x <;> simp_all [bin, AV.num])
    cases x <;> simp_all [bin, AV.num]
  have hop : op ≠ .shl ∧ op ≠ .shr := ⟨h1, h2⟩
  cases hx <;> simp [AV.num] at nx <;> cases hy <;> simp [AV.num] at ny
  case u8.u8 => exact bin_u8 hop hp
  case u16.u16 => exact bin_u16 hop hp
  case u32.u32 => exact bin_u32 hop hp
  case u64.u64 => exact bin_u64 hop hp
  case n.n => exact bin_n hop hp
  case n.i =>
    have e : ∀ p q, bin op (.n p) (.i q) = binI op p q := by intro p q; cases op <;> first | rfl | (exact absurd rfl h1) | (exact absurd rfl h2)
    rw [e] at hp ⊢
    exact bin_i hop hp
  case i.n =>
    have e : ∀ p q, bin op (.i p) (.n q) = binI op p q := by intro p q; cases op <;> first | rfl | (exact absurd rfl h1) | (exact absurd rfl h2)
    rw [e] at hp ⊢
    exact bin_i hop hp
  case i.i =>
    have e : ∀ p q, bin op (.i p) (.i q) = binI op p q := by intro p q; cases op <;> first | rfl | (exact absurd rfl h1) | (exact absurd rfl h2)
    rw [e] at hp ⊢
    exact bin_i hop hp
  all_goals (exfalso; revert hp; cases op <;> first | (intro hp; exact hp) | (exact absurd rfl h1) | (exact absurd rfl h2))

theorem eqGuard_int (op : BinOp) (t : TypeId) (x y : Operand) (k k' : IntKind) (p q : Int) : (eqGuard op t x y (.int k p) (.int k' q)).run P w = .ok () w := by
  cases op <;> rfl

theorem good_bin_num (h : Rep nt F s β a w) (hd : ∀ t, o.dst = some t → t < nt) {op : BinOp} {t u : Nat} {x y : Operand} {x' y' : Opd} (ho : o.op = .binOp op t x y u)
    (hx : opdOk x x' = true) (hy : opdOk y y' = true) (nx : (Vc.ev s.tm x').num = true) (ny : (Vc.ev s.tm y').num = true) (hp : (bin op (Vc.ev s.tm x') (Vc.ev s.tm y')).pre)
    {r : R} (hr : r.v = (bin op (Vc.ev s.tm x') (Vc.ev s.tm y')).v) (hm : r.mw = []) : Good P nt F s a w Q o r := by
  have ex := h.ev hx
  have ey := h.ev hy
  obtain ⟨k, z, hxe⟩ := num_int nx ex
  obtain ⟨k', z', hye⟩ := num_int ny ey
  obtain ⟨v, h1, h2⟩ := run_bin_num (P := P) (t := t) ex ey nx ny hp
  refine good_val h hd (v := v) ?_ hm (by rw [hr]; exact h2)
  rw [hxe, hye] at h1
  simp [execOp, ho, hxe, hye, eqGuard_int, h1]

theorem run_equal_bool {t : TypeId} (ht : P.underlying t = some .bool) (b c : Bool) : (Op.equal t (.bool b) (.bool c)).run P w = .ok (b == c) w := by
  have : ∀ d, (Op.equalIn (d + 1) t (.bool b) (.bool c)).run P w = .ok (b == c) w := by
    intro d
    unfold Op.equalIn
    simp [run_underlying ht]
  exact this 9999

theorem good_bin_bool (h : Rep nt F s β a w) (hd : ∀ t, o.dst = some t → t < nt) {op : BinOp} {t u : Nat} {x y : Operand} {x' y' : Opd} (ho : o.op = .binOp op t x y u) (ht : P.underlying t = some .bool)
    (hx : opdOk x x' = true) (hy : opdOk y y' = true) {b c : Bool} (hb : Vc.ev s.tm x' = .bool b) (hc : Vc.ev s.tm y' = .bool c) (hp : (bin op (.bool b) (.bool c)).pre)
    {r : R} (hr : r.v = (bin op (.bool b) (.bool c)).v) (hm : r.mw = []) : Good P nt F s a w Q o r := by
  have ex := h.ev hx
  have ey := h.ev hy
  rw [hb] at ex
  rw [hc] at ey
  generalize hxe : a.eval x = vx at ex
  generalize hye : a.eval y = vy at ey
  cases ex
  cases ey
  have he := run_equal_bool (w := w) ht
  by_cases h1 : op = .eql
  · subst h1
    refine good_val h hd (v := .bool (b == c)) ?_ hm (by rw [hr]; exact .bool)
    simp [execOp, ho, hxe, hye, eqGuard, binOp, he, bne]
  by_cases h2 : op = .neq
  · subst h2
    refine good_val h hd (v := .bool (b != c)) ?_ hm (by rw [hr]; exact .bool)
    simp [execOp, ho, hxe, hye, eqGuard, binOp, he, bne]
  exfalso
  revert hp
  cases op <;> first | (intro hp; exact hp) | (exact absurd rfl h1) | (exact absurd rfl h2)

theorem eqGuard_str (op : BinOp) (t : TypeId) (x y : Operand) (p q : ByteArray) : (eqGuard op t x y (.string p) (.string q)).run P w = .ok () w := by
  cases op <;> rfl
theorem good_bin_str (h : Rep nt F s β a w) (hd : ∀ t, o.dst = some t → t < nt) {op : BinOp} {t u : Nat} {x y : Operand} {x' y' : Opd} (ho : o.op = .binOp op t x y u)
    (hx : opdOk x x' = true) (hy : opdOk y y' = true) {b c : List UInt8} (hb : Vc.ev s.tm x' = .str b) (hc : Vc.ev s.tm y' = .str c) (hp : (bin op (.str b) (.str c)).pre)
    {r : R} (hr : r.v = (bin op (.str b) (.str c)).v) (hm : r.mw = []) : Good P nt F s a w Q o r := by
  have ex := h.ev hx
  have ey := h.ev hy
  rw [hb] at ex
  rw [hc] at ey
  generalize hxe : a.eval x = vx at ex
  generalize hye : a.eval y = vy at ey
  cases ex
  cases ey
  rename_i b c
  by_cases h1 : op = .eql
  · subst h1
    refine good_val h hd (v := .bool (decide (b.data.toList = c.data.toList))) ?_ hm (by rw [hr]; exact .bool)
    simp only [execOp, ho, hxe, hye, eqGuard_str, binOp, Op.stringOp, Sem.run_bind, Result.andThen_ok, Sem.run_pure, ByteArray.toList_eq]
    congr 3
    rw [Bool.eq_iff_iff]; simp
  by_cases h2 : op = .neq
  · subst h2
    refine good_val h hd (v := .bool (decide (b.data.toList ≠ c.data.toList))) ?_ hm (by rw [hr]; exact .bool)
    simp only [execOp, ho, hxe, hye, eqGuard_str, binOp, Op.stringOp, Sem.run_bind, Result.andThen_ok, Sem.run_pure, ByteArray.toList_eq]
    congr 3
    rw [Bool.eq_iff_iff]; simp
  by_cases h3 : op = .add
  · subst h3
    have hq : b.data.toList.length + c.data.toList.length < 9223372036854775808 := hp
    refine good_val h hd (v := .string (b ++ c)) ?_ hm ?_
    · have hmx : IntKind.i64.max = 9223372036854775807 := by decide
      have hn : ¬ (((b.size + c.size : Nat) : Int) > IntKind.i64.max) := by
        rw [hmx]
        have e1 : b.data.toList.length = b.size := by simp
        have e2 : c.data.toList.length = c.size := by simp
        omega
      simp only [execOp, ho, hxe, hye, eqGuard_str, binOp, Op.stringOp, Sem.run_bind, Result.andThen_ok, hn, if_false, Sem.run_pure]
    · rw [hr]
      have e : b.data.toList ++ c.data.toList = (b ++ c).data.toList := by simp
      show RV _ _ _ _ (.str (b.data.toList ++ c.data.toList)) _
      rw [e]; exact .str
  exfalso
  revert hp
  cases op <;> first | (intro hp; exact hp) | (exact absurd rfl h1) | (exact absurd rfl h2) | (exact absurd rfl h3)

theorem run_equal_nil {t : TypeId} {el : TypeId} (ht : P.underlying t = some (.slice el)) (x : Option Addr) (n c n' c' : Nat) : (Op.equal t (.slice x n c) (.slice none n' c')).run P w = .ok x.isNone w := by
  have : ∀ d, (Op.equalIn (d + 1) t (.slice x n c) (.slice none n' c')).run P w = .ok x.isNone w := by
    intro d
    unfold Op.equalIn
    cases x <;> simp [run_underlying ht]
  exact this 9999
theorem good_bin_nil (h : Rep nt F s β a w) (hd : ∀ t, o.dst = some t → t < nt) {t u el : Nat} {x y : Operand} {x' y' : Opd} (ho : o.op = .binOp .eql t x y u) (ht : P.underlying t = some (.slice el))
    (hx : opdOk x x' = true) (hy : opdOk y y' = true) {q : Bool} (hb : (Vc.ev s.tm x' = .nil ∧ q = true) ∨ (∃ c, Vc.ev s.tm x' = .sln c) ∧ q = false) (hc : Vc.ev s.tm y' = .nil)
    : Good P nt F s a w Q o (okv True (.bool q)) := by
  have ex := h.ev hx
  have ey := h.ev hy
  rw [hc] at ey
  generalize hxe : a.eval x = vx at ex
  generalize hye : a.eval y = vy at ey
  cases ey
  have he := run_equal_nil (w := w) ht
  refine good_val h hd (v := .bool q) ?_ rfl .bool
  rcases hb with ⟨hb, rfl⟩ | ⟨⟨c, hb⟩, rfl⟩ <;> rw [hb] at ex <;> cases ex <;> simp [execOp, ho, hxe, hye, eqGuard, binOp, he]

theorem good_un (h : Rep nt F s β a w) (hd : ∀ t, o.dst = some t → t < nt) {op : UnOp} {t : Nat} {x : Operand} {x' : Opd} (ho : o.op = .unOp op t x) (hx : opdOk x x' = true) (hp : (un op (Vc.ev s.tm x')).pre)
    {r : R} (hr : r.v = (un op (Vc.ev s.tm x')).v) (hm : r.mw = []) : Good P nt F s a w Q o r := by
  have ex := h.ev hx
  generalize hxe : a.eval x = vx at ex
  generalize Vc.ev s.tm x' = av at *
  suffices hs : ∃ v, (Op.unary op vx).run P w = .ok v w ∧ RV F.B (Own F s.me β) w β (un op av).v v by
    obtain ⟨v, h1, h2⟩ := hs
    refine good_val h hd (v := v) ?_ hm (by rw [hr]; exact h2)
    simp [execOp, ho, hxe, h1]
  have key8 : ∀ x : UInt8, IntKind.u8.wrap ((BitVec.ofInt IntKind.u8.bits IntKind.u8.max ^^^ BitVec.ofInt IntKind.u8.bits (x.toNat : Int)).toNat : Int) = ((~~~x).toNat : Int) := by
    intro x; rw [u8_bv]
    show IntKind.u8.wrap ((((BitVec.ofInt 8 IntKind.u8.max ^^^ x.toBitVec : BitVec 8)).toNat : Nat) : Int) = (((~~~x.toBitVec).toNat : Nat) : Int)
    rw [show BitVec.ofInt 8 IntKind.u8.max = BitVec.allOnes 8 by decide, BitVec.allOnes_xor, back8]
  have key16 : ∀ x : UInt16, IntKind.u16.wrap ((BitVec.ofInt IntKind.u16.bits IntKind.u16.max ^^^ BitVec.ofInt IntKind.u16.bits (x.toNat : Int)).toNat : Int) = ((~~~x).toNat : Int) := by
    intro x; rw [u16_bv]
    show IntKind.u16.wrap ((((BitVec.ofInt 16 IntKind.u16.max ^^^ x.toBitVec : BitVec 16)).toNat : Nat) : Int) = (((~~~x.toBitVec).toNat : Nat) : Int)
    rw [show BitVec.ofInt 16 IntKind.u16.max = BitVec.allOnes 16 by decide, BitVec.allOnes_xor, back16]
  have key32 : ∀ x : UInt32, IntKind.u32.wrap ((BitVec.ofInt IntKind.u32.bits IntKind.u32.max ^^^ BitVec.ofInt IntKind.u32.bits (x.toNat : Int)).toNat : Int) = ((~~~x).toNat : Int) := by
    intro x; rw [u32_bv]
    show IntKind.u32.wrap ((((BitVec.ofInt 32 IntKind.u32.max ^^^ x.toBitVec : BitVec 32)).toNat : Nat) : Int) = (((~~~x.toBitVec).toNat : Nat) : Int)
    rw [show BitVec.ofInt 32 IntKind.u32.max = BitVec.allOnes 32 by decide, BitVec.allOnes_xor, back32]
  have key64 : ∀ x : UInt64, IntKind.u64.wrap ((BitVec.ofInt IntKind.u64.bits IntKind.u64.max ^^^ BitVec.ofInt IntKind.u64.bits (x.toNat : Int)).toNat : Int) = ((~~~x).toNat : Int) := by
    intro x; rw [u64_bv]
    show IntKind.u64.wrap ((((BitVec.ofInt 64 IntKind.u64.max ^^^ x.toBitVec : BitVec 64)).toNat : Nat) : Int) = (((~~~x.toBitVec).toNat : Nat) : Int)
    rw [show BitVec.ofInt 64 IntKind.u64.max = BitVec.allOnes 64 by decide, BitVec.allOnes_xor, back64]
  cases op <;> cases ex <;> first
    | (exfalso; exact hp)
    | exact ⟨_, rfl, .bool⟩
    | (refine ⟨_, by simp only [Op.unary, IntKind.signed, Bool.false_eq_true, if_false, Op.intBits]; rfl, ?_⟩; simp only [key8, key16, key32, key64]; constructor)
end
end Go.Vc

/-! Vc3h -/
set_option linter.unusedVariables false
set_option linter.unusedSimpArgs false
namespace Go.Vc

theorem ofInt8 (z : Int) : IntKind.u8.wrap z = ((UInt8.ofInt z).toNat : Int) := by
  rw [w8]
  have : (UInt8.ofInt z).toNat = (z % 256).toNat := by
    unfold UInt8.ofInt
    rw [UInt8.toNat_ofNat']
    omega
  rw [this]
  omega
theorem ofNat8 (z : Nat) : IntKind.u8.wrap (z : Int) = ((UInt8.ofNat z).toNat : Int) := by
  rw [w8]
  have : (UInt8.ofNat z).toNat = z % 256 := UInt8.toNat_ofNat'
  rw [this]; rfl

theorem ofInt16 (z : Int) : IntKind.u16.wrap z = ((UInt16.ofInt z).toNat : Int) := by
  rw [w16]
  have : (UInt16.ofInt z).toNat = (z % 65536).toNat := by
    unfold UInt16.ofInt
    rw [UInt16.toNat_ofNat']
    omega
  rw [this]
  omega
theorem ofNat16 (z : Nat) : IntKind.u16.wrap (z : Int) = ((UInt16.ofNat z).toNat : Int) := by
  rw [w16]
  have : (UInt16.ofNat z).toNat = z % 65536 := UInt16.toNat_ofNat'
  rw [this]; rfl

theorem ofInt32 (z : Int) : IntKind.u32.wrap z = ((UInt32.ofInt z).toNat : Int) := by
  rw [w32]
  have : (UInt32.ofInt z).toNat = (z % 4294967296).toNat := by
    unfold UInt32.ofInt
    rw [UInt32.toNat_ofNat']
    omega
  rw [this]
  omega
theorem ofNat32 (z : Nat) : IntKind.u32.wrap (z : Int) = ((UInt32.ofNat z).toNat : Int) := by
  rw [w32]
  have : (UInt32.ofNat z).toNat = z % 4294967296 := UInt32.toNat_ofNat'
  rw [this]; rfl

theorem ofInt64 (z : Int) : IntKind.u64.wrap z = ((UInt64.ofInt z).toNat : Int) := by
  rw [w64]
  have : (UInt64.ofInt z).toNat = (z % 18446744073709551616).toNat := by
    unfold UInt64.ofInt
    rw [UInt64.toNat_ofNat']
    omega
  rw [this]
  omega
theorem ofNat64 (z : Nat) : IntKind.u64.wrap (z : Int) = ((UInt64.ofNat z).toNat : Int) := by
  rw [w64]
  have : (UInt64.ofNat z).toNat = z % 18446744073709551616 := UInt64.toNat_ofNat'
  rw [this]; rfl

section
variable {P : Program} {nt : Nat} {F : Fr} {s : St} {β : Bt} {a : Act} {w : World} {o : Oper} {Q : Exit → Act → World → Prop}

theorem conv_rv {O' : Nat → Prop} {B' : Nat} {k : IntKind} {av : AV} {v : Value} (hv : RV B' O' w β av v) (hp : (conv k av).pre) :
    ∃ j z, v = .int j z ∧ RV B' O' w β (conv k av).v (.int k (k.wrap z)) := by
  have m8 : ∀ (z : Int) (u : UInt8), z = (u.toNat : Int) → RV B' O' w β (.u8 u) (.int .u8 z) := fun z u h => by rw [h]; exact .u8
  have m16 : ∀ (z : Int) (u : UInt16), z = (u.toNat : Int) → RV B' O' w β (.u16 u) (.int .u16 z) := fun z u h => by rw [h]; exact .u16
  have m32 : ∀ (z : Int) (u : UInt32), z = (u.toNat : Int) → RV B' O' w β (.u32 u) (.int .u32 z) := fun z u h => by rw [h]; exact .u32
  have m64 : ∀ (z : Int) (u : UInt64), z = (u.toNat : Int) → RV B' O' w β (.u64 u) (.int .u64 z) := fun z u h => by rw [h]; exact .u64
  cases k <;> cases hv <;> first
    | (exfalso; exact hp)
    | (refine ⟨_, _, rfl, m8 _ _ ?_⟩; first
        | exact u8_wn _ | exact ofNat8 _ | exact ofInt8 _ | (simp only [w8, UInt16.toNat_toUInt8, UInt32.toNat_toUInt8, UInt64.toNat_toUInt8]; omega))
    | (refine ⟨_, _, rfl, m16 _ _ ?_⟩; first
        | exact u16_wn _ | exact ofNat16 _ | exact ofInt16 _ | (rename_i x; have := x.toNat_lt; simp only [w16, UInt8.toNat_toUInt16, UInt32.toNat_toUInt16, UInt64.toNat_toUInt16]; omega))
    | (refine ⟨_, _, rfl, m32 _ _ ?_⟩; first
        | exact u32_wn _ | exact ofNat32 _ | exact ofInt32 _ | (rename_i x; have := x.toNat_lt; simp only [w32, UInt8.toNat_toUInt32, UInt16.toNat_toUInt32, UInt64.toNat_toUInt32]; omega))
    | (refine ⟨_, _, rfl, m64 _ _ ?_⟩; first
        | exact u64_wn _ | exact ofNat64 _ | exact ofInt64 _ | (rename_i x; have := x.toNat_lt; simp only [w64, UInt8.toNat_toUInt64, UInt16.toNat_toUInt64, UInt32.toNat_toUInt64]; omega))
    | (refine ⟨_, _, rfl, rvn ?_⟩; first
        | (rename_i x; have := x.toNat_lt; exact wI (inN (by omega)))
        | exact wI (inN hp))
    | (refine ⟨_, _, rfl, rvi ?_⟩; exact wI hp)

/-- the types of a conversion between whole numbers -/
def tyCv (P : Program) (t u : Nat) (k : IntKind) : Bool := (P.underlying t).isSome && (match P.underlying u with | some (.int k') => k == k' | _ => false)

theorem good_conv (h : Rep nt F s β a w) (hd : ∀ t, o.dst = some t → t < nt) {t u : Nat} {k : IntKind} {x : Operand} {x' : Opd} (ho : o.op = .convert t u x) (ht : tyCv P t u k = true)
    (hx : opdOk x x' = true) (hp : (conv k (Vc.ev s.tm x')).pre) {r : R} (hr : r.v = (conv k (Vc.ev s.tm x')).v) (hm : r.mw = []) : Good P nt F s a w Q o r := by
  obtain ⟨j, z, hz, hrv⟩ := conv_rv (h.ev hx) hp
  refine good_val h hd (v := .int k (k.wrap z)) ?_ hm (by rw [hr]; exact hrv)
  unfold tyCv at ht
  simp only [Bool.and_eq_true] at ht
  obtain ⟨h1, h2⟩ := ht
  cases hu : P.underlying t with
  | none => simp [hu] at h1
  | some d =>
    split at h2
    · rename_i k' hk'
      simp only [beq_iff_eq] at h2
      subst h2
      simp [execOp, ho, hz, convert, run_underlying hu, run_underlying hk', Conv.intToInt]
    · simp at h2
end
end Go.Vc

/-! Vc3i -/
set_option linter.unusedVariables false
set_option linter.unusedSimpArgs false
namespace Go.Vc

theorem Cells.len_eq (c : Cells) : c.len = c.count * c.esz := by
  cases c <;> simp [Cells.len, Cells.count, Cells.esz, Nat.mul_comm]
theorem Cells.part_count {c : Cells} {a n : Nat} (h : a + n ≤ c.count) : (c.part a n).count = n := by
  cases c <;> simp only [Cells.part, Cells.sub, Cells.count] at * <;> exact len_sub _ _ _ h
theorem Cells.part_esz (c : Cells) (a n : Nat) : (c.part a n).esz = c.esz := by cases c <;> rfl
theorem Cells.part_get {c : Cells} {a n j : Nat} (hj : j < n * c.esz) : (c.part a n).get j = c.get (a * c.esz + j) := by
  cases c with
  | recs sz l =>
    simp only [Cells.part, Cells.get, Cells.esz] at *
    have hsz : 0 < sz := by
      rcases Nat.eq_zero_or_pos sz with e | e
      · subst e; simp at hj
      · exact e
    rw [getD_sub _ _ _ _ _ ((Nat.div_lt_iff_lt_mul hsz).2 hj), Nat.mul_comm a sz, Nat.mul_add_div hsz, Nat.mul_add_mod]
  | _ =>
    simp only [Cells.part, Cells.sub, Cells.get, Cells.esz, Nat.mul_one] at *
    rw [getD_sub _ _ _ _ _ hj]

section
variable {P : Program} {nt : Nat} {F : Fr} {s : St} {β : Bt} {a : Act} {w : World} {o : Oper} {Q : Exit → Act → World → Prop}

/-- cells us lie at ad and read as c -/
structure Rd (B : Nat) (O : Nat → Prop) (w : World) (β : Bt) (c : Cells) (ad : Option Addr) (us : List Value) : Prop where
  len : us.length = c.len
  at_ : c.len = 0 ∨ ∃ a, ad = some a ∧ ∀ j u, us[j]? = some u → w.cell? (a.add j) = some u
  one : ∀ u ∈ us, u.oneCell' = true
  rv : ∀ j, j < c.len → RV B O w β (c.get j) (us.getD j undef)

theorem rv_lift {B O} {x v} (hx : RV B O w bt0 x v) : RV B O w β x v := hx.mono (Nat.le_refl _) (fun _ _ h => h) (Nat.le_refl _) (fun _ _ _ => rfl) β (fun _ _ h => by cases h)

/-- what an owned slice holds -/
theorem own_rd (h : Rep nt F s β a w) {k off l e : Nat} {v : Value} (hv : RV F.B (Own F s.me β) w β (.own k off l e) v) {c : Cells} (hk : mget s.me k = some (some c)) (hw : c.win off l e) :
    ∃ ad cap us, v = .slice ad l cap ∧ Rd F.B (Own F s.me β) w β (c.part (off / e) l) ad us ∧ (∀ a, ad = some a → ∃ b sz, a.block = b ∧ β k = some (some (b, sz))) := by
  obtain ⟨rfl, he, hm, hc⟩ := hw
  have hlen : (c.part (off / c.esz) l).len = l * c.esz := by rw [Cells.len_eq, Cells.part_count hc, Cells.part_esz]
  cases hv with
  | own hb hl hcap ho =>
    rename_i o' b sz cap
    have hbl := h.mr.bl k c hk
    rw [hb] at hbl
    obtain ⟨cs, T, g1, g2, g3, g4, g5⟩ := hbl
    have hoff : off / c.esz * c.esz = off := Nat.div_mul_cancel (Nat.dvd_of_mod_eq_zero hm)
    have hcl := Cells.len_eq c
    have hbound : off + l * c.esz ≤ c.len := by rw [hcl, ← hoff, ← Nat.add_mul]; exact Nat.mul_le_mul_right _ hc
    refine ⟨some ⟨b, o', none⟩, cap, (cs.toList.drop off).take (l * c.esz), rfl, ⟨?_, ?_, ?_, ?_⟩, fun a ha => ⟨b, sz, by cases ha; rfl, hb⟩⟩
    · rw [hlen]; exact len_sub _ _ _ (by simp; omega)
    · by_cases hl0 : l = 0
      · left; rw [hlen, hl0, Nat.zero_mul]
      · right
        have hoo : o' = off := by rcases ho with h | h <;> omega
        subst hoo
        refine ⟨_, rfl, fun j u hu => ?_⟩
        rw [add_cell, cell_of_row w b _ cs T _ g1]
        rw [List.getElem?_take] at hu
        split at hu
        · simpa [List.getElem?_drop] using hu
        · cases hu
    · exact fun u hu => g4 u (List.mem_of_mem_drop (List.mem_of_mem_take hu))
    · intro j hj
      rw [hlen] at hj
      rw [Cells.part_get hj, getD_sub _ _ _ _ _ hj, hoff]
      have := g5 (off + j) (by omega)
      simpa using this
  | ownnil hb =>
    refine ⟨none, 0, [], rfl, ⟨by rw [hlen]; simp, .inl (by rw [hlen]; simp), by simp, fun j hj => by rw [hlen] at hj; omega⟩, fun a ha => by cases ha⟩

theorem Cells.asK_spec (kd : Kd) (c : Cells) : (c.asK kd).len = c.len ∧ (c.asK kd).count = c.count ∧ ∀ j, j < c.len → (c.asK kd).get j = c.get j := by
  cases kd <;> cases c <;> simp only [Cells.asK, Cells.len, Cells.count, Cells.get, List.length_map, true_and, implies_true, and_self]
  · intro j hj; simp [List.getD_eq_getElem?_getD, hj]
  · intro j hj; simp [List.getD_eq_getElem?_getD, hj]

/-- what a slice holds, in its world -/
theorem content_rd (h : Rep nt F s β a w) {av : AV} {v : Value} (hv : RV F.B (Own F s.me β) w β av v) {kd : Kd} {p : Prop} {c : Cells} {ks : List Nat} (hc : content (mget s.me) kd av = some (p, c, ks)) (hp : p) (hns : ∀ x, av ≠ .str x) :
    ∃ ad cap us, v = .slice ad c.count cap ∧ Rd F.B (Own F s.me β) w β c ad us := by
  cases hv with
  | nil =>
    simp only [content, Option.some.injEq, Prod.mk.injEq] at hc
    obtain ⟨_, rfl, _⟩ := hc
    have h1 : kd.nil.len = 0 := by cases kd <;> simp [Kd.nil, Cells.len]
    have h2 : kd.nil.count = 0 := by cases kd <;> rfl
    exact ⟨none, 0, [], by rw [h2], ⟨by rw [h1]; rfl, .inl h1, by simp, fun j hj => by omega⟩⟩
  | sl hl hcc hO hb hf h1 hcap hs =>
    rename_i c1 _ _ _
    simp only [content, Option.some.injEq, Prod.mk.injEq] at hc
    obtain ⟨_, rfl, _⟩ := hc
    obtain ⟨q1, q2, q3⟩ := Cells.asK_spec kd c1
    exact ⟨_, _, _, by rw [q2], ⟨by rw [q1]; exact hl, .inr ⟨_, rfl, hcc⟩, h1, fun j hj => by rw [q1] at hj; rw [q3 j hj]; exact rv_lift (hs j hj)⟩⟩
  | sl0 h0 h0' hn =>
    rename_i c1 _ _
    simp only [content, Option.some.injEq, Prod.mk.injEq] at hc
    obtain ⟨_, rfl, _⟩ := hc
    obtain ⟨q1, q2, q3⟩ := Cells.asK_spec kd c1
    exact ⟨_, _, [], by rw [q2, h0'], ⟨by rw [q1, h0]; rfl, .inl (by rw [q1]; exact h0), by simp, fun j hj => by omega⟩⟩
  | sln0 h0 h0' =>
    rename_i c1 _ _
    simp only [content, Option.some.injEq, Prod.mk.injEq] at hc
    obtain ⟨_, rfl, _⟩ := hc
    obtain ⟨q1, q2, q3⟩ := Cells.asK_spec kd c1
    exact ⟨_, _, [], by rw [q2, h0'], ⟨by rw [q1, h0]; rfl, .inl (by rw [q1]; exact h0), by simp, fun j hj => by omega⟩⟩
  | sln hl hcc hO hb h1 hcap hs =>
    rename_i c1 _ _ _
    simp only [content, Option.some.injEq, Prod.mk.injEq] at hc
    obtain ⟨_, rfl, _⟩ := hc
    obtain ⟨q1, q2, q3⟩ := Cells.asK_spec kd c1
    exact ⟨_, _, _, by rw [q2], ⟨by rw [q1]; exact hl, .inr ⟨_, rfl, hcc⟩, h1, fun j hj => by rw [q1] at hj; rw [q3 j hj]; exact rv_lift (hs j hj)⟩⟩
  | str => exact absurd rfl (hns _)
  | own hb hl hcap ho =>
    rename_i k off o' b sz len cap e
    simp only [content] at hc
    cases hk : mget s.me k with
    | none => simp [hk] at hc
    | some x =>
      cases x with
      | none => simp [hk] at hc
      | some c0 =>
        simp only [hk, Option.some.injEq, Prod.mk.injEq] at hc
        obtain ⟨rfl, rfl, _⟩ := hc
        obtain ⟨ad, cap', us, h1, h2, _⟩ := own_rd h (.own hb hl hcap ho) hk hp
        exact ⟨ad, cap', us, by rw [h1, Cells.part_count hp.2.2.2], h2⟩
  | ownnil hb =>
    rename_i k e
    simp only [content] at hc
    cases hk : mget s.me k with
    | none => simp [hk] at hc
    | some x =>
      cases x with
      | none => simp [hk] at hc
      | some c0 =>
        simp only [hk, Option.some.injEq, Prod.mk.injEq] at hc
        obtain ⟨rfl, rfl, _⟩ := hc
        obtain ⟨ad, cap', us, h1, h2, _⟩ := own_rd h (.ownnil hb) hk hp
        exact ⟨ad, cap', us, by rw [h1, Cells.part_count hp.2.2.2], h2⟩
  | _ => simp [content] at hc

theorem bytes_str_eq (l : List UInt8) (us : List Value) (hl : us.length = l.length) (h : ∀ j, j < l.length → us.getD j undef = .int .u8 ((l.getD j 0).toNat : Int)) : us = l.map fun b => .int .u8 (b.toNat : Int) := by
  apply List.ext_getElem?
  intro j
  by_cases hj : j < l.length
  · have := h j hj
    rw [getD_getElem? (by omega), this]
    simp [List.getD_eq_getElem?_getD, hj]
  · rw [List.getElem?_eq_none (by omega), List.getElem?_eq_none (by simp; omega)]
end
end Go.Vc

/-! Vc3j -/
set_option linter.unusedVariables false
set_option linter.unusedSimpArgs false
namespace Go.Vc
section
variable {P : Program} {nt : Nat} {F : Fr} {s : St} {β : Bt} {a : Act} {w : World} {o : Oper} {Q : Exit → Act → World → Prop}

/-- what is appended: the elements of a slice, or so many noughts -/
inductive Src (P : Program) (w : World) (t u : TypeId) (i : TypeInfo) (z : Value) : Value → Nat → List Value → Prop
  | sl {ad : Option Addr} {n c : Nat} {news : List Value} (hu : u = t) (hl : news.length = n * i.size) (h : news = [] ∨ ∃ a, ad = some a ∧ ∀ j v, news[j]? = some v → w.cell? (a.add j) = some v) : Src P w t u i z (.slice ad n c) n news
  | zr {k k' : IntKind} {n : Nat} (hu : P.underlying u = some (.int k)) (hn : n < 140737488355328) (hb : n * i.bytes ≤ 140737488355328) : Src P w t u i z (.int k' (n : Int)) n (Builtin.zeroCells z.cells n).toList

theorem zero_nil (z : Array Value) : Builtin.zeroCells z 0 = #[] := by simp [Builtin.zeroCells]
theorem Src.len {t u : TypeId} {i : TypeInfo} {z : Value} {x : Value} {n : Nat} {news : List Value} (h : Src P w t u i z x n news) (hzs : z.cells.size = i.size) : news.length = n * i.size := by
  cases h with
  | sl hu hl h => exact hl
  | zr hu hn hb => rw [Array.length_toList, size_zeroCells, hzs]

theorem run_first {size n c : Nat} {ad : Option Addr} {news : List Value} (hl : news.length = n * size) (h : news = [] ∨ ∃ a, ad = some a ∧ ∀ j v, news[j]? = some v → w.cell? (a.add j) = some v) :
    (Builtin.firstCells size n (.slice ad n c)).run P w = .ok news.toArray w := by
  rcases ad with _ | ad
  · rcases h with rfl | ⟨a, h, _⟩
    · rfl
    · cases h
  · refine run_firstCells_some (P := P) w size n ad n c news hl ?_
    rcases h with rfl | ⟨a, h, h2⟩
    · intro j v hj; simp at hj
    · cases h; exact h2

theorem cell_drew (w : World) (a : Addr) : w.drew.cell? a = w.cell? a := rfl

/-- enough room: the elements go behind the old ones -/
theorem run_app_room {t u ty e : TypeId} {i : TypeInfo} {z : Value} (ht : P.underlying t = some (.slice e)) (hi : P.info? e = some i) (hz : i.zero = some z) (hzs : z.cells.size = i.size) (hsz : 0 < i.size)
    {g sLen sCap n : Nat} {cur : Array Value} {T : TypeId} (hg : w.heap[g]? = some (.cells cur T (0, 0))) {x : Value} {news : List Value} (hs : Src P w t u i z x n news) (h1 : ∀ v ∈ news, v.oneCell' = true)
    (hroom : sLen + n ≤ sCap) (hfit : sLen * i.size + news.length ≤ cur.size) :
    (Builtin.append_ #[t, u] ty #[.slice (some ⟨g, 0, none⟩) sLen sCap, x]).run P w = .ok (.slice (some ⟨g, 0, none⟩) (sLen + n) sCap) (w.setRow g (splice cur.toList (sLen * i.size) news).toArray) := by
  have hst := run_storeCells_at P g (sLen * i.size) T news 0 cur w hg (by simpa using hfit) h1
  simp only [Nat.add_zero] at hst
  have hadd : (⟨g, 0, none⟩ : Addr).add (sLen * i.size) = ⟨g, sLen * i.size, none⟩ := by rw [add_cell]; simp
  cases hs with
  | sl hu hl h =>
    subst hu
    rename_i ad c
    have hf := run_first (P := P) (w := w) (size := i.size) (n := n) (c := c) hl h
    simp [Builtin.append_, run_underlying ht, sizeOf, typeInfo, hi, Builtin.lenOf, hroom, hf, hadd, hst, splice]
  | zr hu hn hb =>
    rename_i k k'
    have hw : IntKind.i64.wrap (n : Int) = n := wI (inN (by omega))
    have hneg : ¬ ((n : Int) < 0) := by omega
    have hbig : ¬ (281474976710656 < (n : Int) * (i.bytes : Int)) := by rw [← Int.natCast_mul]; omega
    by_cases hn0 : n = 0
    · subst hn0
      simp only [zero_nil] at hst ⊢
      have hw0 : IntKind.i64.wrap 0 = 0 := by decide
      simp only [Nat.add_zero] at hroom
      have hst' : (storeCells ⟨g, sLen * i.size, none⟩ []).run P w = _ := hst
      simp [Builtin.append_, run_underlying ht, run_underlying hu, sizeOf, typeInfo, hi, asInt, asIntOf, hw0, hroom, hadd, hst, splice]
    · have hmz : ¬ (n * i.size = 0) := Nat.mul_ne_zero hn0 (by omega)
      generalize hzc : (Builtin.zeroCells z.cells n).toList = news at *
      have hzc' : Builtin.zeroCells z.cells n = news.toArray := by rw [← hzc]
      simp [Builtin.append_, run_underlying ht, run_underlying hu, sizeOf, typeInfo, zeroValue, hi, hz, asInt, asIntOf, hw, hneg, hbig, hroom, hadd, hmz, hzc', hst, splice]

/-- no room: a new row -/
theorem run_app_grow {t u ty e : TypeId} {i : TypeInfo} {z : Value} (ht : P.underlying t = some (.slice e)) (hi : P.info? e = some i) (hz : i.zero = some z) (hsz : 0 < i.size)
    {A : Option Addr} {sLen sCap n : Nat} {olds : List Value} (ho : (Builtin.firstCells i.size sLen (.slice A sLen sCap)).run P w.drew = .ok olds.toArray w.drew) {x : Value} {news : List Value} (hs : Src P w t u i z x n news)
    (hroom : sCap < sLen + n) (h63 : sLen + n < 9223372036854775808) (hbytes : (sLen + n) * i.bytes ≤ 140737488355328) :
    (Builtin.append_ #[t, u] ty #[.slice A sLen sCap, x]).run P w = .ok (.slice (some ⟨w.heap.size, 0, none⟩) (sLen + n) (grownCap w (sLen + n) sCap e))
      (w.drew.alloc (.cells (olds.toArray ++ news.toArray ++ Builtin.zeroCells z.cells (grownCap w (sLen + n) sCap e - (sLen + n))) e)) := by
  have hn' : ¬ (sLen + n ≤ sCap) := by omega
  have h63' : ¬ (9223372036854775807 < ((sLen : Int) + (n : Int))) := by omega
  have hfit := growslice_fits (old := sCap) (need := sLen + n) (bytes := i.bytes) (by omega) hbytes
  have h48' : ¬ (281474976710656 < Builtin.nextslicecap (sLen + n) sCap * i.bytes) := by omega
  cases hs with
  | sl hu hl h =>
    subst hu
    rename_i ad c
    have hf := run_first (P := P) (w := w.drew) (size := i.size) (n := n) (c := c) hl h
    simp [Builtin.append_, run_underlying ht, sizeOf, typeInfo, zeroValue, hi, hz, Builtin.lenOf, hn', h63', h48', Question.forced, hf, ho, newRow, grownCap]
    congr 2
    apply Array.ext'
    simp [List.append_assoc]
  | zr hu hn hb =>
    rename_i k k'
    have hw : IntKind.i64.wrap (n : Int) = n := wI (inN (by omega))
    have hneg : ¬ ((n : Int) < 0) := by omega
    have hbig : ¬ (281474976710656 < (n : Int) * (i.bytes : Int)) := by rw [← Int.natCast_mul]; omega
    by_cases hn0 : n = 0
    · subst hn0
      have hw0 : IntKind.i64.wrap 0 = 0 := by decide
      simp only [Nat.add_zero, zero_nil] at *
      have h63'' : ¬ (9223372036854775807 < (sLen : Int)) := by omega
      simp [Builtin.append_, run_underlying ht, run_underlying hu, sizeOf, typeInfo, zeroValue, hi, hz, asInt, asIntOf, hw0, hn', h63'', h48', Question.forced, ho, newRow, grownCap]
    · have hmz : ¬ (n * i.size = 0) := Nat.mul_ne_zero hn0 (by omega)
      generalize hzc : (Builtin.zeroCells z.cells n).toList = news at *
      have hzc' : Builtin.zeroCells z.cells n = news.toArray := by rw [← hzc]
      simp [Builtin.append_, run_underlying ht, run_underlying hu, sizeOf, typeInfo, zeroValue, hi, hz, asInt, asIntOf, hw, hneg, hbig, hn', h63', h48', Question.forced, ho, newRow, grownCap, hmz, hzc']
      congr 2
      apply Array.ext'
      simp [List.append_assoc]

/-- nothing comes to nothing -/
theorem run_app_none {t u ty e : TypeId} {i : TypeInfo} {z : Value} (ht : P.underlying t = some (.slice e)) (hi : P.info? e = some i) {x : Value} {news : List Value} (hs : Src P w t u i z x 0 news) :
    (Builtin.append_ #[t, u] ty #[.slice none 0 0, x]).run P w = .ok (.slice none 0 0) w := by
  generalize hn : (0 : Nat) = n at hs
  cases hs with
  | sl hu hl h =>
    subst hu
    subst hn
    rename_i ad c
    have hf := run_first (P := P) (w := w) (size := i.size) (n := 0) (c := c) hl h
    simp [Builtin.append_, run_underlying ht, sizeOf, typeInfo, hi, Builtin.lenOf, hf]
  | zr hu hn' hb =>
    subst hn
    have hw0 : IntKind.i64.wrap 0 = 0 := by decide
    simp [Builtin.append_, run_underlying ht, run_underlying hu, sizeOf, typeInfo, hi, asInt, asIntOf, hw0]
end
end Go.Vc

/-! Vc3k -/
set_option linter.unusedVariables false
set_option linter.unusedSimpArgs false
namespace Go.Vc
section
variable {P : Program} {nt : Nat} {F : Fr} {s : St} {β : Bt} {a : Act} {w : World} {o : Oper} {Q : Exit → Act → World → Prop}

theorem Owned.congr {me me' : Me} (h : ∀ t, mget me t = mget me' t) (β : Bt) : Owned me β = Owned me' β := by
  funext b
  apply propext
  constructor <;> rintro ⟨k, c, sz, h1, h2⟩
  · exact ⟨k, c, sz, by rw [← h k]; exact h1, h2⟩
  · exact ⟨k, c, sz, by rw [h k]; exact h1, h2⟩
theorem Rep.congr {tm tm' : Tm} {me me' : Me} (h : Rep nt F ⟨tm, me⟩ β a w) (ht : ∀ t, tget tm t = tget tm' t) (hm : ∀ t, mget me t = mget me' t) : Rep nt F ⟨tm', me'⟩ β a w := by
  have e : Own F me β = Own F me' β := by unfold Own; rw [Owned.congr hm β]
  refine ⟨h.nt, h.df, fun t => ?_, ⟨fun k hk => h.mr.un k (by rw [hm]; exact hk), fun k c hk => ?_, fun k k' c c' b z z' h1 h2 => h.mr.inj k k' c c' b z z' (by rw [hm]; exact h1) (by rw [hm]; exact h2),
    fun k c b z h1 => h.mr.ow k c b z (by rw [hm]; exact h1), h.mr.fr⟩⟩
  · have := h.tm t
    rw [ht t] at this
    exact e ▸ this
  · have := h.mr.bl k c (by rw [hm]; exact hk)
    exact e ▸ this

/-- a block is given up -/
theorem Rep.kill (h : Rep nt F s β a w) {k : Nat} {c : Cells} (hk : mget s.me k = some (some c)) : Rep nt F ⟨s.tm, mset s.me k none⟩ β a w := by
  have hO : ∀ x, Owned (mset s.me k none) β x → Owned s.me β x := by
    rintro x ⟨k1, c1, sz1, e1, e2⟩
    rw [mget_mset] at e1
    by_cases e : k1 = k
    · rw [if_pos e] at e1; cases e1
    · rw [if_neg e] at e1; exact ⟨k1, c1, sz1, e1, e2⟩
  have key : ∀ {x v}, RV F.B (Own F s.me β) w β x v → RV F.B (Own F (mset s.me k none) β) w β x v := fun hx =>
    hx.mono (Nat.le_refl _) (fun x _ hx => hx.imp (hO x)) (Nat.le_refl _) (fun _ _ _ => rfl) β (fun _ _ h => h)
  have old : ∀ {k1 c1}, mget (mset s.me k none) k1 = some (some c1) → mget s.me k1 = some (some c1) := by
    intro k1 c1 e
    rw [mget_mset] at e
    by_cases e2 : k1 = k
    · rw [if_pos e2] at e; cases e
    · rw [if_neg e2] at e; exact e
  refine ⟨h.nt, h.df, fun t => key (h.tm t), fun k1 e => ?_, fun k1 c1 e => (h.mr.bl k1 c1 (old e)).mono (fun _ _ _ => rfl) key, fun k1 k2 c1 c2 b z1 z2 e1 e2 => h.mr.inj k1 k2 c1 c2 b z1 z2 (old e1) (old e2),
    fun k1 c1 b z e1 => h.mr.ow k1 c1 b z (old e1), h.mr.fr⟩
  rw [mget_mset] at e
  by_cases e2 : k1 = k
  · rw [if_pos e2] at e; cases e
  · rw [if_neg e2] at e; exact h.mr.un k1 e

/-- a block goes on under another key -/
theorem Rep.rekey (h : Rep nt F s β a w) {k d : Nat} {c : Cells} {x : Option (Nat × Nat)} (hk : mget s.me k = some (some c)) (hd : mget s.me d = none) (hx : β k = some x) :
    Rep nt F ⟨s.tm, mset (mset s.me k none) d (some c)⟩ (upd β d x) a w := by
  have hkd : k ≠ d := by rintro rfl; rw [hk] at hd; cases hd
  have hβ : ∀ j y, β j = some y → upd β d x j = some y := by
    intro j y hj
    unfold upd
    rw [if_neg (by rintro rfl; rw [h.mr.un _ hd] at hj; cases hj)]
    exact hj
  have hβ' : ∀ j, j ≠ d → upd β d x j = β j := fun j hj => by unfold upd; rw [if_neg hj]
  have hβd : upd β d x d = some x := by simp [upd]
  have g : ∀ t, mget (mset (mset s.me k none) d (some c)) t = if t = d then some (some c) else if t = k then some none else mget s.me t := by
    intro t; rw [mget_mset, mget_mset]
  have old : ∀ {k1 c1}, mget (mset (mset s.me k none) d (some c)) k1 = some (some c1) → (k1 = d ∧ c1 = c) ∨ (k1 ≠ d ∧ k1 ≠ k ∧ mget s.me k1 = some (some c1)) := by
    intro k1 c1 e
    rw [g] at e
    by_cases e1 : k1 = d
    · rw [if_pos e1] at e; left; injection e with e; injection e with e; exact ⟨e1, e.symm⟩
    · rw [if_neg e1] at e
      by_cases e2 : k1 = k
      · rw [if_pos e2] at e; cases e
      · rw [if_neg e2] at e; exact .inr ⟨e1, e2, e⟩
  have hO : ∀ y, Owned (mset (mset s.me k none) d (some c)) (upd β d x) y → Owned s.me β y := by
    rintro y ⟨k1, c1, sz1, e1, e2⟩
    rcases old e1 with ⟨rfl, rfl⟩ | ⟨h1, h2, h3⟩
    · rw [hβd] at e2; exact ⟨k, c1, sz1, hk, by rw [hx]; exact e2⟩
    · rw [hβ' _ h1] at e2; exact ⟨k1, c1, sz1, h3, e2⟩
  have key : ∀ {y v}, RV F.B (Own F s.me β) w β y v → RV F.B (Own F (mset (mset s.me k none) d (some c)) (upd β d x)) w (upd β d x) y v := fun hy =>
    hy.mono (Nat.le_refl _) (fun y _ hy => hy.imp (hO y)) (Nat.le_refl _) (fun _ _ _ => rfl) _ hβ
  refine ⟨h.nt, h.df, fun t => key (h.tm t), fun k1 e => ?_, fun k1 c1 e => ?_, fun k1 k2 c1 c2 b z1 z2 e1 e2 e3 e4 => ?_, fun k1 c1 b z e1 e2 => ?_, h.mr.fr⟩
  · rw [g] at e
    by_cases e1 : k1 = d
    · rw [if_pos e1] at e; cases e
    · rw [if_neg e1] at e
      by_cases e2 : k1 = k
      · rw [if_pos e2] at e; cases e
      · rw [if_neg e2] at e; rw [hβ' _ e1]; exact h.mr.un k1 e
  · rcases old e with ⟨rfl, rfl⟩ | ⟨h1, h2, h3⟩
    · rw [hβd, ← hx]; exact (h.mr.bl k c1 hk).mono (fun _ _ _ => rfl) key
    · rw [hβ' _ h1]; exact (h.mr.bl k1 c1 h3).mono (fun _ _ _ => rfl) key
  · rcases old e1 with ⟨rfl, rfl⟩ | ⟨h1, h2, h3⟩ <;> rcases old e2 with ⟨rfl, rfl⟩ | ⟨h1', h2', h3'⟩
    · rfl
    · rw [hβd] at e3
      rw [hβ' _ h1'] at e4
      exact absurd (h.mr.inj k k2 c1 c2 b z1 z2 hk h3' (by rw [hx]; exact e3) e4).symm h2'
    · rw [hβd] at e4
      rw [hβ' _ h1] at e3
      exact absurd (h.mr.inj k1 k c1 c2 b z1 z2 h3 hk e3 (by rw [hx]; exact e4)) h2
    · rw [hβ' _ h1] at e3
      rw [hβ' _ h1'] at e4
      exact h.mr.inj k1 k2 c1 c2 b z1 z2 h3 h3' e3 e4
  · rcases old e1 with ⟨rfl, rfl⟩ | ⟨h1, h2, h3⟩
    · rw [hβd] at e2; exact h.mr.ow k c1 b z hk (by rw [hx]; exact e2)
    · rw [hβ' _ h1] at e2; exact h.mr.ow k1 c1 b z h3 e2

/-- a block is known anew (less of it, say), nothing is written -/
theorem Rep.reread (h : Rep nt F s β a w) {k : Nat} {c c' : Cells} (hk : mget s.me k = some (some c)) (hb : BlkRep F.B (Own F s.me β) w β (β k) c') : Rep nt F ⟨s.tm, mset s.me k (some c')⟩ β a w := by
  have hO : ∀ x, Owned (mset s.me k (some c')) β x ↔ Owned s.me β x := by
    intro x
    constructor
    · rintro ⟨k1, c1, sz1, e1, e2⟩
      rw [mget_mset] at e1
      by_cases e : k1 = k
      · subst e; exact ⟨k1, c, sz1, hk, e2⟩
      · rw [if_neg e] at e1; exact ⟨k1, c1, sz1, e1, e2⟩
    · rintro ⟨k1, c1, sz1, e1, e2⟩
      by_cases e : k1 = k
      · subst e; exact ⟨k1, c', sz1, by rw [mget_mset, if_pos rfl], e2⟩
      · exact ⟨k1, c1, sz1, by rw [mget_mset, if_neg e]; exact e1, e2⟩
  have key : ∀ {x v}, RV F.B (Own F s.me β) w β x v → RV F.B (Own F (mset s.me k (some c')) β) w β x v := fun hx =>
    hx.mono (Nat.le_refl _) (fun x _ hx => hx.imp (hO x).1) (Nat.le_refl _) (fun _ _ _ => rfl) β (fun _ _ h => h)
  have old : ∀ {k1 c1}, mget (mset s.me k (some c')) k1 = some (some c1) → ∃ c0, mget s.me k1 = some (some c0) := by
    intro k1 c1 e
    rw [mget_mset] at e
    by_cases e2 : k1 = k
    · rw [e2]; exact ⟨c, hk⟩
    · rw [if_neg e2] at e; exact ⟨c1, e⟩
  refine ⟨h.nt, h.df, fun t => key (h.tm t), fun k1 e => ?_, fun k1 c1 e => ?_, fun k1 k2 c1 c2 b z1 z2 e1 e2 => ?_, fun k1 c1 b z e1 => ?_, h.mr.fr⟩
  · rw [mget_mset] at e
    by_cases e2 : k1 = k
    · rw [if_pos e2] at e; cases e
    · rw [if_neg e2] at e; exact h.mr.un k1 e
  · rw [mget_mset] at e
    by_cases e2 : k1 = k
    · subst e2
      rw [if_pos rfl] at e
      injection e with e; injection e with e; subst e
      exact hb.mono (fun _ _ _ => rfl) key
    · rw [if_neg e2] at e; exact (h.mr.bl k1 c1 e).mono (fun _ _ _ => rfl) key
  · obtain ⟨d1, f1⟩ := old e1
    obtain ⟨d2, f2⟩ := old e2
    exact h.mr.inj k1 k2 d1 d2 b z1 z2 f1 f2
  · obtain ⟨d1, f1⟩ := old e1
    exact h.mr.ow k1 d1 b z f1
end
end Go.Vc

/-! Vc3l -/
set_option linter.unusedVariables false
set_option linter.unusedSimpArgs false
namespace Go.Vc

theorem getD_append {α : Type} (l l' : List α) (j : Nat) (d : α) : (l ++ l').getD j d = if j < l.length then l.getD j d else l'.getD (j - l.length) d := by
  simp only [List.getD_eq_getElem?_getD, List.getElem?_append]
  split <;> rfl

theorem Cells.app_spec {x y c : Cells} (h : x.app y = some c) (he : x.esz = y.esz) (h0 : 0 < x.esz) :
    c.len = x.len + y.len ∧ c.count = x.count + y.count ∧ c.esz = x.esz ∧ (∀ j, j < x.len → c.get j = x.get j) ∧ (∀ j, c.get (x.len + j) = y.get j) := by
  cases x with
  | recs sz l =>
    cases y <;> simp only [Cells.app, reduceCtorEq] at h
    rename_i sz' l'
    have e : sz = sz' := he
    subst e
    have hsz : 0 < sz := h0
    rw [if_pos rfl] at h
    injection h with h; subst h
    refine ⟨by simp [Cells.len, Nat.mul_add], by simp [Cells.count], rfl, fun j hj => ?_, fun j => ?_⟩
    · have hj' : j < sz * l.length := hj
      have : j / sz < l.length := (Nat.div_lt_iff_lt_mul hsz).2 (by rw [Nat.mul_comm]; exact hj')
      simp only [Cells.get]
      rw [getD_append, if_pos this]
    · simp only [Cells.get, Cells.len]
      rw [getD_append, Nat.mul_add_div hsz, Nat.mul_add_mod, if_neg (Nat.not_lt.2 (Nat.le_add_right _ _)), Nat.add_sub_cancel_left]
  | _ =>
    cases y <;> simp only [Cells.app, Option.some.injEq, reduceCtorEq] at h
    all_goals
      subst h
      refine ⟨by simp [Cells.len], by simp [Cells.count], rfl, fun j hj => ?_, fun j => ?_⟩
      · simp only [Cells.get, Cells.len] at *
        rw [getD_append, if_pos hj]
      · simp only [Cells.get, Cells.len] at *
        rw [getD_append, if_neg (by omega), Nat.add_sub_cancel_left]

theorem Cells.part0 {c : Cells} {l : Nat} (h : l ≤ c.count) : (c.part 0 l).count = l ∧ (c.part 0 l).len = l * c.esz ∧ ∀ j, j < l * c.esz → (c.part 0 l).get j = c.get j := by
  refine ⟨Cells.part_count (by omega), by rw [Cells.len_eq, Cells.part_count (by omega), Cells.part_esz], fun j hj => ?_⟩
  rw [Cells.part_get hj]; simp

section
variable {P : Program} {nt : Nat} {F : Fr} {s : St} {β : Bt} {a : Act} {w : World} {o : Oper} {Q : Exit → Act → World → Prop}

theorem zero_one {z : Value} {n : Nat} (h : ∀ u ∈ z.cells.toList, u.oneCell' = true) : ∀ u ∈ (Builtin.zeroCells z.cells n).toList, u.oneCell' = true := by
  intro u hu
  simp only [Builtin.zeroCells, Array.toList_map, List.mem_map] at hu
  obtain ⟨i, hi, rfl⟩ := hu
  simp only [Array.toList_range, List.mem_range] at hi
  have hz : 0 < z.cells.size := by
    rcases Nat.eq_zero_or_pos z.cells.size with e | e
    · rw [e, Nat.mul_zero] at hi; omega
    · exact e
  have hlt : i % z.cells.size < z.cells.size := Nat.mod_lt _ hz
  rw [getElem!_pos z.cells _ hlt]
  exact h _ (Array.getElem_mem_toList hlt)

theorem setRow_same {g : Nat} {cs : Array Value} {T : TypeId} (h : w.heap[g]? = some (.cells cs T (0, 0))) : w.setRow g cs = w := setRow_self w g cs T (0, 0) h

/-- nothing appended: the slice stays -/
theorem run_app_zero {t u ty e : TypeId} {i : TypeInfo} {z : Value} (ht : P.underlying t = some (.slice e)) (hi : P.info? e = some i) {A : Option Addr} {sLen sCap : Nat} (hc : sLen ≤ sCap) {x : Value} {news : List Value} (hs : Src P w t u i z x 0 news) :
    (Builtin.append_ #[t, u] ty #[.slice A sLen sCap, x]).run P w = .ok (.slice A sLen sCap) w := by
  generalize hn : (0 : Nat) = n at hs
  cases hs with
  | sl hu hl h =>
    subst hu
    subst hn
    rename_i ad c
    have hnil : news = [] := List.eq_nil_of_length_eq_zero (by simpa using hl)
    subst hnil
    have hf := run_first (P := P) (w := w) (size := i.size) (n := 0) (c := c) hl h
    cases A <;> simp [Builtin.append_, run_underlying ht, sizeOf, typeInfo, hi, Builtin.lenOf, hf, hc, storeCells]
  | zr hu hn' hb =>
    subst hn
    have hw0 : IntKind.i64.wrap 0 = 0 := by decide
    cases A <;> simp [Builtin.append_, run_underlying ht, run_underlying hu, sizeOf, typeInfo, hi, asInt, asIntOf, hw0, hc, storeCells]

/-- a row of nothing yet -/
theorem Rep.newnil (h : Rep nt F s β a w) {d : Nat} {c : Cells} (hd : mget s.me d = none) (h0 : c.len = 0) (h1 : c.count = 0) : Rep nt F ⟨s.tm, mset s.me d (some c)⟩ (upd β d none) a w := by
  have hβ : ∀ k x, β k = some x → upd β d none k = some x := by
    intro k x hk
    unfold upd
    rw [if_neg (by rintro rfl; rw [h.mr.un _ hd] at hk; cases hk)]
    exact hk
  have hβ' : ∀ k, k ≠ d → upd β d none k = β k := fun k hk => by unfold upd; rw [if_neg hk]
  have hβd : upd β d none d = some none := by simp [upd]
  have old : ∀ {k1 c1}, mget (mset s.me d (some c)) k1 = some (some c1) → (k1 = d ∧ c1 = c) ∨ (k1 ≠ d ∧ mget s.me k1 = some (some c1)) := by
    intro k1 c1 e
    rw [mget_mset] at e
    by_cases e1 : k1 = d
    · rw [if_pos e1] at e; left; injection e with e; injection e with e; exact ⟨e1, e.symm⟩
    · rw [if_neg e1] at e; exact .inr ⟨e1, e⟩
  have hO : ∀ y, Owned (mset s.me d (some c)) (upd β d none) y → Owned s.me β y := by
    rintro y ⟨k1, c1, sz1, e1, e2⟩
    rcases old e1 with ⟨rfl, rfl⟩ | ⟨h1, h3⟩
    · rw [hβd] at e2; cases e2
    · rw [hβ' _ h1] at e2; exact ⟨k1, c1, sz1, h3, e2⟩
  have key : ∀ {y v}, RV F.B (Own F s.me β) w β y v → RV F.B (Own F (mset s.me d (some c)) (upd β d none)) w (upd β d none) y v := fun hy =>
    hy.mono (Nat.le_refl _) (fun y _ hy => hy.imp (hO y)) (Nat.le_refl _) (fun _ _ _ => rfl) _ hβ
  refine ⟨h.nt, h.df, fun t => key (h.tm t), fun k1 e => ?_, fun k1 c1 e => ?_, fun k1 k2 c1 c2 b z1 z2 e1 e2 e3 e4 => ?_, fun k1 c1 b z e1 e2 => ?_, h.mr.fr⟩
  · rw [mget_mset] at e
    by_cases e1 : k1 = d
    · rw [if_pos e1] at e; cases e
    · rw [if_neg e1] at e; rw [hβ' _ e1]; exact h.mr.un k1 e
  · rcases old e with ⟨rfl, rfl⟩ | ⟨h2, h3⟩
    · rw [hβd]; exact ⟨h0, h1⟩
    · rw [hβ' _ h2]; exact (h.mr.bl k1 c1 h3).mono (fun _ _ _ => rfl) key
  · rcases old e1 with ⟨rfl, rfl⟩ | ⟨h1, h3⟩
    · rw [hβd] at e3; cases e3
    · rcases old e2 with ⟨rfl, rfl⟩ | ⟨h1', h3'⟩
      · rw [hβd] at e4; cases e4
      · rw [hβ' _ h1] at e3
        rw [hβ' _ h1'] at e4
        exact h.mr.inj k1 k2 c1 c2 b z1 z2 h3 h3' e3 e4
  · rcases old e1 with ⟨rfl, rfl⟩ | ⟨h1, h3⟩
    · rw [hβd] at e2; cases e2
    · rw [hβ' _ h1] at e2; exact h.mr.ow k1 c1 b z h3 e2

/-- append onto nil or onto a row of one's own: the cells that come are there, and read as cn -/
theorem good_app (h : Rep nt F s β a w) (hd : ∀ t, o.dst = some t → t < nt) {t u e : Nat} {x y : Operand} {i : TypeInfo} {z : Value}
    (ho : o.op = .call { callee := .builtin .append, args := #[x, y], argTypes := #[t, u] }) (ht : P.underlying t = some (.slice e)) (hi : P.info? e = some i) (hz : i.zero = some z) (hzs : z.cells.size = i.size)
    (hz1 : ∀ v ∈ z.cells.toList, v.oneCell' = true) (hsz : 0 < i.size)
    {n : Nat} {us : List Value} {cn c0 c : Cells} (hs : Src P w t u i z (a.eval y) n us) (hn : cn.count = n) (hes : cn.esz = i.size) (hcl : us.length = cn.len) (h1 : ∀ v ∈ us, v.oneCell' = true)
    (hrv : ∀ j, j < cn.len → RV F.B (Own F s.me β) w β (cn.get j) (us.getD j undef))
    {d l : Nat} (hdk : mget s.me d = none) (h0e : c0.esz = i.size) (happ : (c0.part 0 l).app cn = some c) (hl0 : l ≤ c0.count)
    (hroom : l + n < 9223372036854775808) (hby : (l + n) * i.bytes ≤ 140737488355328)
    {r : R} (hr : r.v = .own d 0 c.count i.size)
    (hbase : (a.eval x = .slice none 0 0 ∧ l = 0 ∧ r.mw = [(d, some c)]) ∨ ∃ k, mget s.me k = some (some c0) ∧ RV F.B (Own F s.me β) w β (.own k 0 l i.size) (a.eval x) ∧ r.mw = [(k, none), (d, some c)]) :
    Good P nt F s a w Q o r := by
  obtain ⟨p1, p2, p3⟩ := Cells.part0 hl0
  rw [h0e] at p2 p3
  obtain ⟨q1, q2, q3, q4, q5⟩ := Cells.app_spec happ (by rw [Cells.part_esz, h0e, hes]) (by rw [Cells.part_esz, h0e]; exact hsz)
  rw [p2] at q1 q4 q5
  rw [p1, hn] at q2
  have hcn : cn.len = n * i.size := by rw [Cells.len_eq, hn, hes]
  have hul : us.length = n * i.size := by rw [hcl, hcn]
  -- a new row out of the old values and the new
  have grow : ∀ (A : Option Addr) (cap : Nat) (olds : List Value) (s' : St), a.eval x = .slice A l cap → cap < l + n → (Builtin.firstCells i.size l (.slice A l cap)).run P w.drew = .ok olds.toArray w.drew → olds.length = l * i.size →
      (∀ v ∈ olds, v.oneCell' = true) → Rep nt F s' β a w → mget s'.me d = none → s'.tm = s.tm → (∀ j, j < l * i.size → RV F.B (Own F s'.me β) w β (c0.get j) (olds.getD j undef)) →
      (∀ j, j < cn.len → RV F.B (Own F s'.me β) w β (cn.get j) (us.getD j undef)) → msets s.me r.mw = mset s'.me d (some c) → Good P nt F s a w Q o r := by
    intro A cap olds s' hx hlt hf hol ho1 hrep hd' htm hro hrn hme
    have hg := run_app_grow (P := P) (w := w) (ty := o.type) ht hi hz hsz hf hs hlt (by omega) hby
    generalize hR : Builtin.zeroCells z.cells (grownCap w (l + n) cap e - (l + n)) = rest at hg
    have hrest : ∀ v ∈ rest.toList, v.oneCell' = true := by rw [← hR]; exact zero_one hz1
    have hrs : rest.size = (grownCap w (l + n) cap e - (l + n)) * i.size := by rw [← hR, size_zeroCells, hzs]
    have hge := grownCap_ge w (l + n) cap e
    generalize hG : grownCap w (l + n) cap e = G at *
    have harr : olds.toArray ++ us.toArray ++ rest = (olds ++ us ++ rest.toList).toArray := by simp
    rw [harr] at hg
    have hlen : (olds ++ us ++ rest.toList).length = G * i.size := by
      simp only [List.length_append, Array.length_toList, hol, hul, hrs, ← Nat.add_mul]
      congr 1; omega
    unfold Good Oper.wp
    have hrun : (execOp a.eval o).run P w = .ok (.value (.slice (some ⟨w.heap.size, 0, none⟩) (l + n) G)) (w.drew.alloc (.cells (olds ++ us ++ rest.toList).toArray e)) := by
      simp [execOp, ho, resolve, invoke, builtin, hx, hg]
    rw [hrun]
    simp only [Oper.upon]
    have hnew := hrep.drew.newk (T := e) (c := c) (cs := (olds ++ us ++ rest.toList).toArray) hd' (by simp only [List.size_toArray, hlen, q1, hcn, ← Nat.add_mul]; exact Nat.mul_le_mul_right _ hge)
      (by
        intro v hv
        simp only [List.mem_append] at hv
        rcases hv with (hv | hv) | hv
        · exact ho1 v hv
        · exact h1 v hv
        · exact hrest v hv)
      (by
        intro j hj
        have key : ∀ {x v}, RV F.B (Own F s'.me β) w β x v → RV F.B (Own F s'.me β) w.drew β x v := fun hx => hx.mono (w' := w.drew) (Nat.le_refl _) (fun _ _ h => h) (Nat.le_refl _) (fun _ _ _ => rfl) β (fun _ _ h => h)
        apply key
        have e0 : (olds ++ us ++ rest.toList).toArray.getD j undef = (olds ++ (us ++ rest.toList)).getD j undef := by simp [List.getD_eq_getElem?_getD]
        rw [e0, getD_append]
        by_cases hj2 : j < l * i.size
        · rw [if_pos (by omega), q4 j hj2, p3 j hj2]; exact hro j hj2
        · obtain ⟨j', rfl⟩ : ∃ j', j = l * i.size + j' := ⟨j - l * i.size, by omega⟩
          rw [if_neg (by omega), q5, hol, Nat.add_sub_cancel_left, getD_append, if_pos (by omega)]
          exact hrn j' (by omega))
    refine ⟨upd β d (some (w.heap.size, (olds ++ us ++ rest.toList).toArray.size)), ?_⟩
    have hput := hnew.put (d := o.dst) hd (av := .own d 0 c.count i.size) (v := .slice (some ⟨w.heap.size, 0, none⟩) (l + n) G)
      (by rw [q2]; exact .own (sz := (olds ++ us ++ rest.toList).toArray.size) (by simp [upd]) hge (by simp only [List.size_toArray, hlen]; omega) (.inl rfl))
    rw [hr, hme, ← htm]
    exact hput
  have hexec : ∀ v' w', (Builtin.append_ #[t, u] o.type #[a.eval x, a.eval y]).run P w = .ok v' w' → (execOp a.eval o).run P w = .ok (.value v') w' := by
    intro v' w' hg
    simp [execOp, ho, resolve, invoke, builtin, hg]
  rcases hbase with ⟨hx, rfl, hmw⟩ | ⟨k, hk, hx, hmw⟩
  · by_cases hn0 : n = 0
    · subst hn0
      have hg := run_app_none (P := P) (w := w) (ty := o.type) ht hi hs
      unfold Good Oper.wp
      rw [hexec _ _ (by rw [hx]; exact hg)]
      simp only [Oper.upon, hmw, msets]
      refine ⟨upd β d none, ?_⟩
      have hc0 : c.len = 0 := by rw [q1, hcn]; simp
      rw [hr, q2]
      exact (h.newnil (c := c) hdk hc0 q2).put hd (.ownnil (by simp [upd]))
    · exact grow none 0 [] s hx (by omega) (by rfl) (by simp) (by simp) h hdk rfl (fun j hj => by omega) hrv (by rw [hmw]; rfl)
  · -- onto a row: what it was
    have hkl := h.kill hk
    have hdk' : mget (mset s.me k none) d = none := by
      rw [mget_mset, if_neg (by rintro rfl; rw [hk] at hdk; cases hdk)]; exact hdk
    have keyk : ∀ {x v}, RV F.B (Own F s.me β) w β x v → RV F.B (Own F (mset s.me k none) β) w β x v := fun hx => hx.mono (Nat.le_refl _)
      (fun x _ hx => by
        refine hx.imp ?_
        rintro ⟨k1, c1, sz1, e1, e2⟩
        rw [mget_mset] at e1
        by_cases e : k1 = k
        · rw [if_pos e] at e1; cases e1
        · rw [if_neg e] at e1; exact ⟨k1, c1, sz1, e1, e2⟩) (Nat.le_refl _) (fun _ _ _ => rfl) β (fun _ _ h => h)
    have hwin : c0.win 0 l i.size := ⟨h0e.symm, hsz, Nat.zero_mod _, by simpa using hl0⟩
    obtain ⟨ad, cap, os, hv, hrd, -⟩ := own_rd h hx hk hwin
    rw [Nat.zero_div] at hrd
    have hol : os.length = l * i.size := by rw [hrd.len, p2]
    have hro : ∀ j, j < l * i.size → RV F.B (Own F s.me β) w β (c0.get j) (os.getD j undef) := fun j hj => by rw [← p3 j hj]; exact hrd.rv j (by rw [p2]; exact hj)
    by_cases hlt : cap < l + n
    · refine grow ad cap os ⟨s.tm, mset s.me k none⟩ hv hlt ?_ hol hrd.one hkl hdk' rfl (fun j hj => keyk (hro j hj)) (fun j hj => keyk (hrv j hj)) (by rw [hmw]; rfl)
      refine run_first (w := w.drew) hol ?_
      rcases hrd.at_ with e | ⟨a', e1, e2⟩
      · left; exact List.eq_nil_of_length_eq_zero (by rw [hol, ← p2]; exact e)
      · exact .inr ⟨a', e1, e2⟩
    · -- room: the row goes on, under the new key
      have finish : ∀ (s1 : St) (w1 : World) (x' : Option (Nat × Nat)), Rep nt F s1 β a w1 → s1.tm = s.tm → mget s1.me k = some (some c) → (∀ t, t ≠ k → mget s1.me t = mget s.me t) → β k = some x' →
          (∀ O w2, RV F.B O w2 (upd β d x') (.own d 0 (l + n) i.size) (.slice ad (l + n) cap)) → (execOp a.eval o).run P w = .ok (.value (.slice ad (l + n) cap)) w1 → Good P nt F s a w Q o r := by
        intro s1 w1 x' hrep htm hk1 hoth hβk hval hrun
        have hkd : k ≠ d := by rintro rfl; rw [hk] at hdk; cases hdk
        have hd1 : mget s1.me d = none := by rw [hoth d (Ne.symm hkd)]; exact hdk
        have hre := hrep.rekey hk1 hd1 hβk
        have hcg := Rep.congr (tm' := s.tm) (me' := msets s.me r.mw) hre (fun t => by rw [htm])
          (by
            intro t
            rw [hmw]
            simp only [msets]
            rw [mget_mset, mget_mset, mget_mset, mget_mset]
            by_cases e1 : t = d
            · rw [if_pos e1, if_pos e1]
            · rw [if_neg e1, if_neg e1]
              by_cases e2 : t = k
              · rw [if_pos e2, if_pos e2]
              · rw [if_neg e2, if_neg e2, hoth t e2])
        unfold Good Oper.wp
        rw [hrun]
        simp only [Oper.upon]
        refine ⟨upd β d x', ?_⟩
        rw [hr, q2]
        exact hcg.put hd (hval _ _)
      have hmem : ∀ (cc : Cells) t, t ≠ k → mget (mset s.me k (some cc)) t = mget s.me t := fun cc t ht => by rw [mget_mset, if_neg ht]
      by_cases hn0 : n = 0
      · subst hn0
        have hg := run_app_zero (P := P) (w := w) (ty := o.type) (A := ad) (sLen := l) (sCap := cap) ht hi (by omega) hs
        have hcl : c.len = l * i.size := by rw [q1, hcn]; simp
        rw [hv] at hx
        cases hx with
        | own hb hl' hc' ho' =>
          rename_i o' b sz
          have hbl := h.mr.bl k c0 hk
          rw [hb] at hbl
          obtain ⟨cs, T, g1, g2, g3, g4, g5⟩ := hbl
          have hc0l : c0.len = c0.count * i.size := by rw [Cells.len_eq, h0e]
          have hle : l * i.size ≤ c0.len := by rw [hc0l]; exact Nat.mul_le_mul_right _ hl0
          refine finish ⟨s.tm, mset s.me k (some c)⟩ w (some (b, sz)) (h.reread hk ?_) rfl (by rw [mget_mset, if_pos rfl]) (hmem c) hb (fun O w2 => .own (b := b) (sz := sz) (by simp [upd]) hl' (by simpa using hc') ho') (hexec _ _ (by rw [hv]; exact hg))
          rw [hb]
          exact ⟨cs, T, g1, g2, by omega, g4, fun j hj => by rw [hcl] at hj; rw [q4 j hj, p3 j hj]; exact g5 j (by omega)⟩
        | ownnil hb =>
          refine finish ⟨s.tm, mset s.me k (some c)⟩ w none (h.reread hk ?_) rfl (by rw [mget_mset, if_pos rfl]) (hmem c) hb (fun O w2 => .ownnil (by simp [upd])) (hexec _ _ (by rw [hv]; exact hg))
          rw [hb]
          exact ⟨by rw [hcl]; simp, by rw [q2]⟩
      · rw [hv] at hx
        cases hx with
        | ownnil hb => omega
        | own hb hl' hc' ho' =>
          rename_i o' b sz
          have hoo : o' = 0 := by rcases ho' with h | h <;> omega
          subst hoo
          have hbl := h.mr.bl k c0 hk
          rw [hb] at hbl
          obtain ⟨cs, T, g1, g2, g3, g4, g5⟩ := hbl
          have hfit : l * i.size + us.length ≤ cs.size := by
            rw [hul, ← Nat.add_mul, g2]
            have := Nat.mul_le_mul_right i.size (show l + n ≤ cap by omega)
            omega
          have hfit' : l * i.size + us.length ≤ cs.toList.length := by simpa using hfit
          have hg := run_app_room (P := P) (w := w) (ty := o.type) (sLen := l) (sCap := cap) ht hi hz hzs hsz g1 hs h1 (by omega) hfit
          have hc0l : c0.len = c0.count * i.size := by rw [Cells.len_eq, h0e]
          have hle : l * i.size ≤ c0.len := by rw [hc0l]; exact Nat.mul_le_mul_right _ hl0
          have hset := h.setk (c' := c) (cs' := (splice cs.toList (l * i.size) us).toArray) hk hb g1 (by simp [length_splice _ _ _ hfit', ← g2]) (by rw [q1, hcn]; omega)
            (by
              intro v hvv
              simp only [splice, List.append_assoc] at hvv
              have : v ∈ cs.toList.take (l * i.size) ++ (us ++ cs.toList.drop (l * i.size + us.length)) := by simpa using hvv
              rcases List.mem_append.1 this with q | q
              · exact g4 v (List.mem_of_mem_take q)
              · rcases List.mem_append.1 q with q | q
                · exact h1 v q
                · exact g4 v (List.mem_of_mem_drop q))
            (fun j hj => by
              rw [q1, hcn] at hj
              rw [getD_toArray_splice hfit']
              by_cases hj2 : j < l * i.size
              · rw [if_neg (by omega), q4 j hj2, p3 j hj2]
                have := g5 j (by omega); simpa using this
              · obtain ⟨j', rfl⟩ : ∃ j', j = l * i.size + j' := ⟨j - l * i.size, by omega⟩
                rw [if_pos (by omega), q5, Nat.add_sub_cancel_left]
                exact hrv j' (by omega))
          exact finish ⟨s.tm, mset s.me k (some c)⟩ _ (some (b, sz)) hset rfl (by rw [mget_mset, if_pos rfl]) (hmem c) hb (fun O w2 => .own (b := b) (sz := sz) (by simp [upd]) (by omega) (by simpa using hc') (.inl rfl)) (hexec _ _ (by rw [hv]; exact hg))
end
end Go.Vc

/-! Vc3m -/
set_option linter.unusedVariables false
set_option linter.unusedSimpArgs false
namespace Go.Vc
section
variable {P : Program} {nt : Nat} {F : Fr} {s : St} {β : Bt} {a : Act} {w : World} {o : Oper} {Q : Exit → Act → World → Prop}

def optOk : Option Operand → Option Opd → Bool
  | none, none => true
  | some x, some y => opdOk x y
  | _, _ => false

theorem run_bnds (h : Rep nt F s β a w) {lo hi : Option Operand} {lo' hi' : Option Opd} (hlo : optOk lo lo' = true) (hhi : optOk hi hi' = true) {l cap : Nat} (hlc : l ≤ cap) {isS : Bool} {p : Prop} {i j : Nat}
    (hb : bnds s.tm lo' hi' l = some (p, i, j)) (hp : p) : (Instr.sliceBounds isS l cap (lo.map a.eval) (hi.map a.eval) none).run P w = .ok (i, j, cap) w ∧ i ≤ j ∧ j ≤ l := by
  cases lo <;> cases lo' <;> simp [optOk] at hlo <;> cases hi <;> cases hi' <;> simp [optOk] at hhi
  · simp only [bnds, Option.some.injEq, Prod.mk.injEq] at hb
    obtain ⟨_, rfl, rfl⟩ := hb
    exact ⟨by simp [Instr.sliceBounds], by omega, by omega⟩
  · rename_i x y
    simp only [bnds, Option.map_eq_some_iff] at hb
    obtain ⟨⟨q, n⟩, hq, he⟩ := hb
    simp only [Prod.mk.injEq] at he
    obtain ⟨rfl, rfl, rfl⟩ := he
    obtain ⟨k, hk⟩ := ixN_rv hq (h.ev hhi) hp.1
    have := hp.2
    refine ⟨?_, by omega, by omega⟩
    simp only [Instr.sliceBounds, Option.map_some, Option.map_none, hk, Sem.run_bind, Sem.run_pure, Result.andThen_ok]
    rw [run_sliceBound w k (n : Int) cap _ (by omega) (by omega)]
    rfl
  · rename_i x y
    simp only [bnds, Option.map_eq_some_iff] at hb
    obtain ⟨⟨q, n⟩, hq, he⟩ := hb
    simp only [Prod.mk.injEq] at he
    obtain ⟨rfl, rfl, rfl⟩ := he
    obtain ⟨k, hk⟩ := ixN_rv hq (h.ev hlo) hp.1
    have := hp.2
    refine ⟨?_, by omega, by omega⟩
    simp only [Instr.sliceBounds, Option.map_some, Option.map_none, hk, Sem.run_bind, Sem.run_pure, Result.andThen_ok]
    rw [run_sliceBound w k (n : Int) _ _ (by omega) (by omega)]
    rfl
  · rename_i x y x2 y2
    simp only [bnds] at hb
    split at hb
    · rename_i q1 q2 h1 h2
      obtain ⟨q1, n1⟩ := q1
      obtain ⟨q2, n2⟩ := q2
      simp only [Option.some.injEq, Prod.mk.injEq] at hb
      obtain ⟨rfl, rfl, rfl⟩ := hb
      obtain ⟨k, hk⟩ := ixN_rv h1 (h.ev hlo) hp.1
      obtain ⟨k2, hk2⟩ := ixN_rv h2 (h.ev hhi) hp.2.1
      have := hp.2.2
      refine ⟨?_, by omega, by omega⟩
      simp only [Instr.sliceBounds, Option.map_some, hk, hk2, Sem.run_bind, Sem.run_pure, Result.andThen_ok]
      rw [run_sliceBound w k2 (n2 : Int) cap _ (by omega) (by omega)]
      simp only [Result.andThen_ok, Int.toNat_natCast]
      rw [run_sliceBound w k (n1 : Int) _ _ (by omega) (by omega)]
      rfl
    · cases hb

/-- a part of what lies at ad -/
theorem rd_part {B O} {c : Cells} {ad : Option Addr} {us : List Value} (h : Rd B O w β c ad us) {i n : Nat} (hi : i + n ≤ c.count) :
    ((us.drop (i * c.esz)).take (n * c.esz)).length = (c.part i n).len ∧ (∀ u ∈ (us.drop (i * c.esz)).take (n * c.esz), u.oneCell' = true) ∧
    (∀ j, j < (c.part i n).len → RV B O w β ((c.part i n).get j) (((us.drop (i * c.esz)).take (n * c.esz)).getD j undef)) := by
  have hl : (c.part i n).len = n * c.esz := by rw [Cells.len_eq, Cells.part_count hi, Cells.part_esz]
  have hb : i * c.esz + n * c.esz ≤ us.length := by rw [h.len, Cells.len_eq, ← Nat.add_mul]; exact Nat.mul_le_mul_right _ hi
  refine ⟨by rw [hl]; exact len_sub _ _ _ hb, fun u hu => h.one u (List.mem_of_mem_drop (List.mem_of_mem_take hu)), fun j hj => ?_⟩
  rw [hl] at hj
  rw [Cells.part_get hj, getD_sub _ _ _ _ _ hj]
  exact h.rv _ (by rw [← h.len]; omega)
theorem drop_take_at {us : List Value} {ad : Addr} {i n j : Nat} {u : Value} (hc : ∀ j u, us[j]? = some u → w.cell? (ad.add j) = some u) (hu : ((us.drop i).take n)[j]? = some u) : w.cell? ((ad.add i).add j) = some u := by
  rw [add_add]
  rw [List.getElem?_take] at hu
  split at hu
  · exact hc _ _ (by simpa [List.getElem?_drop] using hu)
  · cases hu

theorem good_slcS (h : Rep nt F s β a w) (hd : ∀ t, o.dst = some t → t < nt) {t e : Nat} {x : Operand} {x' : Opd} {lo hi : Option Operand} {lo' hi' : Option Opd} (ho : o.op = .slice t x lo hi none) (ht : tySl P t e = true)
    (hx : opdOk x x' = true) (hlo : optOk lo lo' = true) (hhi : optOk hi hi' = true) {l : Nat} (hl : lenOf (Vc.ev s.tm x') = some l) {p : Prop} {i j : Nat} (hb : bnds s.tm lo' hi' l = some (p, i, j)) (hp : p)
    {r : R} (hm : r.mw = [])
    (hr : (Vc.ev s.tm x' = .nil ∧ r.v = .nil) ∨ (∃ fr c, Vc.ev s.tm x' = .sl fr c ∧ c.esz = e ∧ r.v = .sl fr (c.part i (j - i))) ∨ (∃ c, Vc.ev s.tm x' = .sln c ∧ c.esz = e ∧ r.v = .sl false (c.part i (j - i))) ∨
      ∃ k off, Vc.ev s.tm x' = .own k off l e ∧ r.v = .own k (off + i * e) (j - i) e) : Good P nt F s a w Q o r := by
  obtain ⟨el, ii, hu, hif, hs⟩ := tySl_spec ht
  have ex := h.ev hx
  generalize hxe : a.eval x = vx at ex
  have run : ∀ {ad : Option Addr} {cap : Nat}, vx = .slice ad l cap → l ≤ cap → (execOp a.eval o).run P w = .ok (.value (.slice (if cap = i then ad else ad.map (·.add (i * e))) (j - i) (cap - i))) w ∧ i ≤ j ∧ j ≤ l := by
    intro ad cap hv hlc
    obtain ⟨h1, h2, h3⟩ := run_bnds (P := P) h hlo hhi hlc (isS := true) hb hp
    refine ⟨?_, h2, h3⟩
    simp only [execOp, ho, hxe, hv, Instr.sliceAt, Instr.slice, Sem.run_bind, run_underlying hu, Result.andThen_ok, Option.map_none, h1, sizeOf, typeInfo, run_program, hif, Sem.run_pure, hs]
  -- read alone
  have ro : ∀ {fr fr' : Bool} {c : Cells} {ad : Addr} {cap : Nat} {us : List Value}, vx = .slice (some ad) c.count cap → c.count = l → c.esz = e → us.length = c.len → (∀ j u, us[j]? = some u → w.cell? (ad.add j) = some u) → ¬ Own F s.me β ad.block → ad.block < w.heap.size → (fr' = true → fr = true) → (fr = true → F.B ≤ ad.block) →
      (∀ u ∈ us, u.oneCell' = true) → c.count ≤ cap → (∀ j, j < c.len → RV F.B (Own F s.me β) w bt0 (c.get j) (us.getD j undef)) → r.v = .sl fr' (c.part i (j - i)) → Good P nt F s a w Q o r := by
    intro fr fr' c ad cap us hv hcl hce hul hcc hO hbb hff hf h1 hcap hs' hrv
    obtain ⟨g1, g2, g3⟩ := run (ad := some ad) (cap := cap) (by rw [hv, hcl]) (by omega)
    refine good_val h hd g1 hm ?_
    rw [hrv]
    have hrd : Rd F.B (Own F s.me β) w bt0 c (some ad) us := ⟨hul, .inr ⟨ad, rfl, hcc⟩, h1, hs'⟩
    obtain ⟨q1, q2, q3⟩ := rd_part hrd (i := i) (n := j - i) (by omega)
    have hpc : (c.part i (j - i)).count = j - i := Cells.part_count (by omega)
    by_cases hci : cap = i
    · rw [if_pos hci, show j - i = 0 by omega]
      have : (c.part i 0).count = 0 := Cells.part_count (by omega)
      exact .sl0 (by rw [Cells.len_eq, this, Nat.zero_mul]) this (fun e => by cases e)
    · rw [if_neg hci]
      have hblk : (ad.add (i * e)).block = ad.block := by unfold Addr.add; split <;> rfl
      have := RV.sl (B := F.B) (O := Own F s.me β) (w := w) (β := β) (fr := fr') (c := c.part i (j - i)) (a := ad.add (i * e)) (cap := cap - i) q1
        (fun j u hu => by rw [← hce]; exact drop_take_at hcc hu) (by rw [hblk]; exact hO) (by rw [hblk]; exact hbb) (fun e => by rw [hblk]; exact hf (hff e)) q2 (by rw [hpc]; omega) q3
      rw [hpc] at this
      exact this
  rcases hr with ⟨he, hrv⟩ | ⟨fr, c, he, hce, hrv⟩ | ⟨c, he, hce, hrv⟩ | ⟨k, off, he, hrv⟩
  · rw [he] at ex hl
    simp only [lenOf, Option.some.injEq] at hl
    subst hl
    cases ex
    obtain ⟨g1, g2, g3⟩ := run (ad := none) (cap := 0) rfl (by omega)
    have hi0 : i = 0 := by omega
    have hj0 : j = 0 := by omega
    subst hi0; subst hj0
    exact good_val h hd g1 hm (by rw [hrv]; exact .nil)
  · rw [he] at ex hl
    simp only [lenOf, Option.some.injEq] at hl
    generalize hcc2 : c.count = cc at ex
    cases ex with
    | sl hl2 hcc hO hbb hf h1 hcap hs' => exact ro (fr := fr) (fr' := fr) (by rw [hcc2]) hl hce hl2 hcc hO hbb (fun e => e) hf h1 (by omega) hs' hrv
    | sl0 h0 h0' hn =>
      rename_i ad cap
      obtain rfl : l = 0 := by omega
      obtain ⟨g1, g2, g3⟩ := run rfl (by omega)
      refine good_val h hd g1 hm ?_
      rw [hrv, show j - i = 0 by omega, show i = 0 by omega]
      have : (c.part 0 0).count = 0 := Cells.part_count (by omega)
      refine .sl0 (by rw [Cells.len_eq, this, Nat.zero_mul]) this (fun e => ?_)
      have hz : cap = 0 := hn (by split at e; exact e; simpa using e)
      omega
  · rw [he] at ex hl
    simp only [lenOf, Option.some.injEq] at hl
    generalize hcc2 : c.count = cc at ex
    cases ex with
    | sln0 h0 h0' =>
      rename_i ad cap
      obtain rfl : l = 0 := by omega
      obtain ⟨g1, g2, g3⟩ := run rfl (by omega)
      refine good_val h hd g1 hm ?_
      rw [hrv, show j - i = 0 by omega, show i = 0 by omega]
      have : (c.part 0 0).count = 0 := Cells.part_count (by omega)
      refine .sl0 (by rw [Cells.len_eq, this, Nat.zero_mul]) this (fun e => ?_)
      split at e <;> simp at e
    | sln hl2 hcc hO hbb h1 hcap hs' => exact ro (fr := false) (fr' := false) (by rw [hcc2]) hl hce hl2 hcc hO hbb (fun e => e) (fun e => by cases e) h1 (by omega) hs' hrv
  · rw [he] at ex
    cases ex with
    | own hb' hl' hc' ho' =>
      rename_i o' b sz cap
      obtain ⟨g1, g2, g3⟩ := run rfl hl'
      refine good_val h hd g1 hm ?_
      rw [hrv]
      by_cases hci : cap = i
      · rw [if_pos hci, hci]
        simp only [Nat.sub_self]
        exact .own hb' (by omega) (by simp; have : i * e = cap * e := by rw [hci]
                                      omega) (.inr rfl)
      · rw [if_neg hci]
        simp only [Option.map_some, add_cell]
        refine .own hb' (by omega) ?_ (.inl (by rcases ho' with h | h <;> omega))
        have : i * e + (cap - i) * e = cap * e := by rw [← Nat.add_mul]; congr 1; omega
        omega
    | ownnil hb' =>
      obtain ⟨g1, g2, g3⟩ := run rfl (by omega)
      have hi0 : i = 0 := by omega
      have hj0 : j = 0 := by omega
      subst hi0; subst hj0
      refine good_val h hd g1 hm ?_
      rw [hrv]
      simpa using RV.ownnil hb'

theorem good_slcStr (h : Rep nt F s β a w) (hd : ∀ t, o.dst = some t → t < nt) {t : Nat} {x : Operand} {x' : Opd} {lo hi : Option Operand} {lo' hi' : Option Opd} (ho : o.op = .slice t x lo hi none) (ht : P.underlying t = some .string)
    (hx : opdOk x x' = true) (hlo : optOk lo lo' = true) (hhi : optOk hi hi' = true) {l : List UInt8} (he : Vc.ev s.tm x' = .str l) {p : Prop} {i j : Nat} (hb : bnds s.tm lo' hi' l.length = some (p, i, j)) (hp : p) :
    Good P nt F s a w Q o (okv p (.str ((l.drop i).take (j - i)))) := by
  have ex := h.ev hx
  generalize hxe : a.eval x = vx at ex
  rw [he] at ex
  cases ex with
  | str =>
    rename_i b
    obtain ⟨h1, h2, h3⟩ := run_bnds (P := P) h hlo hhi (Nat.le_refl _) (isS := false) hb hp
    have hsz : b.data.toList.length = b.size := by simp
    rw [hsz] at h1
    refine good_val h hd (v := .string (b.extract i j)) ?_ rfl ?_
    · simp only [execOp, ho, hxe, Instr.sliceAt, Instr.slice, Sem.run_bind, run_underlying ht, Result.andThen_ok, Option.map_none, Option.isSome_none, Bool.false_eq_true, if_false, Sem.run_pure, h1]
    · have e : (b.data.toList.drop i).take (j - i) = (b.extract i j).data.toList := by
        simp [List.extract_eq_take_drop]
      show RV _ _ _ _ (.str ((b.data.toList.drop i).take (j - i))) _
      rw [e]; exact .str

theorem good_slcA (h : Rep nt F s β a w) (hd : ∀ t, o.dst = some t → t < nt) {t m e : Nat} {x : Operand} {x' : Opd} {lo hi : Option Operand} {lo' hi' : Option Opd} (ho : o.op = .slice t x lo hi none) (ht : tyAr P t m e = true)
    (hx : opdOk x x' = true) (hlo : optOk lo lo' = true) (hhi : optOk hi hi' = true) {k off : Nat} {c : Cells} (he : Vc.ev s.tm x' = .ptr k off) (hk : mget s.me k = some (some c)) {p : Prop} {i j : Nat} (hb : bnds s.tm lo' hi' m = some (p, i, j)) (hp : p)
    (hf : off + m * e ≤ c.len) {r : R} (hr : r.v = .own k (off + i * e) (j - i) e) (hm : r.mw = []) : Good P nt F s a w Q o r := by
  obtain ⟨el, ii, hu, hif, hs⟩ := tyAr_spec ht
  have ex := h.ev hx
  generalize hxe : a.eval x = vx at ex
  rw [he] at ex
  cases ex with
  | ptr hb' =>
    rename_i b sz
    obtain ⟨h1, h2, h3⟩ := run_bnds (P := P) h hlo hhi (Nat.le_refl _) (isS := false) hb hp
    have hbl := h.mr.bl k c hk
    rw [hb'] at hbl
    obtain ⟨cs, T, g1, g2, g3, g4, g5⟩ := hbl
    refine good_val h hd (v := .slice (some (if m = i then ⟨b, off, none⟩ else (⟨b, off, none⟩ : Addr).add (i * e))) (j - i) (m - i)) ?_ hm ?_
    · simp only [execOp, ho, hxe, Instr.sliceAt, Instr.sureAddr, Sem.run_bind, run_underlying hu, Result.andThen_ok, Option.map_none, h1, sizeOf, typeInfo, run_program, hif, Sem.run_pure, hs]
    · rw [hr]
      have hie : i * e + (m - i) * e = m * e := by rw [← Nat.add_mul]; congr 1; omega
      by_cases hmi : m = i
      · rw [if_pos hmi, hmi, Nat.sub_self]
        refine .own hb' (by omega) ?_ (.inr rfl)
        rw [hmi] at hf
        omega
      · rw [if_neg hmi, add_cell]
        exact .own hb' (by omega) (by omega) (.inl rfl)

theorem good_s2a_ro (h : Rep nt F s β a w) (hd : ∀ t, o.dst = some t → t < nt) {t m e : Nat} {x : Operand} {x' : Opd} (ho : o.op = .sliceToArrayPointer t x) (ht : tyAr P t m e = true) (hx : opdOk x x' = true)
    {c : Cells} (he : (∃ fr, Vc.ev s.tm x' = .sl fr c) ∨ Vc.ev s.tm x' = .sln c) (hp : m ≤ c.count) (h0 : 0 < m) {r : R} (hr : r.v = .ref c 0) (hm : r.mw = []) : Good P nt F s a w Q o r := by
  obtain ⟨el, ii, hu, hif, hs⟩ := tyAr_spec ht
  have ex := h.ev hx
  generalize hxe : a.eval x = vx at ex
  have fin : ∀ {ad : Addr} {cap : Nat}, vx = .slice (some ad) c.count cap → RV F.B (Own F s.me β) w β (.ref c 0) (.pointer (some (ad.add 0))) → Good P nt F s a w Q o r := by
    intro ad cap hv hrr
    have h00 : ad.add 0 = ad := by simp [Addr.add]
    rw [h00] at hrr
    refine good_val h hd (v := .pointer (some ad)) ?_ hm (by rw [hr]; exact hrr)
    have hn : ¬ (c.count < m) := by omega
    simp [execOp, ho, hxe, hv, Instr.arrayAt, run_underlying hu, hn]
  rcases he with ⟨fr, he⟩ | he
  · rw [he] at ex
    generalize hc2 : c.count = cc at *
    cases ex with
    | sl hl hc hO hb hf h1 hcap hs' => exact fin (by rw [hc2]) (.ref hl hc hO hb h1 hs')
    | sl0 h0 h0' => omega
  · rw [he] at ex
    generalize hc2 : c.count = cc at *
    cases ex with
    | sln0 h0 h0' => omega
    | sln hl hc hO hb h1 hcap hs' => exact fin (by rw [hc2]) (.ref hl hc hO hb h1 hs')
theorem good_s2a_own (h : Rep nt F s β a w) (hd : ∀ t, o.dst = some t → t < nt) {t m e : Nat} {x : Operand} {x' : Opd} (ho : o.op = .sliceToArrayPointer t x) (ht : tyAr P t m e = true) (hx : opdOk x x' = true)
    {k off l e' : Nat} (he : Vc.ev s.tm x' = .own k off l e') (hp : m ≤ l ∧ 0 < m) : Good P nt F s a w Q o (okv (m ≤ l ∧ 0 < m) (.ptr k off)) := by
  obtain ⟨el, ii, hu, hif, hs⟩ := tyAr_spec ht
  have ex := h.ev hx
  generalize hxe : a.eval x = vx at ex
  rw [he] at ex
  cases ex with
  | own hb hl hc ho' =>
    rename_i o' b sz cap
    have hoo : o' = off := by rcases ho' with h | h <;> omega
    subst hoo
    refine good_val h hd (v := .pointer (some ⟨b, o', none⟩)) ?_ rfl (.ptr hb)
    have hn : ¬ (l < m) := by omega
    simp [execOp, ho, hxe, Instr.arrayAt, run_underlying hu, hn]
  | ownnil hb => omega

theorem good_b2s (h : Rep nt F s β a w) (hd : ∀ t, o.dst = some t → t < nt) {t u el : Nat} {x : Operand} {x' : Opd} (ho : o.op = .convert t u x) (hs : P.underlying t = some (.slice el)) (he : P.underlying el = some (.int .u8)) (hu : P.underlying u = some .string)
    (hx : opdOk x x' = true) {p : Prop} {l : List UInt8} {ks : List Nat} (hc : content (mget s.me) .k8 (Vc.ev s.tm x') = some (p, .b8 l, ks)) (hp : p) (hns : ∀ q, Vc.ev s.tm x' ≠ .str q) {r : R} (hr : r.v = .str l) (hm : r.mw = []) : Good P nt F s a w Q o r := by
  obtain ⟨ad, cap, us, hv, hrd⟩ := content_rd h (h.ev hx) hc hp hns
  have hus : us = l.map fun b => .int .u8 (b.toNat : Int) := by
    refine bytes_str_eq l us hrd.len (fun j hj => ?_)
    have := hrd.rv j hj
    simp only [Cells.get] at this
    generalize us.getD j undef = v at this
    cases this
    rfl
  have hres : (Conv.bytesToString (.slice ad l.length cap)).run P w = .ok (.string ⟨l.toArray⟩) w := by
    rcases ad with _ | ad
    · rcases hrd.at_ with h0 | ⟨a', h0, _⟩
      · have : l = [] := List.eq_nil_of_length_eq_zero h0
        subst this
        rfl
      · cases h0
    · have hload : (loadCells ad l.length).run P w = .ok ((l.map fun b => (b.toNat : Int)).map (Value.int .u8)).toArray w := by
        have hlen : us.length = l.length := by rw [hus]; simp
        have h2 := run_loadCells_list (P := P) w ad us (by
          rcases hrd.at_ with h0 | ⟨a', h0, h1⟩
          · have : us = [] := List.eq_nil_of_length_eq_zero (by rw [hlen]; exact h0)
            subst this
            intro j u hj; simp at hj
          · cases h0; exact h1)
        rw [hlen] at h2
        rw [h2, hus]
        simp [Function.comp_def]
      have h3 := run_bytesToString (P := P) w ad l.length cap (l.map fun b => (b.toNat : Int)) hload
      rw [h3]
      congr 2
      have : ∀ (q : List UInt8) (b : ByteArray), (q.map fun b => (b.toNat : Int)).foldl (fun r n => r.push (UInt8.ofNat n.toNat)) b = ⟨b.data ++ q.toArray⟩ := by
        intro q
        induction q with
        | nil => intro b; simp
        | cons x q ih =>
          intro b
          simp only [List.map_cons, List.foldl_cons, ih]
          congr 1
          simp [ByteArray.push]
      rw [this]
      simp
  refine good_val h hd (v := .string ⟨l.toArray⟩) ?_ hm (by rw [hr]; have := RV.str (B := F.B) (O := Own F s.me β) (w := w) (β := β) (s := ⟨l.toArray⟩); simpa using this)
  have hcnt : (Cells.b8 l).count = l.length := rfl
  rw [hcnt] at hv
  simp [execOp, ho, hv, convert, run_underlying hs, run_underlying he, run_underlying hu, hres]
end
end Go.Vc

/-! Vc3n -/
set_option linter.unusedVariables false
set_option linter.unusedSimpArgs false
namespace Go.Vc

theorem un8_eq : ∀ {l : List AV} {xs : List UInt8}, un8 l = some xs → l = xs.map .u8
  | [], xs, h => by simp only [un8, Option.some.injEq] at h; subst h; rfl
  | v :: r, xs, h => by
    cases v <;> simp only [un8, reduceCtorEq, Option.map_eq_some_iff] at h
    obtain ⟨ys, h1, rfl⟩ := h
    rw [un8_eq h1]; rfl
theorem un32_eq : ∀ {l : List AV} {xs : List UInt32}, un32 l = some xs → l = xs.map .u32
  | [], xs, h => by simp only [un32, Option.some.injEq] at h; subst h; rfl
  | v :: r, xs, h => by
    cases v <;> simp only [un32, reduceCtorEq, Option.map_eq_some_iff] at h
    obtain ⟨ys, h1, rfl⟩ := h
    rw [un32_eq h1]; rfl
theorem un64_eq : ∀ {l : List AV} {xs : List UInt64}, un64 l = some xs → l = xs.map .u64
  | [], xs, h => by simp only [un64, Option.some.injEq] at h; subst h; rfl
  | v :: r, xs, h => by
    cases v <;> simp only [un64, reduceCtorEq, Option.map_eq_some_iff] at h
    obtain ⟨ys, h1, rfl⟩ := h
    rw [un64_eq h1]; rfl
theorem unN_eq : ∀ {l : List AV} {xs : List Nat}, unN l = some xs → l = xs.map .n
  | [], xs, h => by simp only [unN, Option.some.injEq] at h; subst h; rfl
  | v :: r, xs, h => by
    cases v <;> simp only [unN, reduceCtorEq, Option.map_eq_some_iff] at h
    obtain ⟨ys, h1, rfl⟩ := h
    rw [unN_eq h1]; rfl
theorem unS_eq : ∀ {l : List AV} {xs : List (List UInt8)}, unS l = some xs → l = xs.map .str
  | [], xs, h => by simp only [unS, Option.some.injEq] at h; subst h; rfl
  | v :: r, xs, h => by
    cases v <;> simp only [unS, reduceCtorEq, Option.map_eq_some_iff] at h
    obtain ⟨ys, h1, rfl⟩ := h
    rw [unS_eq h1]; rfl
theorem unR_eq {sz : Nat} : ∀ {l : List AV} {xs : List (List AV)}, unR sz l = some xs → l = xs.map (fun x => .agg (.gen x)) ∧ ∀ x ∈ xs, x.length = sz
  | [], xs, h => by simp only [unR, Option.some.injEq] at h; subst h; exact ⟨rfl, by simp⟩
  | v :: r, xs, h => by
    cases v
    case agg c =>
      cases c
      case gen x =>
        simp only [unR] at h
        split at h
        · simp only [Option.map_eq_some_iff] at h
          obtain ⟨ys, h1, rfl⟩ := h
          obtain ⟨e1, e2⟩ := unR_eq h1
          refine ⟨by rw [e1]; rfl, fun y hy => ?_⟩
          rcases List.mem_cons.1 hy with rfl | hy
          · assumption
          · exact e2 y hy
        · cases h
      all_goals (simp [unR] at h)
    all_goals (simp [unR] at h)

theorem getD_map_lt {α β : Type} (l : List α) (f : α → β) (j : Nat) (d : α) (d' : β) (h : j < l.length) : (l.map f).getD j d' = f (l.getD j d) := by
  simp [List.getD_eq_getElem?_getD, h]

/-- cells that are written out, of elements of one cell -/
theorem tyC_spec {kd : Kd} {l : List AV} {c : Cells} (h : tyC kd l = some c) (h1 : kd.esz = 1) (hk : ∀ sz, kd ≠ .kr sz) : c.len = l.length ∧ c.count = l.length ∧ c.esz = 1 ∧ ∀ j, j < l.length → c.get j = l.getD j .any := by
  cases kd <;> simp only [tyC, Option.map_eq_some_iff] at h
  case k8 => obtain ⟨xs, h, rfl⟩ := h; rw [un8_eq h]; exact ⟨by simp [Cells.len], by simp [Cells.count], rfl, fun j hj => by simp only [Cells.get]; rw [getD_map_lt _ _ _ 0 _ (by simpa using hj)]⟩
  case k32 => obtain ⟨xs, h, rfl⟩ := h; rw [un32_eq h]; exact ⟨by simp [Cells.len], by simp [Cells.count], rfl, fun j hj => by simp only [Cells.get]; rw [getD_map_lt _ _ _ 0 _ (by simpa using hj)]⟩
  case k64 => obtain ⟨xs, h, rfl⟩ := h; rw [un64_eq h]; exact ⟨by simp [Cells.len], by simp [Cells.count], rfl, fun j hj => by simp only [Cells.get]; rw [getD_map_lt _ _ _ 0 _ (by simpa using hj)]⟩
  case kn => obtain ⟨xs, h, rfl⟩ := h; rw [unN_eq h]; exact ⟨by simp [Cells.len], by simp [Cells.count], rfl, fun j hj => by simp only [Cells.get]; rw [getD_map_lt _ _ _ 0 _ (by simpa using hj)]⟩
  case ks => obtain ⟨xs, h, rfl⟩ := h; rw [unS_eq h]; exact ⟨by simp [Cells.len], by simp [Cells.count], rfl, fun j hj => by simp only [Cells.get]; rw [getD_map_lt _ _ _ [] _ (by simpa using hj)]⟩
  case kr sz => exact absurd rfl (hk sz)
  all_goals
    split at h
    · injection h with h; subst h; exact ⟨rfl, rfl, rfl, fun j hj => rfl⟩
    · cases h

theorem splice_get? {α : Type} (l l' : List α) (o j : Nat) (h : o + l'.length ≤ l.length) : (splice l o l')[j]? = if o ≤ j ∧ j < o + l'.length then l'[j - o]? else l[j]? := by
  unfold splice
  simp only [List.append_assoc, List.getElem?_append, List.length_take, List.getElem?_take, List.getElem?_drop]
  have hm : min o l.length = o := by omega
  rw [hm]
  by_cases h1 : j < o
  · rw [if_pos h1, if_pos h1, if_neg (by omega)]
  · rw [if_neg h1]
    by_cases h2 : j < o + l'.length
    · rw [if_pos (by omega), if_pos ⟨by omega, h2⟩]
    · rw [if_neg (by omega), if_neg (by omega)]
      congr 1; omega

/-- one part laid into cells -/
theorem foldl_set (off : Nat) : ∀ (vs : List Value) (i : Nat) (cells : Array Value), off + i + vs.length ≤ cells.size →
    ((vs.zipIdx i).foldl (fun cs (x : Value × Nat) => cs.setIfInBounds (off + x.2) x.1) cells) = (splice cells.toList (off + i) vs).toArray
  | [], i, cells, h => by simp [splice]
  | v :: r, i, cells, h => by
    simp only [List.zipIdx_cons, List.foldl_cons]
    simp only [List.length_cons] at h
    rw [foldl_set off r (i + 1) (cells.setIfInBounds (off + i) v) (by simp; omega)]
    congr 1
    apply List.ext_getElem?
    intro j
    rw [splice_get? _ _ _ _ (by simp; omega), splice_get? _ _ _ _ (by simp; omega)]
    simp only [Array.toList_setIfInBounds, List.getElem?_set, List.length_cons, Array.length_toList]
    by_cases h1 : off + i = j
    · rw [if_neg (by omega), if_pos h1, if_pos (by omega), if_pos (by omega), show j - (off + i) = 0 by omega]; rfl
    · rw [if_neg h1]
      by_cases h2 : off + (i + 1) ≤ j ∧ j < off + (i + 1) + r.length
      · rw [if_pos h2, if_pos (by omega), show j - (off + i) = (j - (off + (i + 1))) + 1 by omega, List.getElem?_cons_succ]
      · rw [if_neg h2, if_neg (by omega)]

theorem fill_step {place : Nat → Option (Nat × Nat)} {cells : Array Value} {i off size : Nat} {v : Value} {rest : List (Nat × Value)} (hp : place i = some (off, size)) (hs : v.cells.size = size) (hf : off + size ≤ cells.size) :
    Instr.fill place cells ((i, v) :: rest) = Instr.fill place (splice cells.toList off v.cells.toList).toArray rest := by
  have h := foldl_set off v.cells.toList 0 cells (by simp; omega)
  simp only [Nat.add_zero] at h
  rw [Instr.fill, hp]
  simp only [hs, ne_eq, not_true, decide_false, Bool.false_or, decide_eq_true_eq, show ¬ (off + size > cells.size) by omega, if_false]
  rw [← h, ← Array.foldl_toList, Array.toList_zipIdx, if_neg (by simp)]

theorem toL_get {c : Cells} (h : c.toL.length = c.len) {j : Nat} (hj : j < c.len) : c.toL.getD j .any = c.get j := by
  cases c <;> simp only [Cells.toL, Cells.get, Cells.len] at *
  case recs => simp only [List.length_nil] at h; omega
  all_goals first | rfl | (rw [getD_map_lt _ _ _ _ _ hj])

section
variable {P : Program} {nt : Nat} {F : Fr} {s : St} {β : Bt} {a : Act} {w : World} {o : Oper} {Q : Exit → Act → World → Prop}

/-- parts, and what they read as -/
inductive PartsOk (B : Nat) (O : Nat → Prop) (w : World) (β : Bt) (place : Nat → Option (Nat × Nat)) : List (Nat × Value) → List (Nat × Nat × AV) → Prop
  | nil : PartsOk B O w β place [] []
  | cons {i off n : Nat} {v : Value} {av : AV} {r r'} (hp : place i = some (off, n)) (hv : RV B O w β av v) (h : PartsOk B O w β place r r') : PartsOk B O w β place ((i, v) :: r) ((off, n, av) :: r')

theorem fill_rv {B : Nat} {O : Nat → Prop} {place : Nat → Option (Nat × Nat)} : ∀ {ps : List (Nat × Value)} {aps : List (Nat × Nat × AV)} {z l : List AV} {us : List Value}, PartsOk B O w β place ps aps → fillL z aps = some l → us.length = z.length → (∀ u ∈ us, u.oneCell' = true) →
    (∀ j, j < z.length → RV B O w β (z.getD j .any) (us.getD j undef)) →
    ∃ us' : List Value, Instr.fill place us.toArray ps = some us'.toArray ∧ us'.length = l.length ∧ l.length = z.length ∧ (∀ u ∈ us', u.oneCell' = true) ∧ ∀ j, j < l.length → RV B O w β (l.getD j .any) (us'.getD j undef) := by
  intro ps aps z l us h
  induction h generalizing z us with
  | nil =>
    intro hf hl h1 hrv
    simp only [fillL, Option.some.injEq] at hf
    subst hf
    exact ⟨us, rfl, hl, rfl, h1, hrv⟩
  | cons hp hv h ih =>
    rename_i i off n v av r r'
    intro hf hl h1 hrv
    by_cases hagg : ∃ c, av = .agg c
    · obtain ⟨c, rfl⟩ := hagg
      simp only [fillL] at hf
      split at hf
      · rename_i hc
        obtain ⟨rfl, hc2, hc3⟩ := hc
        cases hv with
        | agg ul u1 us' =>
          rename_i vs
          have hvs : (Value.agg vs.toArray).cells.size = c.len := by simp [Value.cells, ul]
          have hfit : off + vs.length ≤ us.length := by omega
          have hst := fill_step (rest := r) hp hvs (cells := us.toArray) (by simp; omega)
          have hcl : (Value.agg vs.toArray).cells.toList = vs := by simp [Value.cells]
          rw [hcl] at hst
          have hsz : (splice z off c.toL).length = z.length := length_splice _ _ _ (by omega)
          obtain ⟨us2, g1, g2, g3, g4, g5⟩ := ih hf (us := splice us off vs) (by rw [length_splice _ _ _ hfit, hsz, hl])
            (by
              intro u hu
              simp only [splice, List.append_assoc] at hu
              rcases List.mem_append.1 hu with q | q
              · exact h1 u (List.mem_of_mem_take q)
              · rcases List.mem_append.1 q with q | q
                · exact u1 u q
                · exact h1 u (List.mem_of_mem_drop q))
            (by
              intro j hj
              rw [hsz] at hj
              rw [getD_splice _ _ _ _ _ (by omega), getD_splice _ _ _ _ _ (by omega), hc2, ul]
              by_cases hj2 : off ≤ j ∧ j < off + c.len
              · rw [if_pos hj2, if_pos hj2, toL_get hc2 (by omega)]
                exact us' _ (by omega)
              · rw [if_neg hj2, if_neg hj2]; exact hrv j hj)
          exact ⟨us2, by rw [hst]; simpa using g1, g2, by omega, g4, g5⟩
      · cases hf
    · have hf' : (if n = 1 ∧ off < z.length ∧ av.one = true then fillL (z.set off av) r' else none) = some l := by
        cases av <;> first | exact hf | (exact absurd ⟨_, rfl⟩ hagg)
      split at hf'
      · rename_i hc
        obtain ⟨rfl, hc2, hc3⟩ := hc
        have o1 := hv.one hc3
        have hvs : v.cells.size = 1 := by rw [Value.cells_one o1]; rfl
        have hst := fill_step (rest := r) hp hvs (cells := us.toArray) (by simp; omega)
        rw [Value.cells_one o1] at hst
        have hfit : off + [v].length ≤ us.length := by simp; omega
        obtain ⟨us2, g1, g2, g3, g4, g5⟩ := ih hf' (us := splice us off [v]) (by rw [length_splice _ _ _ hfit, List.length_set, hl])
          (by
            intro u hu
            simp only [splice, List.append_assoc] at hu
            rcases List.mem_append.1 hu with q | q
            · exact h1 u (List.mem_of_mem_take q)
            · rcases List.mem_append.1 q with q | q
              · simp only [List.mem_singleton] at q; rw [q]; exact o1
              · exact h1 u (List.mem_of_mem_drop q))
          (by
            intro j hj
            rw [List.length_set] at hj
            rw [getD_splice _ _ _ _ _ hfit, getD_set _ _ _ _ _ hc2]
            by_cases hj2 : j = off
            · subst hj2
              rw [if_pos rfl, if_pos (by simp), Nat.sub_self]; exact hv
            · rw [if_neg hj2, if_neg (by simp; omega)]; exact hrv j hj)
        exact ⟨us2, by rw [hst]; simpa using g1, g2, by rw [g3, List.length_set], g4, g5⟩
      · cases hf'
end
end Go.Vc

/-! Vc3o -/
set_option linter.unusedVariables false
set_option linter.unusedSimpArgs false
namespace Go.Vc
section
variable {P : Program} {nt : Nat} {F : Fr} {s : St} {β : Bt} {a : Act} {w : World} {o : Oper} {Q : Exit → Act → World → Prop}

theorem run_mapM_list {α γ : Type} (f : α → Sem γ) (g : α → γ) : ∀ (l : List α), (∀ x ∈ l, (f x).run P w = .ok (g x) w) → (l.mapM f).run P w = .ok (l.map g) w
  | [], _ => by simp
  | x :: r, h => by
    rw [List.mapM_cons]
    simp only [Sem.run_bind, h x (List.mem_cons_self ..), Result.andThen_ok, run_mapM_list f g r (fun y hy => h y (List.mem_cons_of_mem _ hy)), Sem.run_pure, List.map_cons]
theorem run_mapM_array {α γ : Type} (f : α → Sem γ) (g : α → γ) (l : Array α) (h : ∀ x ∈ l, (f x).run P w = .ok (g x) w) : (l.mapM f).run P w = .ok (l.map g) w := by
  rw [Array.mapM_eq_mapM_toList]
  rw [Sem.run_map, run_mapM_list f g l.toList (fun x hx => h x (by simpa using hx)), Result.andThen_ok]
  congr 1
  apply Array.ext'
  simp

def sizeIs (P : Program) (t n : Nat) : Bool := (P.info? t).map (·.size) == some n
theorem sizeIs_run {t n : Nat} (h : sizeIs P t n = true) : (sizeOf t).run P w = .ok n w := by
  unfold sizeIs at h
  simp only [beq_iff_eq] at h
  cases hi : P.info? t with
  | none => simp [hi] at h
  | some i => simp [hi] at h; simp [sizeOf, typeInfo, hi, h]

/-- where the parts of a value of type t lie: a function of the part's number -/
def placeOf (P : Program) (t : Nat) (place : Nat → Option (Nat × Nat)) : Prop :=
  (∃ fs, P.underlying t = some (.struct fs) ∧ (∀ f ∈ fs, sizeIs P f.type (P.cellsOf f.type) = true) ∧ place = fun i => (fs[i]?).map fun f => (f.offset, P.cellsOf f.type)) ∨
  (∃ n el, P.underlying t = some (.array n el) ∧ sizeIs P el (P.cellsOf el) = true ∧ place = fun i => some (i * P.cellsOf el, P.cellsOf el))

theorem run_build {t : Nat} {place : Nat → Option (Nat × Nat)} (hpl : placeOf P t place) {z : Value} {i : TypeInfo} (hi : P.info? t = some i) (hz : i.zero = some z) {parts : Array (Nat × Value)} {us : List Value}
    (hf : Instr.fill place z.cells parts.toList = some us.toArray) : (Instr.build t parts).run P w = .ok (.agg us.toArray) w := by
  rcases hpl with ⟨fs, hu, hs, rfl⟩ | ⟨n, el, hu, hs, rfl⟩
  · have hm : (fs.mapM (fun (f : Field) => do pure (f.offset, ← sizeOf f.type) : Field → Sem (Nat × Nat))).run P w = .ok (fs.map fun f => (f.offset, P.cellsOf f.type)) w :=
      run_mapM_array _ _ fs (fun x hx => by simp [sizeIs_run (w := w) (hs x hx)])
    have hpp : (fun (x : Nat) => (fs.map fun (f : Field) => (f.offset, P.cellsOf f.type))[x]?) = fun i => (fs[i]?).map fun f => (f.offset, P.cellsOf f.type) := by
      funext x; simp
    simp only [Instr.build, Sem.run_bind, zeroValue, typeInfo, run_program, Result.andThen_ok, hi, hz, Sem.run_pure, run_underlying hu, hm, hpp, hf]
  · simp only [Instr.build, Sem.run_bind, zeroValue, typeInfo, run_program, Result.andThen_ok, hi, hz, Sem.run_pure, run_underlying hu, sizeIs_run (w := w) hs, hf]

/-- the operands of parts -/
def partsOk : List (Nat × Operand) → List (Nat × Nat × Opd) → (Nat → Option (Nat × Nat)) → Bool
  | [], [], _ => true
  | (i, x) :: r, (off, n, y) :: r', pl => opdOk x y && (pl i == some (off, n)) && partsOk r r' pl
  | _, _, _ => false
theorem partsOk_rv (h : Rep nt F s β a w) {place : Nat → Option (Nat × Nat)} : ∀ {ps : List (Nat × Operand)} {aps : List (Nat × Nat × Opd)}, partsOk ps aps place = true →
    PartsOk F.B (Own F s.me β) w β place (ps.map fun x => (x.1, a.eval x.2)) (aps.map fun x => (x.1, x.2.1, Vc.ev s.tm x.2.2))
  | [], [], _ => .nil
  | (i, x) :: r, (off, n, y) :: r', hp => by
    simp only [partsOk, Bool.and_eq_true, beq_iff_eq] at hp
    exact .cons hp.1.2 (h.ev hp.1.1) (partsOk_rv h hp.2)
  | [], _ :: _, hp => by simp [partsOk] at hp
  | _ :: _, [], hp => by simp [partsOk] at hp

theorem good_bldz (h : Rep nt F s β a w) (hd : ∀ t, o.dst = some t → t < nt) {t : Nat} {parts : Array (Nat × Operand)} (ho : o.op = .build t parts) {kd : Kd} (hk1 : kd.esz = 1) (hk : ∀ sz, kd ≠ .kr sz) {z : List AV} {aps : List (Nat × Nat × Opd)}
    {place : Nat → Option (Nat × Nat)} (hpl : placeOf P t place) (hpo : partsOk parts.toList aps place = true) {zv : Value} {i : TypeInfo} (hi : P.info? t = some i) (hz : i.zero = some zv) (hzl : zv.cells.size = z.length)
    (hzc : ∀ j, j < z.length → constOk (zv.cells.toList.getD j undef) (z.getD j .any) = true) (hz1 : ∀ u ∈ zv.cells.toList, u.oneCell' = true) {l : List AV} {c : Cells}
    (hf : fillL z (aps.map fun x => (x.1, x.2.1, Vc.ev s.tm x.2.2)) = some l) (hc : tyC kd l = some c) : Good P nt F s a w Q o (okv True (.agg c)) := by
  obtain ⟨us, g1, g2, g3, g4, g5⟩ := fill_rv (partsOk_rv h hpo) hf (us := zv.cells.toList) (by simp [hzl]) hz1 (fun j hj => constOk_rv (hzc j hj))
  obtain ⟨c1, c2, c3, c4⟩ := tyC_spec hc hk1 hk
  refine good_val h hd (v := .agg us.toArray) ?_ rfl (.agg (by omega) g4 (fun j hj => by rw [c4 j (by omega)]; exact g5 j (by omega)))
  have hb := run_build (w := w) hpl hi hz (parts := parts.map fun x => (x.1, a.eval x.2)) (us := us) (by
    have : (parts.map fun x => (x.1, a.eval x.2)).toList = parts.toList.map fun x => (x.1, a.eval x.2) := by simp
    rw [this]
    simpa using g1)
  simp [execOp, ho, hb]

/-- all parts of one cell, one behind another, fill what is there -/
theorem fillL_full : ∀ (vs pre : List AV), (∀ v ∈ vs, v.one = true) → fillL (pre ++ List.replicate vs.length AV.any) (vs.mapIdx fun j v => (pre.length + j, 1, v)) = some (pre ++ vs)
  | [], pre, _ => by simp [fillL]
  | v :: r, pre, h => by
    have h1 := h v (List.mem_cons_self ..)
    have hne : ∀ c, v ≠ .agg c := by rintro c rfl; simp [AV.one] at h1
    have e : fillL (pre ++ List.replicate (r.length + 1) AV.any) ((pre.length + 0, 1, v) :: (r.mapIdx fun j v => (pre.length + (j + 1), 1, v))) =
        if 1 = 1 ∧ pre.length < (pre ++ List.replicate (r.length + 1) AV.any).length ∧ v.one = true then fillL ((pre ++ List.replicate (r.length + 1) AV.any).set pre.length v) (r.mapIdx fun j v => (pre.length + (j + 1), 1, v)) else none := by
      cases v <;> first | rfl | (exact absurd rfl (hne _))
    rw [List.mapIdx_cons, List.length_cons, e, if_pos ⟨rfl, by simp, h1⟩]
    have e2 : (pre ++ List.replicate (r.length + 1) AV.any).set pre.length v = (pre ++ [v]) ++ List.replicate r.length AV.any := by
      rw [List.set_append_right _ _ (Nat.le_refl _), Nat.sub_self, List.replicate_succ]; simp
    rw [e2]
    have ih := fillL_full r (pre ++ [v]) (fun u hu => h u (List.mem_cons_of_mem _ hu))
    simp only [List.length_append, List.length_singleton, List.append_assoc, List.singleton_append] at ih
    simpa [Nat.add_assoc, Nat.add_comm 1] using ih

/-- parts of one cell, in order, all of them -/
def fullOk : Nat → List (Nat × Operand) → List Opd → Bool
  | _, [], [] => true
  | k, (i, x) :: r, y :: r' => (i == k) && opdOk x y && fullOk (k + 1) r r'
  | _, _, _ => false
theorem fullOk_rv (h : Rep nt F s β a w) {place : Nat → Option (Nat × Nat)} : ∀ {ps : List (Nat × Operand)} {xs : List Opd} {k : Nat}, fullOk k ps xs = true → (∀ j, place j = some (j, 1)) →
    PartsOk F.B (Own F s.me β) w β place (ps.map fun x => (x.1, a.eval x.2)) ((xs.map (Vc.ev s.tm)).mapIdx fun j v => (k + j, 1, v))
  | [], [], _, _, _ => .nil
  | (i, x) :: r, y :: r', k, hp, hpl => by
    simp only [fullOk, Bool.and_eq_true, beq_iff_eq] at hp
    obtain ⟨⟨rfl, h2⟩, h3⟩ := hp
    simp only [List.map_cons, List.mapIdx_cons, Nat.add_zero]
    have ih := fullOk_rv h (place := place) h3 hpl
    refine .cons (hpl i) (h.ev h2) ?_
    have e : (fun (j : Nat) (v : AV) => (i + (j + 1), 1, v)) = fun j v => (i + 1 + j, 1, v) := by funext j v; congr 1; omega
    rw [e]; exact ih
  | [], _ :: _, _, hp, _ => by simp [fullOk] at hp
  | _ :: _, [], _, hp, _ => by simp [fullOk] at hp
theorem fullOk_len : ∀ {ps : List (Nat × Operand)} {xs : List Opd} {k : Nat}, fullOk k ps xs = true → ps.length = xs.length
  | [], [], _, _ => rfl
  | (i, x) :: r, y :: r', k, hp => by
    simp only [fullOk, Bool.and_eq_true, beq_iff_eq] at hp
    simp [fullOk_len hp.2]
  | [], _ :: _, _, hp => by simp [fullOk] at hp
  | _ :: _, [], _, hp => by simp [fullOk] at hp

theorem tyC_one {kd : Kd} {l : List AV} {c : Cells} (h : tyC kd l = some c) (hk : ∀ sz, kd ≠ .kr sz) : ∀ v ∈ l, v.one = true := by
  cases kd <;> simp only [tyC, Option.map_eq_some_iff] at h
  case k8 => obtain ⟨xs, h, rfl⟩ := h; rw [un8_eq h]; intro v hv; obtain ⟨x, _, rfl⟩ := List.mem_map.1 hv; rfl
  case k32 => obtain ⟨xs, h, rfl⟩ := h; rw [un32_eq h]; intro v hv; obtain ⟨x, _, rfl⟩ := List.mem_map.1 hv; rfl
  case k64 => obtain ⟨xs, h, rfl⟩ := h; rw [un64_eq h]; intro v hv; obtain ⟨x, _, rfl⟩ := List.mem_map.1 hv; rfl
  case kn => obtain ⟨xs, h, rfl⟩ := h; rw [unN_eq h]; intro v hv; obtain ⟨x, _, rfl⟩ := List.mem_map.1 hv; rfl
  case ks => obtain ⟨xs, h, rfl⟩ := h; rw [unS_eq h]; intro v hv; obtain ⟨x, _, rfl⟩ := List.mem_map.1 hv; rfl
  case kr sz => exact absurd rfl (hk sz)
  all_goals
    split at h
    · rename_i hq; exact List.all_eq_true.1 hq
    · cases h

/-- all parts, of one cell each, laid into cells -/
theorem fill_full (h : Rep nt F s β a w) {place : Nat → Option (Nat × Nat)} (hpl : ∀ j, place j = some (j, 1)) {ps : List (Nat × Operand)} {xs : List Opd} (hp : fullOk 0 ps xs = true) {kd : Kd} (hk1 : kd.esz = 1) (hk : ∀ sz, kd ≠ .kr sz) {c : Cells}
    (hc : tyC kd (xs.map (Vc.ev s.tm)) = some c) {zs : List Value} (hz : zs.length = xs.length) (hz1 : ∀ u ∈ zs, u.oneCell' = true) :
    ∃ us : List Value, Instr.fill place zs.toArray (ps.map fun x => (x.1, a.eval x.2)) = some us.toArray ∧ us.length = c.len ∧ c.count = xs.length ∧ c.len = xs.length ∧ c.esz = 1 ∧ (∀ u ∈ us, u.oneCell' = true) ∧ ∀ j, j < c.len → RV F.B (Own F s.me β) w β (c.get j) (us.getD j undef) := by
  obtain ⟨c1, c2, c3, c4⟩ := tyC_spec hc hk1 hk
  have h1 := tyC_one hc hk
  have hf := fillL_full (xs.map (Vc.ev s.tm)) [] h1
  simp only [List.nil_append, List.length_nil] at hf
  obtain ⟨us, g1, g2, g3, g4, g5⟩ := fill_rv (fullOk_rv h hp hpl) hf (us := zs) (by simp [hz]) hz1 (fun j hj => by
      have : (List.replicate (xs.map (Vc.ev s.tm)).length AV.any).getD j .any = .any := by
        simp [List.getD_eq_getElem?_getD, List.getElem?_replicate]; split <;> rfl
      rw [this]; exact .any)
  simp only [List.length_map] at *
  exact ⟨us, g1, by omega, c2, c1, c3, g4, fun j hj => by rw [c4 j (by omega)]; exact g5 j (by omega)⟩

theorem good_bld (h : Rep nt F s β a w) (hd : ∀ t, o.dst = some t → t < nt) {t n el : Nat} {parts : Array (Nat × Operand)} (ho : o.op = .build t parts) (hu : P.underlying t = some (.array n el)) (hes : sizeIs P el 1 = true) {kd : Kd} (hk1 : kd.esz = 1) (hk : ∀ sz, kd ≠ .kr sz) {xs : List Opd}
    (hpo : fullOk 0 parts.toList xs = true) {zv : Value} {i : TypeInfo} (hi : P.info? t = some i) (hz : i.zero = some zv) (hzl : zv.cells.size = xs.length) (hz1 : ∀ u ∈ zv.cells.toList, u.oneCell' = true) {c : Cells}
    (hc : tyC kd (xs.map (Vc.ev s.tm)) = some c) : Good P nt F s a w Q o (okv True (.agg c)) := by
  have hcs : P.cellsOf el = 1 := by
    unfold sizeIs at hes; simp only [beq_iff_eq] at hes
    simp [Program.cellsOf, hes]
  obtain ⟨us, g1, g2, g3, g4, g5, g6, g7⟩ := fill_full h (place := fun i => some (i * P.cellsOf el, P.cellsOf el)) (fun j => by simp [hcs]) hpo hk1 hk hc (zs := zv.cells.toList) (by simp [hzl]) hz1
  refine good_val h hd (v := .agg us.toArray) ?_ rfl (.agg g2 g6 g7)
  have hb := run_build (w := w) (.inr ⟨n, el, hu, by rw [hcs]; exact hes, rfl⟩) hi hz (parts := parts.map fun x => (x.1, a.eval x.2)) (us := us) (by
    have : (parts.map fun x => (x.1, a.eval x.2)).toList = parts.toList.map fun x => (x.1, a.eval x.2) := by simp
    rw [this]
    simpa using g1)
  simp [execOp, ho, hb]

theorem made_one {z : Array Value} {n : Nat} (hn : n = 0 ∨ 0 < z.size) (h : ∀ u ∈ z.toList, u.oneCell' = true) : ∀ u ∈ (madeCells z n).toList, u.oneCell' = true := by
  intro u hu
  simp only [madeCells, Array.toList_map, List.mem_map] at hu
  obtain ⟨i, hi, rfl⟩ := hu
  simp only [Array.toList_range, List.mem_range] at hi
  have hz : 0 < z.size := by omega
  have hlt : i % z.size < z.size := Nat.mod_lt _ hz
  rw [getElem!_pos z _ hlt]
  exact h _ (Array.getElem_mem_toList hlt)

theorem good_bsl (h : Rep nt F s β a w) (hd : ∀ t, o.dst = some t → t < nt) {t n el : Nat} {parts : Array (Nat × Operand)} (ho : o.op = .buildSlice t n parts) (hu : P.underlying t = some (.slice el)) {i : TypeInfo} (hi : P.info? el = some i) (hs1 : i.size = 1) {kd : Kd} (hk1 : kd.esz = 1) (hk : ∀ sz, kd ≠ .kr sz) {xs : List Opd}
    (hn : n = xs.length) (hbig : n ≤ 16777216) (hpo : fullOk 0 parts.toList xs = true) {zv : Value} (hz : i.zero = some zv) (hzl : zv.cells.size = 1) (hz1 : ∀ u ∈ zv.cells.toList, u.oneCell' = true) {c : Cells}
    (hc : tyC kd (xs.map (Vc.ev s.tm)) = some c) {d : Nat} (hdk : mget s.me d = none) {r : R} (hr : r.v = .own d 0 xs.length 1) (hm : r.mw = [(d, some c)]) : Good P nt F s a w Q o r := by
  obtain ⟨us, g1, g2, g3, g4, g5, g6, g7⟩ := fill_full h (place := fun i => some (i * 1, 1)) (fun j => by simp) hpo hk1 hk hc (zs := (madeCells zv.cells n).toList) (by simp [size_madeCells, hn]) (made_one (by omega) hz1)
  have hmade : (Array.range (n * 1)).map (zv.cells[· % zv.cells.size]!) = madeCells zv.cells n := by simp [madeCells]
  have hrun : (execOp a.eval o).run P w = .ok (.value (.slice (some ⟨w.heap.size, 0, none⟩) n n)) (w.alloc (.cells us.toArray el)) := by
    have hpl : (parts.map fun x => (x.1, a.eval x.2)).toList = parts.toList.map fun x => (x.1, a.eval x.2) := by simp
    have hnb : ¬ (16777216 < n) := by omega
    by_cases hn0 : n = 0
    · subst hn0
      have hxs : xs = [] := List.eq_nil_of_length_eq_zero hn.symm
      subst hxs
      have hps := fullOk_len hpo
      have hp0 : parts = #[] := by apply Array.ext'; exact List.eq_nil_of_length_eq_zero hps
      subst hp0
      have hu0 : us = [] := List.eq_nil_of_length_eq_zero (by rw [g2, g4]; rfl)
      subst hu0
      simp [execOp, ho, Instr.buildSlice, run_underlying hu, sizeOf, typeInfo, hi, hs1, Instr.fill, newRow, Array.range_zero']
    · have hcond : ¬ (n * 1 > 2 ^ 24) := by omega
      have hcond0 : ¬ (n * 1 = 0) := by omega
      have hfl : Instr.fill (fun i => some (i * 1, 1)) ((Array.range (n * 1)).map (zv.cells[· % zv.cells.size]!)) (parts.map fun x => (x.1, a.eval x.2)).toList = some us.toArray := by
        rw [hmade, hpl]; simpa using g1
      simp only [execOp, ho, Instr.buildSlice, Sem.run_bind, run_underlying hu, Result.andThen_ok, sizeOf, typeInfo, run_program, hi, hs1, Sem.run_pure, zeroValue, hz, hcond, if_false, hcond0, Sem.run_ite, hfl, newRow, run_newObj]
      rfl
  refine good_new h hd (.inl rfl) hrun hdk (by omega) g6 g7 ?_ hm
  rw [hr, hn]
  exact .own (b := w.heap.size) (sz := us.length) (by simp [upd]) (Nat.le_refl _) (by omega) (.inl rfl)
end
end Go.Vc

/-! Vc3p -/
set_option linter.unusedVariables false
set_option linter.unusedSimpArgs false
namespace Go.Vc
section
variable {P : Program} {nt : Nat} {F : Fr} {s : St} {β : Bt} {a : Act} {w : World} {o : Oper} {Q : Exit → Act → World → Prop}

theorem getD_replicate {α : Type} (n j : Nat) (x d : α) (h : j < n) : (List.replicate n x).getD j d = x := by
  simp [List.getD_eq_getElem?_getD, List.getElem?_replicate, h]

/-- an element's noughts -/
def zeroOk (kd : Kd) (z : List AV) (zv : Value) : Bool :=
  (zv.cells.size == kd.esz) && (0 < kd.esz) && (match kd with | .kr sz => z.length == sz | .kg => z.length == 1 | _ => true) &&
  (List.range kd.esz).all fun j => constOk (zv.cells.toList.getD j undef) ((zeroC z 1 kd).get j)

theorem zeroC_spec {kd : Kd} {z : List AV} {zv : Value} (h : zeroOk kd z zv = true) (m : Nat) : (zeroC z m kd).count = m ∧ (zeroC z m kd).esz = kd.esz ∧ (zeroC z m kd).len = m * kd.esz ∧ zv.cells.size = kd.esz ∧ 0 < kd.esz ∧
    ∀ B O w β j, j < m * kd.esz → RV B O w β ((zeroC z m kd).get j) (zv.cells.toList.getD (j % kd.esz) undef) := by
  unfold zeroOk at h
  simp only [Bool.and_eq_true, beq_iff_eq, decide_eq_true_eq, List.all_eq_true, List.mem_range] at h
  obtain ⟨⟨⟨h1, h2⟩, h3⟩, h4⟩ := h
  have hc : (zeroC z m kd).count = m := by cases kd <;> simp [zeroC, Cells.count]
  have he : (zeroC z m kd).esz = kd.esz := by cases kd <;> rfl
  refine ⟨hc, he, by rw [Cells.len_eq, hc, he], h1, h2, fun B O w β j hj => ?_⟩
  have hlt : j % kd.esz < kd.esz := Nat.mod_lt _ h2
  have hget : (zeroC z m kd).get j = (zeroC z 1 kd).get (j % kd.esz) := by
    cases kd with
    | kr sz =>
      simp only [Kd.esz] at *
      simp only [zeroC, Cells.get]
      rw [getD_replicate _ _ _ _ ((Nat.div_lt_iff_lt_mul h2).2 hj), getD_replicate _ _ _ _ ((Nat.div_lt_iff_lt_mul h2).2 (by omega)), Nat.mod_mod]
    | _ =>
      simp only [Kd.esz] at *
      simp only [zeroC, Cells.get]
      rw [getD_replicate _ _ _ _ (by omega), getD_replicate _ _ _ _ (by omega)]
  rw [hget]
  exact constOk_rv (h4 _ hlt)

theorem getD_zeroCells {z : Value} {n j : Nat} (h : j < n * z.cells.size) (h0 : 0 < z.cells.size) : (Builtin.zeroCells z.cells n).toList.getD j undef = z.cells.toList.getD (j % z.cells.size) undef := by
  have hlt : j % z.cells.size < z.cells.size := Nat.mod_lt _ h0
  simp only [Builtin.zeroCells, Array.toList_map, Array.toList_range, List.getD_eq_getElem?_getD, List.getElem?_map, List.getElem?_range h, Option.map_some, Option.getD_some]
  rw [getElem!_pos z.cells _ hlt]
  simp [hlt]
theorem getD_madeCells {z : Array Value} {n j : Nat} (h : j < n) (h0 : 0 < z.size) : (madeCells z n).toList.getD j undef = z.toList.getD (j % z.size) undef := by
  have hlt : j % z.size < z.size := Nat.mod_lt _ h0
  simp only [madeCells, Array.toList_map, Array.toList_range, List.getD_eq_getElem?_getD, List.getElem?_map, List.getElem?_range h, Option.map_some, Option.getD_some]
  rw [getElem!_pos z _ hlt]
  simp [hlt]

theorem good_mk (h : Rep nt F s β a w) (hd : ∀ t, o.dst = some t → t < nt) {t el : Nat} {x y : Operand} {x' y' : Opd} (ho : o.op = .makeSlice t x y) (hu : P.underlying t = some (.slice el)) {i : TypeInfo} (hi : P.info? el = some i) {zv : Value} (hz : i.zero = some zv)
    {kd : Kd} {z : List AV} (hzo : zeroOk kd z zv = true) (hs : i.size = kd.esz) (hz1 : ∀ u ∈ zv.cells.toList, u.oneCell' = true) (hx : opdOk x x' = true) (hy : opdOk y y' = true) {p q : Prop} {l c : Nat}
    (hl : ixN (Vc.ev s.tm x') = some (p, l)) (hc : ixN (Vc.ev s.tm y') = some (q, c)) (hp : p) (hq : q) (hlc : l ≤ c) (hc63 : c < 9223372036854775808) (hby : c * i.bytes ≤ 140737488355328) {d : Nat} (hdk : mget s.me d = none)
    {r : R} (hr : r.v = .own d 0 l kd.esz) (hm : r.mw = [(d, some (zeroC z c kd))]) : Good P nt F s a w Q o r := by
  obtain ⟨k1, e1⟩ := ixN_rv hl (h.ev hx) hp
  obtain ⟨k2, e2⟩ := ixN_rv hc (h.ev hy) hq
  obtain ⟨z1, z2, z3, z4, z5, z6⟩ := zeroC_spec hzo c
  have hby' : (i.bytes : Int) * (c : Int) ≤ 281474976710656 := by
    rw [← Int.natCast_mul, Nat.mul_comm]
    omega
  have hmk := run_make (P := P) w t el i zv hu hi hz k1 k2 (l : Int) (c : Int) (by omega) (by omega) hby' (by omega)
  simp only [Int.toNat_natCast] at hmk
  have hsz : (madeCells zv.cells (c * i.size)).toList.length = c * i.size := by simp [size_madeCells]
  refine good_new h hd (.inl rfl) (us := (madeCells zv.cells (c * i.size)).toList) (T := el) (v := .slice (some ⟨w.heap.size, 0, none⟩) l c) ?_ hdk (by rw [hsz, z3, hs]; exact Nat.le_refl _) (made_one (.inr (by omega)) hz1) (fun j hj => ?_) ?_ hm
  · simp [execOp, ho, e1, e2, hmk]
  · rw [z3] at hj
    rw [getD_madeCells (by rw [hs]; exact hj) (by omega), z4]
    exact z6 _ _ _ _ _ hj
  · rw [hr, hsz, hs]
    exact .own (b := w.heap.size) (sz := c * kd.esz) (by simp [upd]) hlc (by omega) (.inl rfl)

/-- the kind's elements are the type's -/
def kdOk (P : Program) (t : Nat) (kd : Kd) (z : List AV) (by_ : Nat) : Bool :=
  match P.underlying t with
  | some (.slice el) => match P.info? el with
    | some i => i.size == kd.esz && i.bytes == by_ && (match i.zero with | some zv => zeroOk kd z zv && zv.cells.toList.all (·.oneCell') | none => false)
    | none => false
  | _ => false
theorem kdOk_spec {t : Nat} {kd : Kd} {z : List AV} {by_ : Nat} (h : kdOk P t kd z by_ = true) : ∃ el i zv, P.underlying t = some (.slice el) ∧ P.info? el = some i ∧ i.size = kd.esz ∧ i.bytes = by_ ∧ i.zero = some zv ∧ zeroOk kd z zv = true ∧ (∀ u ∈ zv.cells.toList, u.oneCell' = true) := by
  unfold kdOk at h
  split at h
  · rename_i el hu
    split at h
    · rename_i i hi
      simp only [Bool.and_eq_true, beq_iff_eq] at h
      cases hz : i.zero with
      | none => simp [hz] at h
      | some zv =>
        simp only [hz, Bool.and_eq_true, List.all_eq_true] at h
        exact ⟨el, i, zv, hu, hi, h.1.1, h.1.2, hz, h.2.1, h.2.2⟩
    · simp at h
  · simp at h

theorem Kd.nil_spec (kd : Kd) : kd.nil.count = 0 ∧ kd.nil.len = 0 ∧ kd.nil.esz = kd.esz := by cases kd <;> simp [Kd.nil, Cells.count, Cells.len, Cells.esz, Kd.esz]

/-- append, as core has it: what comes is given by its cells -/
theorem good_appR (h : Rep nt F s β a w) (hd : ∀ t, o.dst = some t → t < nt) {t u : Nat} {x y : Operand} {x' : Opd} (ho : o.op = .call { callee := .builtin .append, args := #[x, y], argTypes := #[t, u] }) {kd : Kd} {z : List AV} {by_ : Nat} (hk : kdOk P t kd z by_ = true)
    (hx : opdOk x x' = true) {p : Prop} {cn : Cells} {ks : List Nat} {us : List Value} (hs : ∀ i zv el, P.underlying t = some (.slice el) → P.info? el = some i → i.zero = some zv → cn.esz = kd.esz → Src P w t u i zv (a.eval y) cn.count us) (hcl : cn.esz = kd.esz → us.length = cn.len) (h1 : ∀ v ∈ us, v.oneCell' = true)
    (hrv : ∀ j, j < cn.len → RV F.B (Own F s.me β) w β (cn.get j) (us.getD j undef)) {d : Nat} (hp : (appR (mget s.me) d kd by_ (Vc.ev s.tm x') (some (p, cn, ks))).pre)
    {r : R} (hr : r.v = (appR (mget s.me) d kd by_ (Vc.ev s.tm x') (some (p, cn, ks))).v) (hm : r.mw = (appR (mget s.me) d kd by_ (Vc.ev s.tm x') (some (p, cn, ks))).mw) : Good P nt F s a w Q o r := by
  obtain ⟨el, i, zv, e1, e2, e3, e4, e5, e6, e7⟩ := kdOk_spec hk
  obtain ⟨z1, z2, z3, z4, z5, z6⟩ := zeroC_spec e6 0
  obtain ⟨n1, n2, n3⟩ := Kd.nil_spec kd
  have ex := h.ev hx
  simp only [appR] at hp hr hm
  cases hev : Vc.ev s.tm x' <;> simp only [hev] at hp hr hm <;> try exact hp.elim
  case nil =>
    rw [hev] at ex
    cases hap : kd.nil.app cn with
    | none => simp only [hap] at hp; exact hp.elim
    | some c =>
      simp only [hap] at hp hr hm
      obtain ⟨hp1, hp2, hp3, hp4⟩ := hp
      have hae : a.eval x = .slice none 0 0 := by generalize a.eval x = vx at ex; cases ex; rfl
      obtain ⟨_, q2, _⟩ := Cells.app_spec hap (by rw [n3, hp4]) (by rw [n3]; exact z5)
      have hp0 : kd.nil.part 0 0 = kd.nil := by cases kd <;> rfl
      rw [n1, Nat.zero_add] at q2
      exact good_app h hd ho e1 e2 e5 (by omega) e7 (by omega) (hs i zv el e1 e2 e5 hp4) rfl (by omega) (hcl hp4) h1 hrv (d := d) (l := 0) (c0 := kd.nil) (c := c) hp2 (by omega) (by rw [hp0]; exact hap) (by omega)
        (by rw [← q2]; have := hp3.1; omega) (by rw [← q2, e4, Nat.zero_add]; exact hp3.2) (by rw [hr, e3]) (.inl ⟨hae, rfl, hm⟩)
  case own k off l e =>
    rw [hev] at ex
    cases hk0 : mget s.me k with
    | none => simp only [hk0] at hp; exact hp.elim
    | some y0 =>
      cases y0 with
      | none => simp only [hk0] at hp; exact hp.elim
      | some c0 =>
        simp only [hk0] at hp hr hm
        cases hap : (c0.part 0 l).app cn with
        | none => simp only [hap] at hp; exact hp.elim
        | some c =>
          simp only [hap] at hp hr hm
          obtain ⟨hp1, hp2, hp3, hp4, hp5, hp6, hp7, hp8⟩ := hp
          subst hp3
          subst hp4
          obtain ⟨_, q2, _⟩ := Cells.app_spec hap (by rw [Cells.part_esz, hp7, hp8]) (by rw [Cells.part_esz, hp7]; exact z5)
          rw [Cells.part_count (by omega)] at q2
          exact good_app h hd ho e1 e2 e5 (by omega) e7 (by omega) (hs i zv el e1 e2 e5 hp8) rfl (by omega) (hcl hp8) h1 hrv (d := d) (l := l) (c0 := c0) (c := c) hp2 (by omega) hap hp5
            (by rw [← q2]; have := hp6.1; omega) (by rw [← q2, e4]; exact hp6.2) (by rw [hr, e3]) (.inr ⟨k, hk0, by rw [e3]; exact ex, hm⟩)

theorem good_appS (h : Rep nt F s β a w) (hd : ∀ t, o.dst = some t → t < nt) {t : Nat} {x y : Operand} {x' y' : Opd} (ho : o.op = .call { callee := .builtin .append, args := #[x, y], argTypes := #[t, t] }) {kd : Kd} {z : List AV} {by_ : Nat} (hk : kdOk P t kd z by_ = true)
    (hx : opdOk x x' = true) (hy : opdOk y y' = true) (hns : ∀ q, Vc.ev s.tm y' ≠ .str q) {d : Nat} {r : R} (hrr : r = appR (mget s.me) d kd by_ (Vc.ev s.tm x') (content (mget s.me) kd (Vc.ev s.tm y'))) (hp : r.pre) : Good P nt F s a w Q o r := by
  subst hrr
  cases hc : content (mget s.me) kd (Vc.ev s.tm y') with
  | none => rw [hc] at hp; exact hp.elim
  | some c3 =>
    obtain ⟨p, cn, ks⟩ := c3
    rw [hc] at hp
    have hpp : p := by
      simp only [appR] at hp
      revert hp
      cases Vc.ev s.tm x' <;> intro hp <;> try exact hp.elim
      case nil =>
        cases hap : kd.nil.app cn with
        | none => simp only [hap] at hp; exact hp.elim
        | some c => simp only [hap] at hp; exact hp.1
      case own k off l e =>
        cases hk0 : mget s.me k with
        | none => simp only [hk0] at hp; exact hp.elim
        | some y0 =>
          cases y0 with
          | none => simp only [hk0] at hp; exact hp.elim
          | some c0 =>
            simp only [hk0] at hp
            cases hap : (c0.part 0 l).app cn with
            | none => simp only [hap] at hp; exact hp.elim
            | some c => simp only [hap] at hp; exact hp.1
    obtain ⟨ad, cap, us, hv, hrd⟩ := content_rd h (h.ev hy) hc hpp hns
    refine good_appR h hd ho hk hx (fun i zv el e1 e2 e3 e4 => ?_) (fun _ => hrd.len) hrd.one hrd.rv hp rfl rfl
    obtain ⟨el', i', zv', f1, f2, f3, f4, f5, f6, f7⟩ := kdOk_spec hk
    rw [e1] at f1
    cases f1
    rw [e2] at f2
    cases f2
    rw [hv]
    refine .sl rfl (by rw [hrd.len, Cells.len_eq, e4, f3]) ?_
    rcases hrd.at_ with h0 | h0
    · left; exact List.eq_nil_of_length_eq_zero (by rw [hrd.len]; exact h0)
    · exact .inr h0

theorem good_appz (h : Rep nt F s β a w) (hd : ∀ t, o.dst = some t → t < nt) {t u : Nat} {k : IntKind} {x y : Operand} {x' y' : Opd} (ho : o.op = .call { callee := .builtin .append, args := #[x, y], argTypes := #[t, u] }) (hu : P.underlying u = some (.int k)) {kd : Kd} {z : List AV} {by_ : Nat} (hk : kdOk P t kd z by_ = true)
    (hx : opdOk x x' = true) (hy : opdOk y y' = true) {p : Prop} {j : Nat} (hj : ixN (Vc.ev s.tm y') = some (p, j)) (hp : p) (hj2 : j < 140737488355328) {d : Nat} {r : R}
    (hpre : (appR (mget s.me) d kd by_ (Vc.ev s.tm x') (some (True, zeroC z j kd, []))).pre) (hr : r.v = (appR (mget s.me) d kd by_ (Vc.ev s.tm x') (some (True, zeroC z j kd, []))).v) (hm : r.mw = (appR (mget s.me) d kd by_ (Vc.ev s.tm x') (some (True, zeroC z j kd, []))).mw) : Good P nt F s a w Q o r := by
  obtain ⟨el, i, zv, e1, e2, e3, e4, e5, e6, e7⟩ := kdOk_spec hk
  obtain ⟨z1, z2, z3, z4, z5, z6⟩ := zeroC_spec e6 j
  obtain ⟨k', hk'⟩ := ixN_rv hj (h.ev hy) hp
  have hby : j * by_ ≤ 140737488355328 := by
    simp only [appR] at hpre
    revert hpre
    cases Vc.ev s.tm x' <;> intro hpre <;> try exact hpre.elim
    case nil =>
      cases hap : kd.nil.app (zeroC z j kd) with
      | none => simp only [hap] at hpre; exact hpre.elim
      | some c =>
        simp only [hap] at hpre
        obtain ⟨n1, n2, n3⟩ := Kd.nil_spec kd
        obtain ⟨_, q2, _⟩ := Cells.app_spec hap (by rw [n3, z2]) (by rw [n3]; exact z5)
        rw [n1, z1, Nat.zero_add] at q2
        rw [← q2]; exact hpre.2.2.1.2
    case own k0 off l e =>
      cases hk0 : mget s.me k0 with
      | none => simp only [hk0] at hpre; exact hpre.elim
      | some y0 =>
        cases y0 with
        | none => simp only [hk0] at hpre; exact hpre.elim
        | some c0 =>
          simp only [hk0] at hpre
          cases hap : (c0.part 0 l).app (zeroC z j kd) with
          | none => simp only [hap] at hpre; exact hpre.elim
          | some c =>
            simp only [hap] at hpre
            obtain ⟨hp1, hp2, hp3, hp4, hp5, hp6, hp7, hp8⟩ := hpre
            obtain ⟨_, q2, _⟩ := Cells.app_spec hap (by rw [Cells.part_esz, hp7, hp8]) (by rw [Cells.part_esz, hp7, hp4]; exact z5)
            rw [Cells.part_count (by omega), z1] at q2
            refine Nat.le_trans ?_ hp6.2
            exact Nat.mul_le_mul_right _ (by omega)
  have hlen : (Builtin.zeroCells zv.cells j).toList.length = j * kd.esz := by simp [size_zeroCells, z4]
  refine good_appR h hd ho hk hx (us := (Builtin.zeroCells zv.cells j).toList) (fun i' zv' el' f1 f2 f3 f4 => ?_) (fun _ => by rw [hlen, z3]) (zero_one e7) (fun q hq => ?_) hpre hr hm
  · rw [e1] at f1
    cases f1
    rw [e2] at f2
    cases f2
    rw [e5] at f3
    cases f3
    rw [hk', z1]
    exact .zr hu hj2 (by rw [e4]; exact hby)
  · rw [z3] at hq
    rw [getD_zeroCells (by rw [z4]; exact hq) (by omega), z4]
    exact z6 _ _ _ _ _ hq

theorem minA_rv {B O x y u vx vy} (h : minA x y = some u) (hx : RV B O w β x vx) (hy : RV B O w β y vy) : ∃ v, (Builtin.min2 vx vy).run P w = .ok v w ∧ RV B O w β u v := by
  cases hx <;> cases hy <;> simp only [minA, Option.some.injEq, reduceCtorEq] at h
  all_goals
    subst h
    refine ⟨_, rfl, ?_⟩
  · refine rvn ?_; split <;> omega
  · refine rvi ?_; split <;> omega
  · refine rvi ?_; split <;> omega
  · refine rvi ?_; split <;> omega
theorem minL_rv {B O} : ∀ {l : List AV} {x u : AV} {vx : Value} {vs : List Value}, minL x l = some u → RV B O w β x vx → vs.length = l.length → (∀ j, j < l.length → RV B O w β (l.getD j .any) (vs.getD j undef)) →
    ∃ v, (vs.foldlM Builtin.min2 vx).run P w = .ok v w ∧ RV B O w β u v
  | [], x, u, vx, vs, h, hx, hl, _ => by
    have : vs = [] := List.eq_nil_of_length_eq_zero hl
    subst this
    simp only [minL, Option.some.injEq] at h
    subst h
    exact ⟨vx, by simp, hx⟩
  | y :: r, x, u, vx, vs, h, hx, hl, hv => by
    cases vs with
    | nil => simp at hl
    | cons v0 vr =>
      simp only [minL] at h
      split at h
      · rename_i m hm
        obtain ⟨v1, h1, h2⟩ := minA_rv (P := P) hm hx (hv 0 (by simp))
        obtain ⟨v2, h3, h4⟩ := minL_rv (vs := vr) h h2 (by simpa using hl) (fun j hj => by have := hv (j + 1) (by simp; omega); simpa using this)
        have h1' : (Builtin.min2 vx v0).run P w = .ok v1 w := h1
        exact ⟨v2, by simp [List.foldlM_cons, h1', h3], h4⟩
      · cases h
def opdsOk : List Operand → List Opd → Bool
  | [], [] => true
  | x :: r, y :: r' => opdOk x y && opdsOk r r'
  | _, _ => false
theorem opdsOk_rv (h : Rep nt F s β a w) : ∀ {xs : List Operand} {ys : List Opd}, opdsOk xs ys = true → xs.length = ys.length ∧ ∀ j, j < ys.length → RV F.B (Own F s.me β) w β ((ys.map (Vc.ev s.tm)).getD j .any) ((xs.map a.eval).getD j undef)
  | [], [], _ => ⟨rfl, fun j hj => by simp at hj⟩
  | x :: r, y :: r', hp => by
    simp only [opdsOk, Bool.and_eq_true] at hp
    obtain ⟨h1, h2⟩ := opdsOk_rv h hp.2
    refine ⟨by simp [h1], fun j hj => ?_⟩
    cases j with
    | zero => exact h.ev hp.1
    | succ j => have := h2 j (by simpa using hj); simpa using this
  | [], _ :: _, hp => by simp [opdsOk] at hp
  | _ :: _, [], hp => by simp [opdsOk] at hp

theorem good_minN (h : Rep nt F s β a w) (hd : ∀ t, o.dst = some t → t < nt) {xs : Array Operand} {ts : Array Nat} {ys : List Opd} (ho : o.op = .call { callee := .builtin .min, args := xs, argTypes := ts }) (hx : opdsOk xs.toList ys = true) {v u : AV} {r' : List AV}
    (he : ys.map (Vc.ev s.tm) = v :: r') (hm : minL v r' = some u) : Good P nt F s a w Q o (okv True u) := by
  obtain ⟨h1, h2⟩ := opdsOk_rv h hx
  have hlen : ys.length = r'.length + 1 := by have := congrArg List.length he; simpa using this
  rw [he] at h2
  cases hxs : xs.toList with
  | nil => rw [hxs] at h1; simp at h1; omega
  | cons x0 xr =>
    rw [hxs] at h1 h2
    have hx0 : RV F.B (Own F s.me β) w β v (a.eval x0) := h2 0 (by omega)
    obtain ⟨vv, g1, g2⟩ := minL_rv (P := P) (vs := xr.map a.eval) hm hx0 (by simp at h1 ⊢; omega) (fun j hj => by have := h2 (j + 1) (by omega); simpa using this)
    refine good_val h hd (v := vv) ?_ rfl g2
    have hxa : xs = (x0 :: xr).toArray := by rw [← hxs]
    subst hxa
    simp [execOp, ho, resolve, invoke, builtin, Builtin.min_, g1]

theorem good_copy (h : Rep nt F s β a w) (hd : ∀ t, o.dst = some t → t < nt) {t u el : Nat} {x y : Operand} {x' y' : Opd} (ho : o.op = .call { callee := .builtin .copy, args := #[x, y], argTypes := #[t, u] }) (hu : P.underlying t = some (.slice el)) (hs1 : sizeIs P el 1 = true)
    (hx : opdOk x x' = true) (hy : opdOk y y' = true) (hns : ∀ q, Vc.ev s.tm y' ≠ .str q) {k off l ly : Nat} {c cn c' : Cells} {p : Prop} {ks : List Nat} (hev : Vc.ev s.tm x' = .own k off l 1) (hk : mget s.me k = some (some c))
    (hc : content (mget s.me) .k8 (Vc.ev s.tm y') = some (p, cn, ks)) (hp : p) (hly : lenOf (Vc.ev s.tm y') = some ly) (hputs : c.puts off (cn.part 0 (min ly l)) = some c') (he1 : cn.esz = 1) (hhas : c.has off (min ly l))
    {r : R} (hr : r.v = .n (min ly l)) (hm : r.mw = [(k, some c')]) : Good P nt F s a w Q o r := by
  obtain ⟨ad, cap, us, hv, hrd⟩ := content_rd h (h.ev hy) hc hp hns
  have hlyc : ly = cn.count := by
    rcases lenOf_rv hly (h.ev hy) with ⟨ad', cap', e⟩ | ⟨b, _, _, s', e⟩
    · rw [hv] at e; cases e; rfl
    · exact absurd e (hns _)
  subst hlyc
  have ex := h.ev hx
  rw [hev] at ex
  have hcn : cn.len = cn.count := by rw [Cells.len_eq, he1, Nat.mul_one]
  have hmin : 0 + min cn.count l ≤ cn.count := by omega
  obtain ⟨q1, q2, q3⟩ := rd_part hrd hmin
  rw [he1] at q1 q2 q3
  simp only [Nat.zero_mul, List.drop_zero, Nat.mul_one] at q1 q2 q3
  have hplen : (cn.part 0 (min cn.count l)).len = min cn.count l := by rw [Cells.len_eq, Cells.part_count hmin, Cells.part_esz, he1, Nat.mul_one]
  rw [hplen] at q1 q3
  obtain ⟨p1, _, p3⟩ := Cells.puts_spec hputs hplen hhas
  have hexec : ∀ (ad' : Option Addr) (cap' : Nat) (w' : World), a.eval x = .slice ad' l cap' →
      (match ad' with | some b => (storeCells b (us.take (min cn.count l))).run P w | none => .ok () w) = .ok () w' →
      (execOp a.eval o).run P w = .ok (.value (.int .i64 ((min cn.count l : Nat) : Int))) w' := by
    intro ad' cap' w' hxe hst
    have hfirst : (Builtin.firstCells 1 (min cn.count l) (.slice ad cn.count cap)).run P w = .ok (us.take (min cn.count l)).toArray w := by
      have := run_first (P := P) (w := w) (size := 1) (n := min cn.count l) (c := cap) (ad := ad) (news := us.take (min cn.count l)) (by rw [q1, Nat.mul_one])
        (by
          rcases hrd.at_ with h0 | ⟨b, h0, h1⟩
          · left
            have : us = [] := List.eq_nil_of_length_eq_zero (by rw [hrd.len]; exact h0)
            rw [this]; simp
          · right
            refine ⟨b, h0, fun j v hj => ?_⟩
            rw [List.getElem?_take] at hj
            split at hj
            · exact h1 _ _ hj
            · cases hj)
      cases ad <;> simpa [Builtin.firstCells] using this
    cases ad' with
    | none =>
      injection hst with _ hst
      subst hst
      simp only [execOp, ho, resolve, invoke, builtin, Sem.run_bind, Sem.run_pure, Result.andThen_ok, List.map_toArray, List.map_cons, List.map_nil, hxe, hv]
      simp [Builtin.copy_, run_underlying hu, Builtin.lenOf, sizeIs_run (w := w) hs1, hfirst, goInt]
    | some b =>
      simp only [execOp, ho, resolve, invoke, builtin, Sem.run_bind, Sem.run_pure, Result.andThen_ok, List.map_toArray, List.map_cons, List.map_nil, hxe, hv]
      simp only at hst
      simp [Builtin.copy_, run_underlying hu, Builtin.lenOf, sizeIs_run (w := w) hs1, hfirst, goInt, hst]
  have ho1 : ∀ v ∈ us.take (min cn.count l), v.oneCell' = true := q2
  generalize hM : min cn.count l = M at *
  cases hxx : a.eval x
  all_goals (rw [hxx] at ex; first | (exfalso; cases ex; done) | skip)
  rename_i ad0 len0 cap0
  cases ex with
  | ownnil hb =>
    have hm0 : M = 0 := by omega
    subst hm0
    unfold Good Oper.wp
    rw [hexec none 0 w hxx rfl]
    simp only [Oper.upon, hm, msets, hr]
    have hbl := h.mr.bl k c hk
    rw [hb] at hbl
    obtain ⟨hb1, hb2⟩ : c.len = 0 ∧ c.count = 0 := hbl
    obtain ⟨_, pc, _⟩ := Cells.puts_spec hputs hplen hhas
    refine ⟨β, (h.reread hk (c' := c') ?_).put hd .n⟩
    rw [hb]
    exact ⟨by omega, by omega⟩
  | own hb hl' hcp ho' =>
    rename_i o' b sz
    have hbl := h.mr.bl k c hk
    rw [hb] at hbl
    obtain ⟨cs, T, g1, g2, g3, g4, g5⟩ := hbl
    by_cases hm0 : M = 0
    · subst hm0
      unfold Good Oper.wp
      rw [hexec (some ⟨b, o', none⟩) cap0 w hxx (by simp [storeCells])]
      simp only [Oper.upon, hm, msets, hr]
      refine ⟨β, (h.reread hk (c' := c') ?_).put hd .n⟩
      rw [hb]
      exact ⟨cs, T, g1, g2, by omega, g4, fun j hj => by rw [p1] at hj; rw [p3 j hj, if_neg (by omega)]; exact g5 j hj⟩
    · have hoo : o' = off := by rcases ho' with h | h <;> omega
      subst hoo
      have hfit : o' + (us.take M).length ≤ cs.toList.length := by rw [q1]; have := hhas.1; simp; omega
      have hst := run_storeCells_at P b o' T (us.take M) 0 cs w g1 (by simpa using hfit) ho1
      simp only [Nat.add_zero] at hst
      unfold Good Oper.wp
      rw [hexec (some ⟨b, o', none⟩) cap0 (w.setRow b (splice cs.toList o' (us.take M)).toArray) hxx (by simpa [splice] using hst)]
      simp only [Oper.upon, hm, msets, hr]
      have hset := h.setk (c' := c') (cs' := (splice cs.toList o' (us.take M)).toArray) hk hb g1 (by simp [length_splice _ _ _ hfit, ← g2]) (by omega)
        (by
          intro v hvv
          simp only [splice, List.append_assoc] at hvv
          have : v ∈ cs.toList.take o' ++ ((us.take M) ++ cs.toList.drop (o' + (us.take M).length)) := by simpa using hvv
          rcases List.mem_append.1 this with q | q
          · exact g4 v (List.mem_of_mem_take q)
          · rcases List.mem_append.1 q with q | q
            · exact ho1 v q
            · exact g4 v (List.mem_of_mem_drop q))
        (fun j hj => by
          rw [p1] at hj
          rw [p3 j hj, getD_toArray_splice hfit, q1]
          split
          · exact q3 _ (by omega)
          · have := g5 j hj; simpa using this)
      exact ⟨β, hset.put hd .n⟩
end
end Go.Vc

/-! Vc3q -/
set_option linter.unusedVariables false
set_option linter.unusedSimpArgs false
namespace Go.Vc
section
variable {P : Program} {nt : Nat} {F : Fr} {s : St} {β : Bt} {a : Act} {w w' : World} {o : Oper} {Q : Exit → Act → World → Prop}

theorem Rep.freezek (h : Rep nt F s β a w) {k b sz : Nat} {c : Cells} (hk : mget s.me k = some (some c)) (hb : β k = some (some (b, sz))) (ho : ∀ b', b' ≠ b → w'.heap[b']? = w.heap[b']?) (hsz : w'.heap.size = w.heap.size)
    (h1 : w'.os = w.os) (h2 : w'.tape = w.tape) (h3 : w'.output = w.output) : Rep nt F ⟨s.tm, mset s.me k none⟩ β a w' := by
  have hO : ∀ x, Owned (mset s.me k none) β x → Owned s.me β x := by
    rintro x ⟨k1, c1, sz1, e1, e2⟩
    rw [mget_mset] at e1
    by_cases e : k1 = k
    · rw [if_pos e] at e1; cases e1
    · rw [if_neg e] at e1; exact ⟨k1, c1, sz1, e1, e2⟩
  have hown : Owned s.me β b := ⟨k, c, sz, hk, hb⟩
  have key : ∀ {x v}, RV F.B (Own F s.me β) w β x v → RV F.B (Own F (mset s.me k none) β) w' β x v := fun hx =>
    hx.mono (Nat.le_refl _) (fun x _ hx => hx.imp (hO x)) (by omega) (fun b' _ hn => ho b' (by rintro rfl; exact hn (.inl hown))) β (fun _ _ h => h)
  have old : ∀ {k1 c1}, mget (mset s.me k none) k1 = some (some c1) → mget s.me k1 = some (some c1) ∧ k1 ≠ k := by
    intro k1 c1 e
    rw [mget_mset] at e
    by_cases e2 : k1 = k
    · rw [if_pos e2] at e; cases e
    · rw [if_neg e2] at e; exact ⟨e, e2⟩
  refine ⟨h.nt, h.df, fun t => key (h.tm t), fun k1 e => ?_, fun k1 c1 e => ?_, fun k1 k2 c1 c2 b z1 z2 e1 e2 => h.mr.inj k1 k2 c1 c2 b z1 z2 (old e1).1 (old e2).1,
    fun k1 c1 b z e1 => h.mr.ow k1 c1 b z (old e1).1, ?_⟩
  · rw [mget_mset] at e
    by_cases e2 : k1 = k
    · rw [if_pos e2] at e; cases e
    · rw [if_neg e2] at e; exact h.mr.un k1 e
  · have hbl := h.mr.bl k1 c1 (old e).1
    have hne : ∀ z, β k1 ≠ some (some (b, z)) := fun z hz => (old e).2 (h.mr.inj k1 k c1 c b z sz (old e).1 hk hz hb)
    unfold BlkRep at hbl ⊢
    cases hx : β k1 with
    | none => rw [hx] at hbl; exact hbl
    | some y => cases y with
      | none => rw [hx] at hbl; exact hbl
      | some y =>
        obtain ⟨b1, z1⟩ := y
        rw [hx] at hbl
        obtain ⟨cs, T, g1, g2, g3, g4, g5⟩ := hbl
        exact ⟨cs, T, by rw [ho b1 (by rintro rfl; exact hne z1 hx)]; exact g1, g2, g3, g4, fun j hj => key (g5 j hj)⟩
  · have f := h.mr.fr
    refine ⟨by rw [h1]; exact f.os, by rw [h2]; exact f.tape, by rw [h3]; exact f.output, f.hB, by rw [hsz]; exact f.size, fun b' hb' hn => ?_, f.offs⟩
    rw [ho b' ?_]
    · exact f.keep b' hb' hn
    · rintro rfl
      rcases h.mr.ow k c b' sz hk hb with h | h
      · exact hn h
      · omega

/-- []byte(x), of a slice that is []byte already -/
theorem good_cvs (h : Rep nt F s β a w) (hd : ∀ t, o.dst = some t → t < nt) {t el : Nat} {x : Operand} {x' : Opd} (hop : o.op = .convert t t x) (ht : P.underlying t = some (.slice el)) (hel : P.underlying el = some (.int .u8)) (hx : opdOk x x' = true)
    {k l : Nat} {L : List UInt8} (hv : Vc.ev s.tm x' = .own k 0 l 1) (hk : mget s.me k = some (some (.b8 L))) (hl : L.length = l) (hl0 : 0 < l) {r : R} (hr : r.v = .sl false (.b8 L)) (hm : r.mw = [(k, none)]) : Good P nt F s a w Q o r := by
  have ex := h.ev hx
  rw [hv] at ex
  generalize hxe : a.eval x = vx at ex
  cases ex with
  | ownnil => omega
  | own hb hlc hc hoo =>
  rename_i o' b sz cap
  have ho' : o' = 0 := by rcases hoo with e | e <;> omega
  subst ho'
  have hbl := h.mr.bl k _ hk
  rw [hb] at hbl
  obtain ⟨cs, T, g1, g2, g3, g4, g5⟩ := hbl
  have hbs : b < w.heap.size := h.mr.lt hk hb
  let w' := w.freeze ⟨b, cs.size, none⟩ 1
  have hrun : (execOp a.eval o).run P w = .ok (.value (.slice (some ⟨b, 0, none⟩) l cap)) w' := by
    simp [execOp, hop, hxe, convert, run_underlying ht, run_underlying hel, markStringish, g1]
    rw [show w.shape? b = some (T, cs.size) by simp [World.shape?, g1]]
    rfl
  have hoth : ∀ b', b' ≠ b → w'.heap[b']? = w.heap[b']? := by
    intro b' hne
    simp [w', World.freeze, Array.getElem?_modify, Ne.symm hne]
  have hsz : w'.heap.size = w.heap.size := by simp [w', World.freeze]
  have hrow : ∃ fz, w'.heap[b]? = some (.cells cs T fz) := by
    simp [w', World.freeze, Array.getElem?_modify, g1]
  have hrep := h.freezek (w' := w') hk hb hoth hsz rfl rfl rfl
  unfold Good Oper.wp
  rw [hrun]
  simp only [Oper.upon, hm, msets]
  refine ⟨β, ?_⟩
  have hn : ¬ Own F (mset s.me k none) β b := by
    rintro (⟨k1, c1, sz1, e1, e2⟩ | hoff)
    case inr =>
      have h1 := h.mr.fr.offs b hoff
      rcases h.mr.ow k _ b sz hk hb with h2 | h2
      · exact h1.2 h2
      · omega
    rw [mget_mset] at e1
    by_cases e : k1 = k
    · rw [if_pos e] at e1; cases e1
    · rw [if_neg e] at e1; exact e (h.mr.inj k1 k c1 _ b sz1 sz e1 hk e2 hb)
  have hput := hrep.put (d := o.dst) hd (av := .sl false (.b8 L)) (v := .slice (some ⟨b, 0, none⟩) l cap) ?_
  · rw [hr]; exact hput
  · obtain ⟨fz, hrow⟩ := hrow
    have hlen : l ≤ cs.size := by simp [Cells.len] at g3; omega
    have := RV.sl (B := F.B) (O := Own F (mset s.me k none) β) (w := w') (β := β) (fr := false) (c := .b8 L) (a := ⟨b, 0, none⟩) (cap := cap) (us := cs.toList.take l) (by simp [Cells.len]; omega) (fun j u hj => by
        rw [add_cell, cell_of_row w' b _ cs T _ hrow]
        rw [List.getElem?_take] at hj
        split at hj
        · simpa using hj
        · cases hj) hn (by rw [hsz]; exact hbs) (fun hf => by cases hf) (fun u hu => g4 u (List.mem_of_mem_take hu)) (by simp [Cells.count]; omega) (fun j hj => ?_)
    · simpa [Cells.count, hl] using this
    · have hj' : j < L.length := by simpa [Cells.len] using hj
      have := g5 j (by simpa [Cells.len] using hj')
      have e : (cs.toList.take l).getD j undef = cs.getD j undef := by
        simp [List.getD_eq_getElem?_getD, List.getElem?_take, show j < l by omega, Array.getD_eq_getD_getElem?]
      rw [e]
      simp only [Cells.get] at this ⊢
      generalize cs.getD j undef = uu at this ⊢
      cases this; exact .u8
end
end Go.Vc

/-! Vc3r -/
set_option linter.unusedVariables false
set_option linter.unusedSimpArgs false
namespace Go.Vc
section
variable {P : Program} {nt : Nat} {F : Fr} {s : St} {β : Bt} {a : Act} {w : World} {o : Oper} {Q : Exit → Act → World → Prop}

theorem run_eqItems_int {e : TypeId} {k0 : IntKind} (he : P.underlying e = some (.int k0)) (hc : P.cellsOf e = 1) (d : Nat) {xs ys : Array Value} {f g : Nat → Int} {k : IntKind} : ∀ (is : List Nat), (∀ i ∈ is, xs[i]? = some (.int k (f i)) ∧ ys[i]? = some (.int k (g i))) →
    (Op.eqItems (d + 1) e (P.cellsOf e) xs ys is).run P w = .ok (is.all fun i => f i == g i) w
  | [], _ => by simp [Op.eqItems]
  | i :: is, h => by
    have ih := run_eqItems_int he hc d is fun j hj => h j (List.mem_cons_of_mem _ hj)
    obtain ⟨h1, h2⟩ := h i (List.mem_cons_self ..)
    have hp : P.plainKey e = true := by simp [Program.plainKey, he]
    have p1 := run_part_plain (P := P) w hp (xs := xs) (off := i * P.cellsOf e) (by rw [hc, Nat.mul_one]; exact h1)
    have p2 := run_part_plain (P := P) w hp (xs := ys) (off := i * P.cellsOf e) (by rw [hc, Nat.mul_one]; exact h2)
    have p3 : (Op.equalIn (d + 1) e (.int k (f i)) (.int k (g i))).run P w = .ok (f i == g i) w := by
      unfold Op.equalIn
      simp [run_underlying he]
    simp only [Op.eqItems, Sem.run_bind, p1, p2, p3, Result.andThen_ok, List.all_cons]
    cases f i == g i
    · simp
    · simpa using ih

/-- the cells of whole numbers, as numbers of one kind -/
def intsOf : Cells → Option (IntKind × List Int)
  | .b8 l => some (.u8, l.map fun x => (x.toNat : Int))
  | .b32 l => some (.u32, l.map fun x => (x.toNat : Int))
  | .b64 l => some (.u64, l.map fun x => (x.toNat : Int))
  | .ns l => some (.i64, l.map fun (x : Nat) => Int.ofNat x)
  | _ => none

theorem ints_rv {c : Cells} {k : IntKind} {l : List Int} (h : intsOf c = some (k, l)) {B : Nat} {O : Nat → Prop} {β : Bt} {us : List Value} (hl : us.length = c.len) (hs : ∀ j, j < c.len → RV B O w β (c.get j) (us.getD j undef)) :
    l.length = c.len ∧ ∀ j, j < l.length → us.toArray[j]? = some (.int k (l.getD j 0)) := by
  have fin : ∀ j v, j < c.len → us.getD j undef = v → us.toArray[j]? = some v := by
    intro j v hj hv
    have : j < us.length := by omega
    simp [List.getD_eq_getElem?_getD, this] at hv
    simp [this, hv]
  cases c <;> simp only [intsOf, Option.some.injEq, Prod.mk.injEq, reduceCtorEq] at h
  all_goals
    obtain ⟨rfl, rfl⟩ := h
    refine ⟨by simp [Cells.len], fun j hj => ?_⟩
    simp only [List.length_map] at hj
    have h1 := hs j (by simpa [Cells.len] using hj)
    simp only [Cells.get] at h1
    generalize hv : us.getD j undef = v at h1
    have h2 := fin j v (by simpa [Cells.len] using hj) hv
    rw [h2]
    cases h1
    simp [List.getD_eq_getElem?_getD, hj]

theorem run_equal_ints {t e n : Nat} {i : TypeInfo} {k0 : IntKind} (hu : P.underlying t = some (.array n e)) (hi : P.info? e = some i) (he : P.underlying e = some (.int k0)) (hc : P.cellsOf e = 1) {c c' : Cells} {k : IntKind} {l l' : List Int} (h1 : intsOf c = some (k, l)) (h2 : intsOf c' = some (k, l'))
    (hn : l.length = n) (hn' : l'.length = n) {B : Nat} {O : Nat → Prop} {us us' : List Value} (hl : us.length = c.len) (hs : ∀ j, j < c.len → RV B O w β (c.get j) (us.getD j undef)) (hl' : us'.length = c'.len) (hs' : ∀ j, j < c'.len → RV B O w β (c'.get j) (us'.getD j undef)) :
    (Op.equal t (.agg us.toArray) (.agg us'.toArray)).run P w = .ok (decide (l = l')) w := by
  have g1 := (ints_rv h1 hl hs).2
  have g2 := (ints_rv h2 hl' hs').2
  have := run_equalIn_array (P := P) w 9999 us.toArray us'.toArray hu hi
  show (Op.equalIn (9999 + 1) t _ _).run P w = _
  rw [this, run_eqItems_int (f := fun j => l.getD j 0) (g := fun j => l'.getD j 0) (k := k) he hc 9998 (List.range n) (fun j hj => by
    have hj' : j < n := List.mem_range.1 hj
    exact ⟨g1 j (by omega), g2 j (by omega)⟩)]
  congr 1
  rw [Bool.eq_iff_iff]
  simp only [List.all_eq_true, List.mem_range, beq_iff_eq, decide_eq_true_eq]
  constructor
  · intro h
    apply List.ext_getElem (by omega)
    intro j hj hj'
    have := h j (by omega)
    simpa [List.getD_eq_getElem?_getD, hj, hj'] using this
  · rintro rfl j _; rfl

theorem eqc_ints {c c' : Cells} {b : Bool} {k : IntKind} {l : List Int} (h1 : intsOf c = some (k, l)) (he : eqc c c' = some b) : ∃ l', intsOf c' = some (k, l') ∧ b = decide (l = l') := by
  cases c <;> simp only [intsOf, Option.some.injEq, Prod.mk.injEq, reduceCtorEq] at h1 <;> obtain ⟨rfl, rfl⟩ := h1 <;> cases c' <;> simp only [eqc, Option.some.injEq, reduceCtorEq] at he <;> subst he <;> refine ⟨_, rfl, ?_⟩
  all_goals
    rename_i a b
    rw [Bool.eq_iff_iff]
    simp only [decide_eq_true_eq]
    constructor
    · rintro rfl; rfl
    · intro h
      refine (List.map_inj_right ?_).1 h
      intro x y hxy
      first
        | (exact UInt8.toNat_inj.1 (Int.ofNat.inj hxy))
        | (exact UInt32.toNat_inj.1 (Int.ofNat.inj hxy))
        | (exact UInt64.toNat_inj.1 (Int.ofNat.inj hxy))
        | (exact Int.ofNat.inj hxy)

theorem good_binA (h : Rep nt F s β a w) (hd : ∀ t, o.dst = some t → t < nt) {neg : Bool} {t u e n : Nat} {i : TypeInfo} {k0 : IntKind} {x y : Operand} {x' y' : Opd} (ho : o.op = .binOp (if neg = true then .neq else .eql) t x y u)
    (hg : P.eqGuardType P.depth t = false) (hu : P.underlying t = some (.array n e)) (hi : P.info? e = some i) (he : P.underlying e = some (.int k0)) (hc : P.cellsOf e = 1)
    (hx : opdOk x x' = true) (hy : opdOk y y' = true) {p q : Cells} (hp : Vc.ev s.tm x' = .agg p) (hq : Vc.ev s.tm y' = .agg q) (hpn : p.len = n) (hqn : q.len = n) {b : Bool} (hb : eqc p q = some b) {k : IntKind} {l : List Int} (h1 : intsOf p = some (k, l))
    {r : R} (hr : r.v = .bool (b == !neg)) (hm : r.mw = []) : Good P nt F s a w Q o r := by
  have ex := h.ev hx
  have ey := h.ev hy
  rw [hp] at ex
  rw [hq] at ey
  obtain ⟨l', h2, rfl⟩ := eqc_ints h1 hb
  generalize hxe : a.eval x = vx at ex
  generalize hye : a.eval y = vy at ey
  cases ex with
  | agg hl g1 hs =>
  cases ey with
  | agg hl' g1' hs' =>
  have e1 := (ints_rv h1 hl hs).1
  have e2 := (ints_rv h2 hl' hs').1
  have heq := run_equal_ints (P := P) (w := w) hu hi he hc h1 h2 (by omega) (by omega) hl hs hl' hs'
  refine good_val h hd (v := .bool (decide (l = l') == !neg)) ?_ hm (by rw [hr]; exact .bool)
  cases neg <;> simp [execOp, ho, hxe, hye, eqGuard, hg, binOp, heq, bne]
end
end Go.Vc

/-! Vc3s -/
set_option linter.unusedVariables false
set_option linter.unusedSimpArgs false
namespace Go.Vc
section
variable (P : Program)
def ekOf (t : TypeId) : Option Ek := match P.underlying t with
  | some .bool => some .bool
  | some (.int .u8) => some .u8 | some (.int .u16) => some .u16 | some (.int .u32) => some .u32 | some (.int .u64) => some .u64 | some (.int .i64) => some .int
  | some .string => some .str
  | _ => none
mutual
def flatK : Nat → TypeId → Option (List Ek)
  | 0, _ => none
  | n + 1, t => match P.underlying t with
    | some (.struct fs) => if fs.all (·.name != "_") = true then match flatKs n 0 fs.toList with
      | some ks => if P.cellsOf t = ks.length then some ks else none
      | none => none
      else none
    | _ => (ekOf P t).map ([·])
def flatKs : Nat → Nat → List Field → Option (List Ek)
  | 0, _, _ => none
  | _ + 1, _, [] => some []
  | n + 1, o, f :: fs => match flatK n f.type with
    | some ks => if f.offset = o ∧ P.cellsOf f.type = ks.length then (flatKs n (o + ks.length) fs).map (ks ++ ·) else none
    | none => none
end
end

/-- a cell as a key's part -/
def litOf : Value → Lit
  | .bool b => .bool b
  | .int k n => .int k n
  | .string s => .string s.data.toList
  | _ => .bool false
/-- a value of a kind -/
def kV : Ek → Value → Prop
  | .bool, v => ∃ b, v = .bool b
  | .u8, v => ∃ n, v = .int .u8 n ∧ (Lit.int .u8 n).wf = true
  | .u16, v => ∃ n, v = .int .u16 n ∧ (Lit.int .u16 n).wf = true
  | .u32, v => ∃ n, v = .int .u32 n ∧ (Lit.int .u32 n).wf = true
  | .u64, v => ∃ n, v = .int .u64 n ∧ (Lit.int .u64 n).wf = true
  | .int, v => ∃ n, v = .int .i64 n ∧ (Lit.int .i64 n).wf = true
  | .str, v => ∃ s : ByteArray, v = .string s ∧ s.size ≤ maxLen
/-- kinds and values, place for place -/
def kVs : List Ek → List Value → Prop
  | [], [] => True
  | k :: ks, v :: vs => kV k v ∧ kVs ks vs
  | _, _ => False

theorem kVs_len : ∀ {ks : List Ek} {vs : List Value}, kVs ks vs → ks.length = vs.length
  | [], [], _ => rfl
  | k :: ks, v :: vs, h => by simp [kVs_len h.2]
  | [], _ :: _, h => h.elim
  | _ :: _, [], h => h.elim
theorem kVs_app : ∀ {ks ks' : List Ek} {vs : List Value}, kVs (ks ++ ks') vs → kVs ks (vs.take ks.length) ∧ kVs ks' (vs.drop ks.length)
  | [], ks', vs, h => ⟨by simp [kVs], by simpa using h⟩
  | k :: ks, ks', v :: vs, h => by
    obtain ⟨h1, h2⟩ := kVs_app (ks := ks) h.2
    exact ⟨⟨h.1, h1⟩, h2⟩
  | k :: ks, ks', [], h => h.elim

section
variable {P : Program} {w : World}
theorem keyLits_ek {t : TypeId} {k : Ek} (h : ekOf P t = some k) {v : Value} (hv : kV k v) (d : Nat) : P.keyLits (d + 1) t [v] = some [litOf v] := by
  unfold ekOf at h
  split at h <;> first | (cases h; done) | skip
  all_goals
    rename_i hu
    cases h
    simp only [kV] at hv
    unfold Program.keyLits
  · obtain ⟨b, rfl⟩ := hv; simp [hu, litOf]
  · obtain ⟨n, rfl, hw⟩ := hv; simp [hu, hw, litOf]
  · obtain ⟨n, rfl, hw⟩ := hv; simp [hu, hw, litOf]
  · obtain ⟨n, rfl, hw⟩ := hv; simp [hu, hw, litOf]
  · obtain ⟨n, rfl, hw⟩ := hv; simp [hu, hw, litOf]
  · obtain ⟨n, rfl, hw⟩ := hv; simp [hu, hw, litOf]
  · obtain ⟨s, rfl, hw⟩ := hv; simp [hu, hw, litOf]

theorem flatK_struct {n : Nat} {t : TypeId} {fs : Array Field} {ks : List Ek} (hu : P.underlying t = some (.struct fs)) (h : flatK P (n + 1) t = some ks) : fs.all (·.name != "_") = true ∧ flatKs P n 0 fs.toList = some ks ∧ P.cellsOf t = ks.length := by
  unfold flatK at h
  simp only [hu] at h
  split at h
  · rename_i hn
    split at h
    · rename_i ks' hk
      split at h
      · rename_i hc; cases h; exact ⟨hn, hk, hc⟩
      · cases h
    · cases h
  · cases h

mutual
theorem keyLits_flat : ∀ (n : Nat) (t : TypeId) (ks : List Ek), flatK P n t = some ks → ∀ (vs : List Value), kVs ks vs → ∀ D, n ≤ D → P.keyLits D t vs = some (vs.map litOf)
  | 0, t, ks, h, _, _, _, _ => by simp [flatK] at h
  | n + 1, t, ks, h, vs, hv, D, hD => by
    obtain ⟨D, rfl⟩ : ∃ D', D = D' + 1 := ⟨D - 1, by omega⟩
    cases hu : P.underlying t with
    | none =>
      unfold flatK at h; simp only [hu] at h
      obtain ⟨k, hk, _⟩ := Option.map_eq_some_iff.1 h
      simp [ekOf, hu] at hk
    | some kd =>
      by_cases hst : ∃ fs, kd = .struct fs
      · obtain ⟨fs, rfl⟩ := hst
        obtain ⟨h1, h2, h3⟩ := flatK_struct hu h
        unfold Program.keyLits
        simp only [hu]
        rw [if_pos ⟨by rw [h3, kVs_len hv], h1⟩, Option.map_eq_some_iff]
        obtain ⟨ls, e1, e2⟩ := keyLits_flats n 0 fs.toList ks h2 vs (by simpa using hv) D (by omega)
        exact ⟨ls, e1, by simpa using e2⟩
      · have h' : (ekOf P t).map ([·]) = some ks := by
          unfold flatK at h
          simp only [hu] at h
          cases kd <;> first | exact h | exact absurd ⟨_, rfl⟩ hst
        obtain ⟨k, hk, rfl⟩ := Option.map_eq_some_iff.1 h'
        cases vs with
        | nil => exact hv.elim
        | cons v r =>
          have : r = [] := by cases r with | nil => rfl | cons => exact hv.2.elim
          subst this
          exact keyLits_ek hk hv.1 D
theorem keyLits_flats : ∀ (n o : Nat) (fs : List Field) (ks : List Ek), flatKs P n o fs = some ks → ∀ (vs : List Value), kVs ks (vs.drop o) → ∀ D, n ≤ D + 1 →
    ∃ ls, fs.mapM (fun f => P.keyLits D f.type ((vs.drop f.offset).take (P.cellsOf f.type))) = some ls ∧ ls.flatten = (vs.drop o).map litOf
  | 0, o, fs, ks, h, _, _, _, _ => by simp [flatKs] at h
  | n + 1, o, [], ks, h, vs, hv, D, hD => by
    simp [flatKs] at h; subst h
    refine ⟨[], rfl, ?_⟩
    cases hd : vs.drop o with
    | nil => rfl
    | cons => rw [hd] at hv; exact hv.elim
  | n + 1, o, f :: fs, ks, h, vs, hv, D, hD => by
    simp only [flatKs] at h
    split at h
    · rename_i k1 hk1
      split at h
      · rename_i hc
        obtain ⟨k2, hk2, rfl⟩ := Option.map_eq_some_iff.1 h
        obtain ⟨g1, g2⟩ := kVs_app hv
        rw [List.drop_drop] at g2
        have e1 := keyLits_flat n f.type k1 hk1 _ g1 D (by omega)
        obtain ⟨ls, e2, e3⟩ := keyLits_flats n (o + k1.length) fs k2 hk2 vs g2 D (by omega)
        refine ⟨((vs.drop o).take k1.length).map litOf :: ls, ?_, ?_⟩
        · rw [List.mapM_cons, hc.1, hc.2, e1, e2]; rfl
        · rw [List.flatten_cons, e3, ← List.map_append, ← List.drop_drop, List.take_append_drop]
      · cases h
    · cases h
end

/-- an abstract cell of a kind is a value of it -/
theorem kV_rv {B : Nat} {O : Nat → Prop} {β : Bt} {k : Ek} {x : AV} {v : Value} (hk : kOk k x) (h : RV B O w β x v) : kV k v := by
  cases k <;> cases h <;> simp only [kOk] at hk <;> try (exact hk.elim)
  case bool.bool => exact ⟨_, rfl⟩
  case u8.u8 => rename_i x; have := x.toNat_lt; exact ⟨_, rfl, by simp [Lit.wf, IntKind.min, IntKind.max, IntKind.signed, IntKind.bits]; omega⟩
  case u16.u16 => rename_i x; have := x.toNat_lt; exact ⟨_, rfl, by simp [Lit.wf, IntKind.min, IntKind.max, IntKind.signed, IntKind.bits]; omega⟩
  case u32.u32 => rename_i x; have := x.toNat_lt; exact ⟨_, rfl, by simp [Lit.wf, IntKind.min, IntKind.max, IntKind.signed, IntKind.bits]; omega⟩
  case u64.u64 => rename_i x; have := x.toNat_lt; exact ⟨_, rfl, by simp [Lit.wf, IntKind.min, IntKind.max, IntKind.signed, IntKind.bits]; omega⟩
  case int.n => exact ⟨_, rfl, by simp [Lit.wf, IntKind.min, IntKind.max, IntKind.signed, IntKind.bits]; omega⟩
  case int.i => exact ⟨_, rfl, by simp [Lit.wf, IntKind.min, IntKind.max, IntKind.signed, IntKind.bits]; omega⟩
  case str.str => rename_i s; exact ⟨_, rfl, by have : s.data.toList.length = s.size := rfl; have hmx : maxLen = 9223372036854775807 := by decide
                                                omega⟩

theorem eqv_rv {B : Nat} {O : Nat → Prop} {β : Bt} {x y : AV} {v u : Value} {b : Bool} (he : eqv x y = some b) (hx : RV B O w β x v) (hy : RV B O w β y u) : (b = true ↔ litOf v = litOf u) := by
  cases hx <;> simp only [eqv, reduceCtorEq] at he <;> cases hy <;> simp only [eqv, reduceCtorEq, Option.some.injEq] at he <;> subst he <;> simp only [litOf, beq_iff_eq, decide_eq_true_eq, Lit.bool.injEq, Lit.int.injEq, Lit.string.injEq, true_and]
  all_goals first
    | exact ⟨fun h => by rw [h], fun h => UInt8.toNat_inj.1 (Int.ofNat.inj h)⟩
    | exact ⟨fun h => by rw [h], fun h => UInt16.toNat_inj.1 (Int.ofNat.inj h)⟩
    | exact ⟨fun h => by rw [h], fun h => UInt32.toNat_inj.1 (Int.ofNat.inj h)⟩
    | exact ⟨fun h => by rw [h], fun h => UInt64.toNat_inj.1 (Int.ofNat.inj h)⟩
    | omega

theorem eqvs_rv {B : Nat} {O : Nat → Prop} {β : Bt} : ∀ {ks : List Ek} {p q : List AV} {vs us : List Value} {b : Bool}, kOks ks p → kOks ks q → eqvs p q = some b → p.length = vs.length → q.length = us.length →
    (∀ j, j < p.length → RV B O w β (p.getD j .any) (vs.getD j undef)) → (∀ j, j < q.length → RV B O w β (q.getD j .any) (us.getD j undef)) → kVs ks vs ∧ kVs ks us ∧ (b = true ↔ vs.map litOf = us.map litOf)
  | [], [], [], vs, us, b, _, _, he, h1, h2, _, _ => by
    have e1 : vs = [] := List.eq_nil_of_length_eq_zero h1.symm
    have e2 : us = [] := List.eq_nil_of_length_eq_zero h2.symm
    subst e1; subst e2
    simp [eqvs] at he; subst he
    exact ⟨trivial, trivial, by simp⟩
  | k :: ks, x :: p, y :: q, vs, us, b, hp, hq, he, h1, h2, g1, g2 => by
    cases vs with
    | nil => simp at h1
    | cons v vs =>
    cases us with
    | nil => simp at h2
    | cons u us =>
    have r1 : RV B O w β x v := g1 0 (by simp)
    have r2 : RV B O w β y u := g2 0 (by simp)
    simp only [eqvs] at he
    cases e1 : eqv x y with
    | none => simp [e1] at he
    | some b1 =>
      cases e2 : eqvs p q with
      | none => simp [e1, e2] at he
      | some b2 =>
        simp only [e1, e2, Option.some.injEq] at he
        subst he
        obtain ⟨a1, a2, a3⟩ := eqvs_rv (ks := ks) hp.2 hq.2 e2 (by simpa using h1) (by simpa using h2) (fun j hj => by have := g1 (j + 1) (by simpa using hj); simpa using this) (fun j hj => by have := g2 (j + 1) (by simpa using hj); simpa using this)
        refine ⟨⟨kV_rv hp.1 r1, a1⟩, ⟨kV_rv hq.1 r2, a2⟩, ?_⟩
        rw [Bool.and_eq_true, eqv_rv e1 r1 r2, a3]
        simp
  | [], _ :: _, _, _, _, _, hp, _, _, _, _, _, _ => hp.elim
  | [], [], _ :: _, _, _, _, _, hq, _, _, _, _, _ => hq.elim
  | _ :: _, [], _, _, _, _, hp, _, _, _, _, _, _ => hp.elim
  | _ :: _, _ :: _, [], _, _, _, _, hq, _, _, _, _, _ => hq.elim
end

section
variable {P : Program} {nt : Nat} {F : Fr} {s : St} {β : Bt} {a : Act} {w : World} {o : Oper} {Q : Exit → Act → World → Prop}
theorem good_binG (h : Rep nt F s β a w) (hd : ∀ t, o.dst = some t → t < nt) {neg : Bool} {t u : Nat} {fs : Array Field} {x y : Operand} {x' y' : Opd} (ho : o.op = .binOp (if neg = true then .neq else .eql) t x y u)
    (hg : P.eqGuardType P.depth t = false) (hu : P.underlying t = some (.struct fs)) (hkt : P.keyTypeAt 20 t = true) {ks : List Ek} (hks : flatK P 20 t = some ks)
    (hx : opdOk x x' = true) (hy : opdOk y y' = true) {p q : List AV} (hp : Vc.ev s.tm x' = .agg (.gen p)) (hq : Vc.ev s.tm y' = .agg (.gen q)) (k1 : kOks ks p) (k2 : kOks ks q) {b : Bool} (hb : eqvs p q = some b)
    {r : R} (hr : r.v = .bool (b == !neg)) (hm : r.mw = []) : Good P nt F s a w Q o r := by
  have ex := h.ev hx
  have ey := h.ev hy
  rw [hp] at ex
  rw [hq] at ey
  generalize hxe : a.eval x = vx at ex
  generalize hye : a.eval y = vy at ey
  generalize hc1 : Cells.gen p = c1 at ex
  generalize hc2 : Cells.gen q = c2 at ey
  cases ex with
  | agg hl g1 hs =>
  cases ey with
  | agg hl' g1' hs' =>
  subst hc1; subst hc2
  simp only [Cells.len, Cells.get] at hl hl' hs hs'
  rename_i vs us
  obtain ⟨a1, a2, a3⟩ := eqvs_rv k1 k2 hb (by omega) (by omega) hs hs'
  have f1 : (Value.agg vs.toArray).formed P t = true := by
    have := kVs_len a1
    simp [Value.formed, hu]
    have e := flatK_struct hu hks
    omega
  have f2 : (Value.agg us.toArray).formed P t = true := by
    have := kVs_len a2
    simp [Value.formed, hu]
    have e := flatK_struct hu hks
    omega
  obtain ⟨rr, e1, e2⟩ := run_equalIn_deep (P := P) 9980 20 t hkt w 20 20 (.agg vs.toArray) (.agg us.toArray) _ _ f1 f2 (keyLits_flat 20 t ks hks _ (by simpa [Value.cells] using a1) 20 (Nat.le_refl _)) (keyLits_flat 20 t ks hks _ (by simpa [Value.cells] using a2) 20 (Nat.le_refl _))
  have heq : (Op.equal t (.agg vs.toArray) (.agg us.toArray)).run P w = .ok b w := by
    show (Op.equalIn (9980 + 20) t _ _).run P w = _
    rw [e1]
    congr 1
    rw [Bool.eq_iff_iff, a3, e2]
    simp [Value.cells]
  refine good_val h hd (v := .bool (b == !neg)) ?_ hm (by rw [hr]; exact .bool)
  cases neg <;> simp [execOp, ho, hxe, hye, eqGuard, hg, binOp, heq, bne]
end
end Go.Vc
