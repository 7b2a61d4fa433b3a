/- An evaluator of the program's functions on a logical memory, and its soundness, first part. -/
import Derived.RangeFuncIn
import Derived.OrdersIn
import Derived.RangeFuncLeaves
import Derived.Laws.Entries
import Derived.Laws.World
import Derived.Laws.Sem
import Derived.Below
import Derived.RowKit
import Derived.Lib.Strings
import Derived.Laws.Tables
import Derived.Laws.Cells
import Derived.Laws.BytesString
import Derived.Laws.BytesArg
import Derived.MapKept
import Derived.Laws.NewFold
import Derived.IntWalk
import Derived.TacticsIn
import Derived.LoopNIn
section
/- An evaluator of the program's functions on a logical memory (rows by number): definitions only. Its soundness stands in the next texts. -/
namespace Go.LZ
open Go

/-! ### Values: addresses are (row, cell); a slice: (row, first cell, cells of an element), length, known capacity -/
inductive LV where
  | bool (b : Bool)
  | int (k : IntKind) (n : Int)
  | str (s : List UInt8)
  | ptr (p : Option (Nat × Nat))
  | slice (p : Option (Nat × Nat × Nat)) (n k : Nat)
  | map (m : Option Nat)
  | func (f : Nat) (caps : List LV)
  | yield (l : Nat)
  | nilFunc
  | iface (t : Nat) (v : LV)
  | nilIface
  | agg (cs : List LV)
  | tuple (vs : List LV)
  deriving Inhabited
def LV.cells : LV → List LV
  | .agg cs => cs
  | v => [v]
def LV.one : LV → Bool
  | .agg _ | .tuple _ => false
  | _ => true
mutual
def LV.beq : LV → LV → Bool
  | .bool a, .bool b => a == b
  | .int k a, .int j b => decide (k = j) && decide (a = b)
  | .str a, .str b => a == b
  | .ptr a, .ptr b => decide (a = b)
  | .slice p n k, .slice q m j => decide (p = q) && (n == m) && (k == j)
  | .map a, .map b => decide (a = b)
  | .func f a, .func g b => (f == g) && LV.beqs a b
  | .yield a, .yield b => a == b
  | .nilFunc, .nilFunc => true
  | .iface t a, .iface u b => (t == u) && LV.beq a b
  | .nilIface, .nilIface => true
  | .agg a, .agg b => LV.beqs a b
  | .tuple a, .tuple b => LV.beqs a b
  | _, _ => false
def LV.beqs : List LV → List LV → Bool
  | [], [] => true
  | a :: as, b :: bs => LV.beq a b && LV.beqs as bs
  | _, _ => false
end

/-- A text's bytes, as a list that holds no redex. -/
def revB : List UInt8 → List UInt8 → Option (List UInt8)
  | [], acc => some acc
  | p :: ps, acc => revB ps (p :: acc)
def bytesB (s : ByteArray) : Option (List UInt8) := match revB s.data.toList [] with
  | some r => revB r []
  | none => none
/-- A constant, or a zero value, of one cell. -/
def ofV1 : Value → Option LV
  | .bool b => some (.bool b)
  | .int k n => some (.int k n)
  | .string s => match bytesB s with
    | some l => some (.str l)
    | none => none
  | .pointer none => some (.ptr none)
  | .slice none 0 0 => some (.slice none 0 0)
  | .map none => some (.map none)
  | .func (.func f) a b => if a.size = 0 ∧ b.size = 0 then some (.func f []) else none
  | .nilFunc => some .nilFunc
  | .nilIface => some .nilIface
  | _ => none
def ofVs : List Value → Option (List LV)
  | [] => some []
  | v :: vs => match ofV1 v, ofVs vs with
    | some x, some xs => some (x :: xs)
    | _, _ => none
def ofV : Value → Option LV
  | .agg cs => (ofVs cs.toList).map .agg
  | v => ofV1 v

/-! ### Tries over numbers -/
inductive Tr (α : Type) where
  | nil
  | node (v : Option α) (l r : Tr α)
namespace Tr
variable {α : Type}
def get : Tr α → Nat → Option α
  | .nil, _ => none
  | .node v l r, n => if n = 0 then v else if n % 2 = 1 then l.get (n / 2) else r.get (n / 2 - 1)
def setF (v : Option α) : Nat → Tr α → Nat → Option (Tr α)
  | 0, _, _ => none
  | f + 1, .nil, n =>
    if n = 0 then some (.node v .nil .nil)
    else if n % 2 = 1 then match setF v f .nil (n / 2) with
      | some l => some (.node none l .nil)
      | none => none
    else match setF v f .nil (n / 2 - 1) with
      | some r => some (.node none .nil r)
      | none => none
  | f + 1, .node u l r, n =>
    if n = 0 then some (.node v l r)
    else if n % 2 = 1 then match setF v f l (n / 2) with
      | some l' => some (.node u l' r)
      | none => none
    else match setF v f r (n / 2 - 1) with
      | some r' => some (.node u l r')
      | none => none
/-- All places up to n, empty: so the shape stays. (Nested matches: numbers in full.) -/
def blankF : Nat → Nat → Tr α
  | 0, _ => .nil
  | f + 1, n => match n with
    | 0 => .nil
    | n + 1 => match (n + 1) / 2, n / 2 with
      | 0, 0 => .node none .nil .nil
      | 0, b + 1 => .node none .nil (blankF f (b + 1))
      | a + 1, 0 => .node none (blankF f (a + 1)) .nil
      | a + 1, b + 1 => .node none (blankF f (a + 1)) (blankF f (b + 1))
def blank (n : Nat) : Tr α := blankF 64 n
/-- A trie of a list; every other one. -/
def alt : Bool → List α → List α
  | _, [] => []
  | true, x :: l => x :: alt false l
  | false, _ :: l => alt true l
def ofF : Nat → List (Option α) → Tr α
  | 0, _ => .nil
  | _, [] => .nil
  | f + 1, x :: l => .node x (ofF f (alt true l)) (ofF f (alt false l))
def ofL (l : List (Option α)) : Tr α := ofF 64 l
def set (t : Tr α) (n : Nat) (v : α) : Option (Tr α) := setF (some v) (n + 1) t n
def del (t : Tr α) (n : Nat) : Option (Tr α) := setF none (n + 1) t n
end Tr

/-! ### Memory -/
inductive Ex where
  | norm
  | ret
  | exit (id : Nat)
structure FSt where
  n : Nat
  t : Tr LV
inductive Obj where
  | row (elem : Nat) (ro : Bool) (cs : List LV)
  | map (es : List (LV × LV))
  | iter (s : List UInt8) (pos : Nat)
  | loop (state : Nat) (pend : Option Ex) (st : FSt) (params : List Nat) (assign body : Code)
structure H where
  m : Tr Obj
  next : Nat
def H.new (σ : H) (o : Obj) : Option (Nat × H) := (σ.m.set σ.next o).map fun m => (σ.next, ⟨m, σ.next + 1⟩)
def H.upd (σ : H) (r : Nat) (o : Obj) : Option H := (σ.m.set r o).map fun m => ⟨m, σ.next⟩
def H.kill (σ : H) (r : Nat) : Option H := (σ.m.del r).map fun m => ⟨m, σ.next⟩
def FSt.put (s : FSt) (d : Option Nat) (v : LV) : Option FSt :=
  match d with
  | none => some s
  | some d => if d < s.n then match s.t.set d v with
      | some t => some ⟨s.n, t⟩
      | none => none
    else none
def FSt.clr (s : FSt) (d : Option Nat) : Option FSt :=
  match d with
  | none => some s
  | some d => match s.t.del d with
      | some t => some ⟨s.n, t⟩
      | none => none
def FSt.eval (s : FSt) : Operand → Option LV
  | .tmp t => s.t.get t
  | .const v => ofV v
  | .global _ => none
  | .func f => some (.func f [])

variable (P : Program)
def isAggT (t : TypeId) : Option Bool := (P.underlying t).map fun
  | .struct _ | .array _ _ => true
  | _ => false
def sizeT (t : TypeId) : Option Nat := (P.info? t).map (·.size)
def zeroT (t : TypeId) : Option LV := ((P.info? t).bind (·.zero)).bind ofV
def evals (ρ : Operand → Option LV) : List Operand → Option (List LV)
  | [] => some []
  | x :: xs => match ρ x, evals ρ xs with
    | some v, some vs => some (v :: vs)
    | _, _ => none
def isConst : Operand → Bool
  | .const _ => true
  | _ => false

/-! ### Cells -/
def takeAt (cs : List LV) (off n : Nat) : Option (List LV) := if off + n ≤ cs.length then some ((cs.drop off).take n) else none
def putAt (cs : List LV) (off : Nat) (new : List LV) : Option (List LV) :=
  if off + new.length ≤ cs.length then some (cs.take off ++ (new ++ cs.drop (off + new.length))) else none
def partL (t : TypeId) (cs : List LV) (off : Nat) : Option LV :=
  match isAggT P t, sizeT P t with
  | some true, some n => (takeAt cs off n).map .agg
  | some false, _ => cs[off]?
  | _, _ => none
def fillL (place : Nat → Option (Nat × Nat)) (cells : List LV) : List (Nat × LV) → Option (List LV)
  | [] => some cells
  | (i, v) :: rest =>
    match place i with
    | none => none
    | some (off, size) =>
      if v.cells.length = size then
        match putAt cells off v.cells with
        | some cs => fillL place cs rest
        | none => none
      else none
def readRow (σ : H) (r off n : Nat) : Option (List LV) :=
  match σ.m.get r with
  | some (.row _ _ cs) => takeAt cs off n
  | _ => none
def loadL (t : TypeId) (σ : H) (r off : Nat) : Option LV :=
  match σ.m.get r, isAggT P t, sizeT P t with
  | some (.row _ _ cs), some true, some n => (takeAt cs off n).map .agg
  | some (.row _ _ cs), some false, _ => cs[off]?
  | _, _, _ => none
def writeRow (σ : H) (r off : Nat) (new : List LV) : Option H :=
  match σ.m.get r with
  | some (.row e false cs) => match putAt cs off new with
    | some cs' => σ.upd r (.row e false cs')
    | none => none
  | _ => none
def allOne (cs : List LV) : Bool := cs.all LV.one

/-! ### Operators -/
def strLess : List UInt8 → List UInt8 → Bool
  | _, [] => false
  | [], _ :: _ => true
  | a :: x, b :: y => a < b || (a == b && strLess x y)
def intBin (op : BinOp) (k j : IntKind) (a b : Int) : Option LV :=
  match op with
  | .shl => if b < 0 then none else some (.int k (k.wrap (a * 2 ^ min b.toNat k.bits)))
  | .shr => if b < 0 then none else some (.int k (a.fdiv (2 ^ min b.toNat k.bits)))
  | _ => if k = j then
    match op with
    | .add => some (.int k (k.wrap (a + b)))
    | .sub => some (.int k (k.wrap (a - b)))
    | .mul => some (.int k (k.wrap (a * b)))
    | .quo => if b = 0 then none else some (.int k (k.wrap (a.tdiv b)))
    | .rem => if b = 0 then none else some (.int k (a.tmod b))
    | .and => some (.int k (k.wrap (BitVec.ofInt k.bits a &&& BitVec.ofInt k.bits b).toNat))
    | .or => some (.int k (k.wrap (BitVec.ofInt k.bits a ||| BitVec.ofInt k.bits b).toNat))
    | .xor => some (.int k (k.wrap (BitVec.ofInt k.bits a ^^^ BitVec.ofInt k.bits b).toNat))
    | .andNot => some (.int k (k.wrap (BitVec.ofInt k.bits a &&& ~~~(BitVec.ofInt k.bits b)).toNat))
    | .eql => some (.bool (a == b))
    | .neq => some (.bool (a != b))
    | .lss => some (.bool (decide (a < b)))
    | .leq => some (.bool (decide (a ≤ b)))
    | .gtr => some (.bool (decide (a > b)))
    | .geq => some (.bool (decide (a ≥ b)))
    | _ => none
    else none
def strBin (op : BinOp) (a b : List UInt8) : Option LV :=
  match op with
  | .add => if a.length + b.length ≤ 9223372036854775807 then some (.str (a ++ b)) else none
  | .eql => some (.bool (a == b))
  | .neq => some (.bool !(a == b))
  | .lss => some (.bool (strLess a b))
  | .leq => some (.bool (strLess a b || a == b))
  | .gtr => some (.bool !(strLess a b || a == b))
  | .geq => some (.bool !(strLess a b))
  | _ => none
/-- '==' of what is no number and no text. -/
def eqL (t : TypeId) (c : Bool) (x y : LV) : Option Bool :=
  match P.underlying t, x, y with
  | some .bool, .bool a, .bool b => some (a == b)
  | some (.pointer _), .ptr none, .ptr b => some b.isNone
  | some (.pointer _), .ptr (some _), .ptr none => some false
  | some (.pointer e), .ptr (some (r, i)), .ptr (some (s, j)) =>
    match sizeT P e with
    | some n => if n ≠ 0 ∧ r = s then some (i == j) else none
    | none => none
  | some (.slice _), .slice none _ _, .slice b _ _ => some b.isNone
  | some (.slice _), .slice (some _) _ _, .slice none _ _ => some false
  | some (.map _ _), .map none, .map b => some b.isNone
  | some (.map _ _), .map (some _), .map none => some false
  | some (.func _ _ _), .nilFunc, .nilFunc => some true
  | some (.func _ _ _), .nilFunc, .func _ _ => some false
  | some (.func _ _ _), .func _ _, .nilFunc => some false
  | some (.func _ _ _), .nilFunc, .yield _ => some false
  | some (.func _ _ _), .yield _, .nilFunc => some false
  | some (.interface _), .nilIface, .nilIface => if c then some true else none
  | some (.interface _), .nilIface, .iface _ _ => some false
  | some (.interface _), .iface _ _, .nilIface => some false
  | _, _, _ => none
def binL (op : BinOp) (t : TypeId) (c : Bool) (x y : LV) : Option LV :=
  match x, y with
  | .int k a, .int j b => intBin op k j a b
  | .str a, .str b => strBin op a b
  | x, y => match op with
    | .eql => (eqL P t c x y).map .bool
    | .neq => (eqL P t c x y).map fun b => .bool !b
    | _ => none
def unL (op : UnOp) (x : LV) : Option LV :=
  match op, x with
  | .neg, .int k n => some (.int k (k.wrap (0 - n)))
  | .xor, .int k n => some (.int k (k.wrap (BitVec.ofInt k.bits (if k.signed then -1 else k.max) ^^^ BitVec.ofInt k.bits n).toNat))
  | .not, .bool b => some (.bool !b)
  | _, _ => none
def bound (x : Option LV) (most dflt : Nat) : Option Nat :=
  match x with
  | none => some dflt
  | some (.int _ n) => if 0 ≤ n ∧ n ≤ most then some n.toNat else none
  | _ => none
def sliceL (t : TypeId) (x : LV) (lo hi mx : Option LV) : Option LV :=
  match P.underlying t, x with
  | some .string, .str s =>
    match mx, bound hi s.length s.length with
    | none, some h => match bound lo h 0 with
      | some l => some (.str ((s.take h).drop l))
      | none => none
    | _, _ => none
  | some (.slice e), .slice p n k =>
    match mx, sizeT P e with
    | none, some sz => match bound hi k n with
      | some h => match bound lo h 0 with
        | some l => match p with
          | none => some (.slice none 0 0)
          | some (r, off, z) => if z = sz then some (.slice (some (r, off + l * sz, sz)) (h - l) (k - l)) else none
        | none => none
      | none => none
    | _, _ => none
  | _, _ => none
def optEval (ρ : Operand → Option LV) : Option Operand → Option (Option LV)
  | none => some none
  | some x => (ρ x).map some

/-- Operations that touch no memory. -/
def opP (ρ : Operand → Option LV) : Op → Option LV
  | .move x | .assign x => ρ x
  | .pick c a b => match ρ c with
    | some (.bool true) => ρ a
    | some (.bool false) => ρ b
    | _ => none
  | .nilCheck x => match ρ x with
    | some (.ptr none) | some .nilIface | some .nilFunc => none
    | v => v
  | .binOp op t x y _ => match ρ x, ρ y with
    | some a, some b => binL P op t (isConst x || isConst y) a b
    | _, _ => none
  | .unOp op _ x => (ρ x).bind (unL op)
  | .convert src dst x => match P.underlying src, P.underlying dst, ρ x with
    | some (.int _), some (.int k), some (.int _ n) => some (.int k (k.wrap n))
    | some .string, some .string, some (.str s) => some (.str s)
    | some (.int _), some .string, some (.int _ n) => some (.str (Utf8.encode n).data.toList)
    | _, _, _ => none
  | .makeInterface t x => match P.underlying t, ρ x with
    | some (.interface _), _ => none
    | some _, some v => some (.iface t v)
    | _, _ => none
  | .makeFunc fn first captured => match fn, first.toList, evals ρ captured.toList with
    | .func f, [], some vs => some (.func f vs)
    | _, _, _ => none
  | .extract x i => match ρ x with
    | some (.tuple vs) => vs[i]?
    | _ => none
  | .field t x i => match P.underlying t, ρ x with
    | some (.struct fs), some (.agg cs) => match fs[i]? with
      | some f => partL P f.type cs f.offset
      | none => none
    | _, _ => none
  | .index t x i => match P.underlying t, ρ x, ρ i with
    | some .string, some (.str s), some (.int _ n) => if 0 ≤ n then (s[n.toNat]?).map fun b => .int .u8 b.toNat else none
    | some (.array m e), some (.agg cs), some (.int _ n) => match sizeT P e with
      | some sz => if 0 ≤ n ∧ n < m then partL P e cs (n.toNat * sz) else none
      | none => none
    | _, _, _ => none
  | .fieldAddr t x i => match P.underlying t, ρ x with
    | some (.struct fs), some (.ptr (some (r, off))) => match fs[i]? with
      | some f => match sizeT P f.type with
        | some (_ + 1) => some (.ptr (some (r, off + f.offset)))
        | _ => none
      | none => none
    | _, _ => none
  | .indexAddr t x i => match P.underlying t, ρ x, ρ i with
    | some (.slice e), some (.slice (some (r, off, z)) n _), some (.int _ j) => match sizeT P e with
      | some sz => if z = sz ∧ 0 ≤ j ∧ j < n then some (.ptr (some (r, off + j.toNat * sz))) else none
      | none => none
    | some (.array m e), some (.ptr (some (r, off))), some (.int _ j) => match sizeT P e with
      | some sz => if 0 ≤ j ∧ j < m then some (.ptr (some (r, off + j.toNat * sz))) else none
      | none => none
    | _, _, _ => none
  | .slice t x lo hi mx => match ρ x, optEval ρ lo, optEval ρ hi, optEval ρ mx with
    | some v, some l, some h, some m => sliceL P t v l h m
    | _, _, _, _ => none
  | .build t parts => match P.info? t, P.underlying t, evals ρ (parts.toList.map (·.2)) with
    | some it, some (.struct fs), some vs => match it.zero.bind ofV, fs.toList.mapM (fun f => (P.info? f.type).map fun i => (f.offset, i.size)) with
      | some z, some places => (fillL (fun i => places[i]?) z.cells ((parts.toList.map (·.1)).zip vs)).map .agg
      | _, _ => none
    | some it, some (.array _ e), some vs => match it.zero.bind ofV, P.info? e with
      | some z, some ie => (fillL (fun i => some (i * ie.size, ie.size)) z.cells ((parts.toList.map (·.1)).zip vs)).map .agg
      | _, _ => none
    | _, _, _ => none
  | .call c => match c.callee, c.argTypes.toList, evals ρ c.args.toList with
    | .builtin .len, [t], some [x] => match P.underlying t, x with
      | some .string, .str s => some (.int .i64 s.length)
      | some (.slice _), .slice _ n _ => some (.int .i64 n)
      | _, _ => none
    | .builtin .min, _, some (.int k a :: rest) => rest.foldl (fun acc y => match acc, y with
      | some (.int k x), .int _ y => some (.int k (if y < x then y else x))
      | _, _ => none) (some (.int k a))
    | .builtin .max, _, some (.int k a :: rest) => rest.foldl (fun acc y => match acc, y with
      | some (.int k x), .int _ y => some (.int k (if y > x then y else x))
      | _, _ => none) (some (.int k a))
    | _, _, _ => none
  | _ => none

def bytesOfCells : List LV → Option (List UInt8)
  | [] => some []
  | .int .u8 n :: cs => (bytesOfCells cs).map fun l => UInt8.ofNat n.toNat :: l
  | _ => none
def cellsOfBytes (s : List UInt8) : List LV := s.map fun b => .int .u8 b.toNat
def findKeyL (k : LV) : List (LV × LV) → Nat → Option (Option (Nat × LV))
  | [], _ => some none
  | (k', v) :: es, i => match k, k' with
    | .int j a, .int j' b => if j = j' then if a = b then some (some (i, v)) else findKeyL k es (i + 1) else none
    | .str a, .str b => if a = b then some (some (i, v)) else findKeyL k es (i + 1)
    | .bool a, .bool b => if a = b then some (some (i, v)) else findKeyL k es (i + 1)
    | _, _ => none
def mapOf (σ : H) : LV → Option (List (LV × LV))
  | .map none => some []
  | .map (some r) => match σ.m.get r with
    | some (.map es) => some es
    | _ => none
  | _ => none
def keyT (t : TypeId) (k : LV) : Bool :=
  match P.underlying t, k with
  | some (.int k), .int j _ => decide (k = j)
  | some .string, .str _ => true
  | some .bool, .bool _ => true
  | _, _ => false
/-- Operations that only read memory. -/
def opR (ρ : Operand → Option LV) (σ : H) : Op → Option LV
  | .load t x => match ρ x with
    | some (.ptr (some (r, off))) => loadL P t σ r off
    | _ => none
  | .convert src dst x => match P.underlying src, P.underlying dst, ρ x with
    | some (.slice e), some .string, some (.slice p n _) => match P.underlying e, p with
      | some (.int .u8), none => some (.str [])
      | some (.int .u8), some (r, off, z) => if z = 1 then ((readRow σ r off n).bind bytesOfCells).map .str else none
      | _, _ => none
    | _, _, _ => none
  | .lookup t x k ok => match P.underlying t, ρ x, ρ k with
    | some (.map kt et), some m, some key => if keyT P kt key then
      match mapOf σ m with
      | some es => match findKeyL key es 0, zeroT P et with
        | some (some (_, v)), _ => some (if ok then .tuple [v, .bool true] else v)
        | some none, some z => some (if ok then .tuple [z, .bool false] else z)
        | _, _ => none
      | none => none
      else none
    | _, _, _ => none
  | .call c => match c.callee, c.argTypes.toList, evals ρ c.args.toList with
    | .builtin .len, [t], some [x] => match P.underlying t with
      | some (.map _ _) => (mapOf σ x).map fun es => .int .i64 es.length
      | _ => none
    | _, _, _ => none
  | _ => none

/-! ### Operations that make or write memory (no call) -/
def srcCells (σ : H) (sz : Nat) : LV → Option (List LV)
  | .slice none _ _ => some []
  | .slice (some (r, off, z)) n _ => if z = sz then readRow σ r off (n * sz) else none
  | .str s => if sz = 1 then some (cellsOfBytes s) else none
  | _ => none
def lenL : LV → Nat
  | .slice _ n _ => n
  | .str s => s.length
  | _ => 0
def repCells (z : List LV) : Nat → List LV
  | 0 => []
  | n + 1 => z ++ repCells z n
def most : Nat := 70368744177664
def appendL (sz bytes e : Nat) (σ : H) (base : LV) (new : List LV) (m : Nat) : Option (LV × H) :=
  match base with
  | .slice p n k =>
    if n + m ≤ k then
      match p with
      | none => some (.slice none n k, σ)
      | some (r, off, z) => if z = sz then (writeRow σ r (off + n * sz) new).map fun σ' => (.slice (some (r, off, sz)) (n + m) k, σ') else none
    else if (n + m) * (bytes + 1) ≤ most ∧ n + m ≤ most then
      match p with
      | none => if n = 0 then (σ.new (.row e false new)).map fun (r', σ') => (.slice (some (r', 0, sz)) m m, σ') else none
      | some (r, off, z) => if z = sz then
          match σ.m.get r with
          | some (.row e' false cs) => if e' = e then
            match takeAt cs off (n * sz), σ.kill r with
            | some old, some σ1 => (σ1.new (.row e false (old ++ new))).map fun (r', σ') => (.slice (some (r', 0, sz)) (n + m) (n + m), σ')
            | _, _ => none
            else none
          | _ => none
        else none
    else none
  | _ => none
def opE (ρ : Operand → Option LV) (σ : H) : Op → Option (Option LV × H)
  | .alloc e => match zeroT P e with
    | some z => (σ.new (.row e false z.cells)).map fun (r, σ') => (some (.ptr (some (r, 0))), σ')
    | none => none
  | .box e x => match ρ x with
    | some v => if allOne v.cells then (σ.new (.row e false v.cells)).map fun (r, σ') => (some (.ptr (some (r, 0))), σ') else none
    | none => none
  | .buildSlice t n parts => match P.underlying t with
    | some (.slice e) => match sizeT P e, zeroT P e, evals ρ (parts.toList.map (·.2)) with
      | some (sz + 1), some z, some vs => if n * (sz + 1) ≤ 16777216 ∧ z.cells.length = sz + 1 then
        match fillL (fun i => some (i * (sz + 1), sz + 1)) (repCells z.cells n) ((parts.toList.map (·.1)).zip vs) with
        | some cs => if allOne cs then (σ.new (.row e false cs)).map fun (r, σ') => (some (.slice (some (r, 0, sz + 1)) n n), σ') else none
        | none => none
        else none
      | _, _, _ => none
    | _ => none
  | .makeSlice t l c => match P.underlying t, ρ l, ρ c with
    | some (.slice e), some (.int _ ln), some (.int _ cn) => match P.info? e, zeroT P e with
      | some i, some z => if 0 ≤ ln ∧ ln ≤ cn ∧ cn ≤ 1048576 ∧ i.bytes ≤ 65536 ∧ z.cells.length = i.size ∧ 0 < i.size then
        (σ.new (.row e false (repCells z.cells cn.toNat))).map fun (r, σ') => (some (.slice (some (r, 0, i.size)) ln.toNat cn.toNat), σ')
        else none
      | _, _ => none
    | _, _, _ => none
  | .makeMap t none => match P.underlying t with
    | some (.map _ _) => (σ.new (.map [])).map fun (r, σ') => (some (.map (some r)), σ')
    | _ => none
  | .store t a x => match ρ a, ρ x, sizeT P t with
    | some (.ptr (some (r, off))), some v, some n => if v.cells.length = n ∧ allOne v.cells then (writeRow σ r off v.cells).map fun σ' => (none, σ') else none
    | _, _, _ => none
  | .mapUpdate t m k x => match P.underlying t, ρ m, ρ k, ρ x with
    | some (.map kt _), some (.map (some r)), some key, some v => if keyT P kt key then
      match σ.m.get r with
      | some (.map es) => match findKeyL key es 0 with
        | some (some (i, _)) => (σ.upd r (.map (es.set i (key, v)))).map fun σ' => (none, σ')
        | some none => (σ.upd r (.map (es ++ [(key, v)]))).map fun σ' => (none, σ')
        | none => none
      | _ => none
      else none
    | _, _, _, _ => none
  | .convert src dst x => match P.underlying src, P.underlying dst, ρ x with
    | some .string, some (.slice e), some (.str s) => match P.underlying e, sizeT P e with
      | some (.int .u8), some 1 => (σ.new (.row e false (cellsOfBytes s))).map fun (r, σ') => (some (.slice (some (r, 0, 1)) s.length s.length), σ')
      | _, _ => none
    | some (.slice _), some (.slice e), some (.slice (some (r, off, z)) n k) => if src = dst ∧ 0 < k then match P.underlying e with
      | some (.int .u8) => match σ.m.get r with
        | some (.row _ false _) => some (some (.slice (some (r, off, z)) n k), σ)
        | _ => none
      | _ => none
      else none
    | _, _, _ => none
  | .range t x => match P.underlying t, ρ x with
    | some .string, some (.str s) => (σ.new (.iter s 0)).map fun (r, σ') => (some (.ptr (some (r, 0))), σ')
    | _, _ => none
  | .next it true => match ρ it with
    | some (.ptr (some (r, 0))) => match σ.m.get r with
      | some (.iter s pos) => if pos < s.length then
          let (c, w) := Utf8.decode ⟨s.toArray⟩ pos
          (σ.upd r (.iter s (pos + w))).map fun σ' => (some (.tuple [.bool true, .int .i64 pos, .int .i32 c]), σ')
        else some (some (.tuple [.bool false]), σ)
      | _ => none
    | _ => none
  | .call c => match c.callee, c.argTypes.toList, evals ρ c.args.toList with
    | .builtin .append, [t, u], some [s, x] => match P.underlying t, P.underlying u with
      | some (.slice e), some ud => match P.info? e, zeroT P e with
        | some i, some z => if 0 < i.size ∧ z.cells.length = i.size then
          match ud, x with
          | .int _, .int _ n => if 0 ≤ n ∧ n ≤ 1048576 ∧ i.bytes ≤ 65536 then (appendL i.size i.bytes e σ s (repCells z.cells n.toNat) n.toNat).map fun (v, σ') => (some v, σ') else none
          | .int _, _ => none
          | _, x => match srcCells σ i.size x with
            | some new => if new.length = lenL x * i.size then (appendL i.size i.bytes e σ s new (lenL x)).map fun (v, σ') => (some v, σ') else none
            | none => none
          else none
        | _, _ => none
      | _, _ => none
    | .builtin .copy, [t, _], some [.slice p n _, x] => match P.underlying t with
      | some (.slice e) => match sizeT P e with
        | some (sz + 1) => match srcCells σ (sz + 1) x with
          | some new => match p with
            | none => some (some (.int .i64 0), σ)
            | some (r, off, z) => if z = sz + 1 then (writeRow σ r off (new.take (min (lenL x) n * (sz + 1)))).map fun σ' => (some (.int .i64 (min (lenL x) n)), σ') else none
          | none => none
        | _ => none
      | _ => none
    | .builtin .clear, [t], some [.slice p n _] => match P.underlying t with
      | some (.slice e) => match sizeT P e, zeroT P e, p with
        | some (sz + 1), some z, some (r, off, y) => if y = sz + 1 ∧ z.cells.length = sz + 1 then (writeRow σ r off (repCells z.cells n)).map fun σ' => (some (.tuple []), σ') else none
        | _, _, none => some (some (.tuple []), σ)
        | _, _, _ => none
      | _ => none
    | _, _, _ => none
  | _ => none

/-! ### Code -/
/-- No range over a function within. -/
def flat : Code → Bool
  | .rangeFunc .. => false
  | .seq a b => flat a && flat b
  | .cond _ a b => flat a && flat b
  | .block _ b => flat b
  | .loop b => flat b
  | .scope b => flat b
  | _ => true
structure Rn where
  code : Code → FSt → H → Option (Ex × FSt × H)
  call : Nat → List LV → H → Option (LV × H)
  yld : Nat → List LV → H → Option (LV × H)
def Rn.none : Rn := ⟨fun _ _ _ => Option.none, fun _ _ _ => Option.none, fun _ _ _ => Option.none⟩
def Rn.callV (R : Rn) (f : LV) (args : List LV) (σ : H) : Option (LV × H) :=
  match f with
  | .func id caps => R.call id (args ++ caps) σ
  | .yield l => R.yld l args σ
  | _ => Option.none
/-- What kind of operation: 0 touches no memory, 1 reads, 2 makes or writes (or calls). -/
def kindOf (o : Oper) : Nat :=
  match o.op with
  | .load .. | .lookup .. => 1
  | .convert src dst _ => match P.underlying src, P.underlying dst with
    | some (.slice _), some (.slice _) => 2
    | some (.slice _), _ => 1
    | some .string, some (.slice _) => 2
    | _, _ => 0
  | .call c => match c.callee, c.argTypes.toList with
    | .builtin .len, [t] => match P.underlying t with
      | some (.map _ _) => 1
      | _ => 0
    | .builtin .min, _ | .builtin .max, _ => 0
    | _, _ => 2
  | .alloc _ | .box .. | .buildSlice .. | .makeSlice .. | .makeMap .. | .store .. | .mapUpdate .. | .range .. | .next .. => 2
  | _ => 0
def opL (R : Rn) (ρ : Operand → Option LV) (o : Oper) (σ : H) : Option (Option LV × H) :=
  match kindOf P o with
  | 0 => (opP P ρ o.op).map fun v => (some v, σ)
  | 1 => (opR P ρ σ o.op).map fun v => (some v, σ)
  | _ => match o.op with
    | .call c => match c.callee with
      | .value f => match ρ f, evals ρ c.args.toList with
        | some fv, some vs => (R.callV fv vs σ).map fun (v, σ') => (some v, σ')
        | _, _ => none
      | _ => opE P ρ σ o.op
    | _ => opE P ρ σ o.op
def putL (o : Oper) (s : FSt) : Option LV → Option FSt
  | some v => s.put o.dst v
  | none => match o.dst with
    | none => some s
    | some _ => none
def guardL (ops : Array Oper) (s : FSt) (o : Oper) : Option Bool :=
  match o.guard with
  | none => some true
  | some (j, want) => match (ops[j]?).bind (·.dst) with
    | some d => match s.t.get d with
      | some (.bool b) => some (b == want)
      | some _ => none
      | none => some false
    | none => some false
def opsL (R : Rn) (ops : Array Oper) : List Oper → FSt → H → Option (FSt × H)
  | [], s, σ => some (s, σ)
  | o :: rest, s, σ => match guardL ops s o with
    | some true => match opL P R s.eval o σ with
      | some (v, σ') => match putL o s v with
        | some s' => opsL R ops rest s' σ'
        | none => none
      | none => none
    | some false => match s.clr o.dst with
      | some s' => opsL R ops rest s' σ
      | none => none
    | none => none

/-! ### A region that draws its order: the text's order, and a look that no order tells -/
structure Rec where
  i : Nat
  op : Op
  ρ : Operand → Option LV
  v : LV
def lookEval (ls : List Nat) (s : FSt) : Operand → Option LV
  | .tmp t => if ls.contains t then s.t.get t else none
  | x => s.eval x
/-- What an operation looks at: its operands, and its guard's yield. -/
def looks (ops : Array Oper) (o : Oper) : List Nat :=
  (o.op.operands.toList.filterMap fun | .tmp t => some t | _ => none) ++
  (match o.guard with
   | some (g, _) => ((ops[g]?).bind (·.dst)).toList
   | none => [])
def runD (R : Rn) (ops : Array Oper) : List Oper → Nat → FSt → H → List Rec → List (Nat × H) → Option (FSt × H × List Rec × List (Nat × H))
  | [], _, s, σ, rs, hs => some (s, σ, rs, hs)
  | o :: rest, i, s, σ, rs, hs =>
    match guardL ops s o with
    | some true => match opL P R (lookEval (looks ops o) s) o σ with
      | some (v, σ') => match putL o s v with
        | some s' =>
          if kindOf P o = 0 then runD R ops rest (i + 1) s' σ' rs hs
          else if kindOf P o = 1 then match v with
            | some x => runD R ops rest (i + 1) s' σ' (⟨i, o.op, lookEval (looks ops o) s, x⟩ :: rs) hs
            | none => none
          else runD R ops rest (i + 1) s' σ' rs ((i + 1, σ') :: hs)
        | none => none
      | none => none
    | some false => match s.clr o.dst with
      | some s' => if kindOf P o ≤ 1 then runD R ops rest (i + 1) s' σ rs hs else runD R ops rest (i + 1) s' σ rs ((i + 1, σ) :: hs)
      | none => none
    | none => none
def aparts (ops : Array Oper) (x y : Oper) : Bool :=
  (match x.dst with
   | some d => !(looks ops y).contains d && y.dst != some d
   | none => true) &&
  (match y.dst with
   | some d => !(looks ops x).contains d
   | none => true)
/-- Which operations come before each, in every order. -/
def befOne (acc : List Nat) (o : Oper) : Nat := o.after.toList.foldl (fun s e => if Region.binds .any e then s ||| 2 ^ e.on ||| acc.getD e.on 0 else s) 0
def befL : List Oper → List Nat → List Nat
  | [], acc => acc
  | o :: r, acc => befL r (acc ++ [befOne acc o])
def bef (ops : Array Oper) : List Nat := befL ops.toList []
def isEff (ops : Array Oper) (i : Nat) : Bool := match ops[i]? with
  | some o => 2 ≤ kindOf P o
  | none => false
def drawOK (ops : Array Oper) : Bool :=
  let b := bef ops
  (List.range ops.size).all fun j => match ops[j]? with
    | none => false
    | some o => (o.after.all fun e => decide (e.on < j) || !Region.binds .any e) &&
      (List.range j).all fun i => (b.getD j 0).testBit i || match ops[i]? with
        | some q => aparts ops q o && !(isEff P ops i && isEff P ops j)
        | none => false
/-- Does a read tell the same at every time at which it may come? -/
def readsOK (ops : Array Oper) (hs : List (Nat × H)) (rs : List Rec) : Bool :=
  let b := bef ops
  rs.all fun r => hs.all fun (k, σ) =>
    (decide (0 < k) && (b.getD (k - 1) 0).testBit r.i) ||
    (hs.any fun (e, _) => decide (k < e) && (b.getD r.i 0).testBit (e - 1)) ||
    match opR P r.ρ σ r.op with
    | some v => v.beq r.v
    | none => false
def drawL (R : Rn) (ops : Array Oper) (s : FSt) (σ : H) : Option (FSt × H) :=
  if drawOK P ops then
    match runD P R ops ops.toList 0 s σ [] [(0, σ)] with
    | some (s', σ', rs, hs) => if readsOK P ops hs rs then some (s', σ') else none
    | none => none
  else none

def setAll (s : FSt) : List Nat → List LV → Option FSt
  | [], [] => some s
  | d :: ds, v :: vs => match s.put (some d) v with
    | some s' => setAll s' ds vs
    | none => none
  | _, _ => none
def argsL (n : Nat) : Nat → List LV → Tr LV → Option (Tr LV)
  | _, [], t => some t
  | i, v :: vs, t => if i < n then match t.set i v with
    | some t' => argsL n (i + 1) vs t'
    | none => none
    else none
def resultL (s : FSt) (σ : H) : ResultVar → Option LV
  | .tmp t => s.t.get t
  | .cell a t => match s.t.get a with
    | some (.ptr (some (r, off))) => loadL P t σ r off
    | _ => none
def resultsL (s : FSt) (σ : H) : List ResultVar → Option (List LV)
  | [] => some []
  | x :: xs => match resultL P s σ x, resultsL s σ xs with
    | some v, some vs => some (v :: vs)
    | _, _ => none
def outL : List LV → LV
  | [v] => v
  | vs => .tuple vs

variable (ext : Nat → Option (List LV → H → Option (LV × H)))
def step (R : Rn) : Rn := {
  code c s σ := match c with
    | .skip | .label _ => some (.norm, s, σ)
    | .region _ ops false => (opsL P R ops ops.toList s σ).map fun (s', σ') => (.norm, s', σ')
    | .region _ ops true => (drawL P R ops s σ).map fun (s', σ') => (.norm, s', σ')
    | .seq a b => match R.code a s σ with
      | some (.norm, s', σ') => R.code b s' σ'
      | r => r
    | .cond x a b => match s.eval x with
      | some (.bool true) => R.code a s σ
      | some (.bool false) => R.code b s σ
      | _ => none
    | .block id b => match R.code b s σ with
      | some (.exit j, s', σ') => some (if j = id then .norm else .exit j, s', σ')
      | r => r
    | .loop b => match R.code b s σ with
      | some (.norm, s', σ') => R.code (.loop b) s' σ'
      | r => r
    | .scope b => R.code b s σ
    | .exit id => some (.exit id, s, σ)
    | .ret => some (.ret, s, σ)
    | .rangeFunc g ps asg body => if flat asg && flat body then match s.eval g, σ.new (.loop 0 none s ps.toList asg body) with
      | some (.func f caps), some (l, σ1) => match R.call f (.yield l :: caps) σ1 with
        | some (_, σ2) => match σ2.m.get l with
          | some (.loop st pend _ _ _ _) => if st = 1 then none else
            match σ2.kill l with
            | some σ3 => some (pend.getD .norm, s, σ3)
            | none => none
          | _ => none
        | none => none
      | _, _ => none
      else none
    | _ => none
  call f args σ := match ext f with
    | some g => g args σ
    | none => match P.funcs[f]? with
      | none => none
      | some fn => match fn.body, argsL fn.ntmps 0 args (.blank fn.ntmps) with
        | some c, some t => match R.code c ⟨fn.ntmps, t⟩ σ with
          | some (.norm, s, σ') | some (.ret, s, σ') => (resultsL P s σ' fn.results.toList).map fun vs => (outL vs, σ')
          | _ => none
        | _, _ => none
  yld l args σ := match σ.m.get l with
    | some (.loop 0 _ st ps asg body) => match setAll st ps args with
      | some s0 => match R.code asg s0 σ with
        | some (.norm, s1, σ1) => match σ1.m.get l with
          | some (.loop 0 p1 st1 ps1 asg1 body1) => match σ1.upd l (.loop 1 p1 st1 ps1 asg1 body1) with
            | some σ2 => if flat asg && flat body then match R.code body s1 σ2 with
              | some (e, _, σ3) => match σ3.m.get l with
                | some (.loop _ _ st3 ps3 asg3 body3) => match e with
                  | .norm => (σ3.upd l (.loop 0 none st3 ps3 asg3 body3)).map fun σ4 => (.bool true, σ4)
                  | e => (σ3.upd l (.loop 2 (some e) st3 ps3 asg3 body3)).map fun σ4 => (.bool false, σ4)
                | _ => none
              | none => none
              else none
            | none => none
          | _ => none
        | _ => none
      | none => none
    | _ => none }
def run : Nat → Rn
  | 0 => Rn.none
  | n + 1 => step P ext (run n)
end Go.LZ
end
section
/- The evaluator's soundness, part 1: tries, and how logical values and memory stand to the machine's. -/
namespace Go.LZ
open Go

namespace Tr
variable {α : Type}
theorem get_setF {v : Option α} : ∀ {f : Nat} {t t' : Tr α} {n : Nat}, setF v f t n = some t' → t'.get n = v ∧ ∀ m, m ≠ n → t'.get m = t.get m := by
  intro f
  induction f with
  | zero => intro t t' n h; simp [setF] at h
  | succ f ih =>
    intro t t' n h
    cases t with
    | nil =>
      simp only [setF] at h
      by_cases h0 : n = 0
      · rw [if_pos h0] at h
        obtain rfl := Option.some.inj h
        subst h0
        refine ⟨by simp [get], fun m hm => ?_⟩
        simp only [get, if_neg hm]
        split <;> rfl
      · rw [if_neg h0] at h
        by_cases h1 : n % 2 = 1
        · rw [if_pos h1] at h
          obtain ⟨l, hl, rfl⟩ : ∃ l, setF v f .nil (n / 2) = some l ∧ Tr.node none l Tr.nil = t' := by
            split at h
            · rename_i q hq; exact ⟨q, hq, Option.some.inj h⟩
            · cases h
          obtain ⟨a, b⟩ := ih hl
          refine ⟨by simp only [get, if_neg h0, if_pos h1]; exact a, fun m hm => ?_⟩
          simp only [get]
          by_cases m0 : m = 0
          · rw [if_pos m0]
          · rw [if_neg m0]
            by_cases m1 : m % 2 = 1
            · rw [if_pos m1, b _ (by omega)]; rfl
            · rw [if_neg m1]
        · rw [if_neg h1] at h
          obtain ⟨l, hl, rfl⟩ : ∃ l, setF v f .nil (n / 2 - 1) = some l ∧ Tr.node none Tr.nil l = t' := by
            split at h
            · rename_i q hq; exact ⟨q, hq, Option.some.inj h⟩
            · cases h
          obtain ⟨a, b⟩ := ih hl
          refine ⟨by simp only [get, if_neg h0, if_neg h1]; exact a, fun m hm => ?_⟩
          simp only [get]
          by_cases m0 : m = 0
          · rw [if_pos m0]
          · rw [if_neg m0]
            by_cases m1 : m % 2 = 1
            · rw [if_pos m1]
            · rw [if_neg m1, b _ (by omega)]; rfl
    | node u l r =>
      simp only [setF] at h
      by_cases h0 : n = 0
      · rw [if_pos h0] at h
        obtain rfl := Option.some.inj h
        subst h0
        refine ⟨by simp [get], fun m hm => ?_⟩
        simp only [get, if_neg hm]
      · rw [if_neg h0] at h
        by_cases h1 : n % 2 = 1
        · rw [if_pos h1] at h
          obtain ⟨l', hl, rfl⟩ : ∃ l', setF v f l (n / 2) = some l' ∧ Tr.node u l' r = t' := by
            split at h
            · rename_i q hq; exact ⟨q, hq, Option.some.inj h⟩
            · cases h
          obtain ⟨a, b⟩ := ih hl
          refine ⟨by simp only [get, if_neg h0, if_pos h1]; exact a, fun m hm => ?_⟩
          simp only [get]
          by_cases m0 : m = 0
          · rw [if_pos m0, if_pos m0]
          · rw [if_neg m0, if_neg m0]
            by_cases m1 : m % 2 = 1
            · rw [if_pos m1, if_pos m1, b _ (by omega)]
            · rw [if_neg m1, if_neg m1]
        · rw [if_neg h1] at h
          obtain ⟨l', hl, rfl⟩ : ∃ l', setF v f r (n / 2 - 1) = some l' ∧ Tr.node u l l' = t' := by
            split at h
            · rename_i q hq; exact ⟨q, hq, Option.some.inj h⟩
            · cases h
          obtain ⟨a, b⟩ := ih hl
          refine ⟨by simp only [get, if_neg h0, if_neg h1]; exact a, fun m hm => ?_⟩
          simp only [get]
          by_cases m0 : m = 0
          · rw [if_pos m0, if_pos m0]
          · rw [if_neg m0, if_neg m0]
            by_cases m1 : m % 2 = 1
            · rw [if_pos m1, if_pos m1]
            · rw [if_neg m1, if_neg m1, b _ (by omega)]
theorem get_set {t t' : Tr α} {n : Nat} {v : α} (h : t.set n v = some t') : t'.get n = some v ∧ ∀ m, m ≠ n → t'.get m = t.get m := get_setF h
theorem get_del {t t' : Tr α} {n : Nat} (h : t.del n = some t') : t'.get n = none ∧ ∀ m, m ≠ n → t'.get m = t.get m := get_setF h
end Tr

/-! ### Values -/
/-- Where a row lies: its block, its first cell, the block's number of cells. -/
structure Loc where
  b : Nat
  base : Nat
  size : Nat
abbrev Mu := Nat → Option Loc
inductive VR (μ : Mu) : LV → Value → Prop where
  | bool (b : Bool) : VR μ (.bool b) (.bool b)
  | int (k : IntKind) (n : Int) : VR μ (.int k n) (.int k n)
  | str (l : List UInt8) : VR μ (.str l) (.string ⟨l.toArray⟩)
  | ptr0 : VR μ (.ptr none) (.pointer none)
  | ptr {r off : Nat} {loc : Loc} (h : μ r = some loc) : VR μ (.ptr (some (r, off))) (.pointer (some ⟨loc.b, loc.base + off, none⟩))
  | slice0 : VR μ (.slice none 0 0) (.slice none 0 0)
  | sliceE (p : Nat × Nat × Nat) (a : Addr) : VR μ (.slice (some p) 0 0) (.slice (some a) 0 0)
  | slice {r off sz n k c : Nat} {loc : Loc} (h : μ r = some loc) (hk : n ≤ k) (hc : k ≤ c) (hs : loc.base + off + c * sz ≤ loc.size) :
      VR μ (.slice (some (r, off, sz)) n k) (.slice (some ⟨loc.b, loc.base + off, none⟩) n c)
  | map0 : VR μ (.map none) (.map none)
  | map {r : Nat} {loc : Loc} (h : μ r = some loc) : VR μ (.map (some r)) (.map (some loc.b))
  | func {f : Nat} {cs : List LV} {vs : Array Value} (hl : vs.size = cs.length) (h : ∀ (i : Nat) (x : LV) (v : Value), cs[i]? = some x → vs[i]? = some v → VR μ x v) : VR μ (.func f cs) (.func (.func f) #[] vs)
  | yield {l : Nat} {loc : Loc} (h : μ l = some loc) : VR μ (.yield l) (.func (.yield loc.b) #[] #[])
  | nilFunc : VR μ .nilFunc .nilFunc
  | iface {t : Nat} {x : LV} {v : Value} (h : VR μ x v) : VR μ (.iface t x) (.iface t v)
  | nilIface : VR μ .nilIface .nilIface
  | agg {cs : List LV} {vs : Array Value} (hl : vs.size = cs.length) (h : ∀ (i : Nat) (x : LV) (v : Value), cs[i]? = some x → vs[i]? = some v → VR μ x v) : VR μ (.agg cs) (.agg vs)
  | tuple {cs : List LV} {vs : Array Value} (hl : vs.size = cs.length) (h : ∀ (i : Nat) (x : LV) (v : Value), cs[i]? = some x → vs[i]? = some v → VR μ x v) : VR μ (.tuple cs) (.tuple vs)
def Mu.le (μ μ' : Mu) : Prop := ∀ r loc, μ r = some loc → μ' r = some loc
theorem Mu.le_refl (μ : Mu) : μ.le μ := fun _ _ h => h
theorem Mu.le_trans {a b c : Mu} (h : a.le b) (k : b.le c) : a.le c := fun r l x => k r l (h r l x)
theorem VR.mono {μ μ' : Mu} (hm : μ.le μ') {x : LV} {v : Value} (h : VR μ x v) : VR μ' x v := by
  induction h with
  | bool b => exact .bool b
  | int k n => exact .int k n
  | str l => exact .str l
  | ptr0 => exact .ptr0
  | ptr h => exact .ptr (hm _ _ h)
  | slice0 => exact .slice0
  | sliceE p a => exact .sliceE p a
  | slice h hk hc hs => exact .slice (hm _ _ h) hk hc hs
  | map0 => exact .map0
  | map h => exact .map (hm _ _ h)
  | func hl h ih => exact .func hl fun i x v hx hv => ih i x v hx hv
  | yield h => exact .yield (hm _ _ h)
  | nilFunc => exact .nilFunc
  | iface h ih => exact .iface ih
  | nilIface => exact .nilIface
  | agg hl h ih => exact .agg hl fun i x v hx hv => ih i x v hx hv
  | tuple hl h ih => exact .tuple hl fun i x v hx hv => ih i x v hx hv
end Go.LZ
end
section
/- The evaluator's soundness, part 2: memory. -/
namespace Go.LZ
open Go

/-! ### Lists of values -/
def VRs (μ : Mu) (xs : List LV) (vs : List Value) : Prop := vs.length = xs.length ∧ ∀ (i : Nat) (x : LV) (v : Value), xs[i]? = some x → vs[i]? = some v → VR μ x v
theorem VRs.nil (μ : Mu) : VRs μ [] [] := ⟨rfl, fun i x v h => by simp at h⟩
theorem VRs.cons {μ : Mu} {x : LV} {v : Value} {xs : List LV} {vs : List Value} (h : VR μ x v) (hs : VRs μ xs vs) : VRs μ (x :: xs) (v :: vs) := by
  refine ⟨by simp [hs.1], fun i y u hy hu => ?_⟩
  cases i with
  | zero => simp at hy hu; subst hy; subst hu; exact h
  | succ i => exact hs.2 i y u (by simpa using hy) (by simpa using hu)
theorem VRs.nil_inv {μ : Mu} {vs : List Value} (h : VRs μ [] vs) : vs = [] := List.eq_nil_of_length_eq_zero (by simpa using h.1)
theorem VRs.cons_inv {μ : Mu} {x : LV} {xs : List LV} {vs : List Value} (h : VRs μ (x :: xs) vs) : ∃ v vs', vs = v :: vs' ∧ VR μ x v ∧ VRs μ xs vs' := by
  cases vs with
  | nil => have := h.1; simp at this
  | cons v vs' =>
    refine ⟨v, vs', rfl, h.2 0 x v rfl rfl, by simpa using h.1, fun i y u hy hu => h.2 (i + 1) y u (by simpa using hy) (by simpa using hu)⟩
theorem VRs.mono {μ μ' : Mu} (hm : μ.le μ') {xs : List LV} {vs : List Value} (h : VRs μ xs vs) : VRs μ' xs vs := ⟨h.1, fun i x v hx hv => (h.2 i x v hx hv).mono hm⟩
theorem VRs.at_ {μ : Mu} {xs : List LV} {vs : List Value} (h : VRs μ xs vs) {i : Nat} {x : LV} (hx : xs[i]? = some x) : ∃ v, vs[i]? = some v ∧ VR μ x v := by
  have hl : i < vs.length := by rw [h.1]; exact (List.getElem?_eq_some_iff.1 hx).1
  exact ⟨vs[i], List.getElem?_eq_getElem hl, h.2 i x _ hx (List.getElem?_eq_getElem hl)⟩
theorem VRs.append {μ : Mu} {xs ys : List LV} {vs us : List Value} (h : VRs μ xs vs) (k : VRs μ ys us) : VRs μ (xs ++ ys) (vs ++ us) := by
  refine ⟨by simp [h.1, k.1], fun i x v hx hv => ?_⟩
  rcases Nat.lt_or_ge i xs.length with hi | hi
  · rw [List.getElem?_append_left hi] at hx
    rw [List.getElem?_append_left (by rw [h.1]; exact hi)] at hv
    exact h.2 i x v hx hv
  · rw [List.getElem?_append_right hi] at hx
    rw [List.getElem?_append_right (by rw [h.1]; exact hi), h.1] at hv
    exact k.2 _ x v hx hv
theorem VRs.take {μ : Mu} {xs : List LV} {vs : List Value} (h : VRs μ xs vs) (n : Nat) : VRs μ (xs.take n) (vs.take n) := by
  refine ⟨by simp [h.1], fun i x v hx hv => ?_⟩
  rw [List.getElem?_take] at hx hv
  split at hx
  · exact h.2 i x v hx (by simpa [*] using hv)
  · cases hx
theorem VRs.drop {μ : Mu} {xs : List LV} {vs : List Value} (h : VRs μ xs vs) (n : Nat) : VRs μ (xs.drop n) (vs.drop n) := by
  refine ⟨by simp [h.1], fun i x v hx hv => ?_⟩
  rw [List.getElem?_drop] at hx hv
  exact h.2 _ x v hx hv
theorem vr_agg {μ : Mu} {cs : List LV} {vs : List Value} (h : VRs μ cs vs) : VR μ (.agg cs) (.agg vs.toArray) := .agg (by simpa using h.1) fun i x v hx hv => h.2 i x v hx (by simpa using hv)
theorem vr_tuple {μ : Mu} {cs : List LV} {vs : List Value} (h : VRs μ cs vs) : VR μ (.tuple cs) (.tuple vs.toArray) := .tuple (by simpa using h.1) fun i x v hx hv => h.2 i x v hx (by simpa using hv)
theorem vr_agg_inv {μ : Mu} {cs : List LV} {v : Value} (h : VR μ (.agg cs) v) : ∃ vs : List Value, v = .agg vs.toArray ∧ VRs μ cs vs := by
  cases h with
  | agg hl h => rename_i vs; exact ⟨vs.toList, by simp, by simpa using hl, fun i x v hx hv => h i x v hx (by simpa using hv)⟩
theorem vr_tuple_inv {μ : Mu} {cs : List LV} {v : Value} (h : VR μ (.tuple cs) v) : ∃ vs : List Value, v = .tuple vs.toArray ∧ VRs μ cs vs := by
  cases h with
  | tuple hl h => rename_i vs; exact ⟨vs.toList, by simp, by simpa using hl, fun i x v hx hv => h i x v hx (by simpa using hv)⟩
theorem vr_cells {μ : Mu} {x : LV} {v : Value} (h : VR μ x v) : VRs μ x.cells v.cells.toList := by
  cases h with
  | agg hl h => exact ⟨by simpa [LV.cells, Value.cells] using hl, fun i x v hx hv => h i x v hx (by simpa [Value.cells] using hv)⟩
  | bool b => exact .cons (.bool b) (.nil _)
  | int k n => exact .cons (.int k n) (.nil _)
  | str l => exact .cons (.str l) (.nil _)
  | ptr0 => exact .cons .ptr0 (.nil _)
  | ptr h => exact .cons (.ptr h) (.nil _)
  | slice0 => exact .cons .slice0 (.nil _)
  | sliceE p a => exact .cons (.sliceE p a) (.nil _)
  | slice h hk hc hs => exact .cons (.slice h hk hc hs) (.nil _)
  | map0 => exact .cons .map0 (.nil _)
  | map h => exact .cons (.map h) (.nil _)
  | func hl h => exact .cons (.func hl h) (.nil _)
  | yield h => exact .cons (.yield h) (.nil _)
  | nilFunc => exact .cons .nilFunc (.nil _)
  | iface h => exact .cons (.iface h) (.nil _)
  | nilIface => exact .cons .nilIface (.nil _)
  | tuple hl h => exact .cons (.tuple hl h) (.nil _)
theorem vr_one {μ : Mu} {x : LV} {v : Value} (h : VR μ x v) (ho : x.one = true) : v.oneCell' = true := by
  cases h <;> first | rfl | simp [LV.one] at ho
theorem vr_mk_agg {μ : Mu} {x : LV} {cs : List LV} {vs : List Value} (h : VRs μ cs vs) (hx : x = .agg cs) : VR μ x (.agg vs.toArray) := hx ▸ vr_agg h

/-! ### Frames -/
structure FR (μ : Mu) (s : FSt) (tmps : Array Value) : Prop where
  size : tmps.size = s.n
  some_ : ∀ i x, s.t.get i = some x → ∃ v, tmps[i]? = some v ∧ VR μ x v
  none_ : ∀ i, i < s.n → s.t.get i = none → tmps[i]? = some undef
theorem FR.mono {μ μ' : Mu} (hm : μ.le μ') {s : FSt} {t : Array Value} (h : FR μ s t) : FR μ' s t :=
  ⟨h.size, fun i x hx => let ⟨v, hv, hr⟩ := h.some_ i x hx; ⟨v, hv, hr.mono hm⟩, h.none_⟩
theorem FR.put {μ : Mu} {s s' : FSt} {t : Array Value} {d : Option Nat} {x : LV} {v : Value} (h : FR μ s t) (hp : s.put d x = some s') (hv : VR μ x v) (ds : List Deferred) :
    FR μ s' (({ tmps := t, defers := ds } : Act).put d v).tmps := by
  cases d with
  | none => simp only [FSt.put] at hp; obtain rfl := Option.some.inj hp; exact h
  | some d =>
    simp only [FSt.put] at hp
    split at hp
    · rename_i hlt
      obtain ⟨t', ht, rfl⟩ : ∃ t', s.t.set d x = some t' ∧ (⟨s.n, t'⟩ : FSt) = s' := by
        split at hp
        · rename_i q hq; exact ⟨q, hq, Option.some.inj hp⟩
        · cases hp
      obtain ⟨h1, h2⟩ := Tr.get_set ht
      have hsz := h.size
      refine ⟨by simp [Act.put, hsz], fun i y hy => ?_, fun i hi hn => ?_⟩
      · by_cases e : i = d
        · subst e
          rw [h1] at hy
          obtain rfl := Option.some.inj hy
          exact ⟨v, by simp [Act.put, Array.getElem?_setIfInBounds]; omega, hv⟩
        · rw [h2 i e] at hy
          obtain ⟨u, hu, hr⟩ := h.some_ i y hy
          exact ⟨u, by simp only [Act.put]; rw [Array.getElem?_setIfInBounds_ne (fun q => e q.symm)]; exact hu, hr⟩
      · by_cases e : i = d
        · subst e; simp only at hn; rw [h1] at hn; cases hn
        · simp only at hn; rw [h2 i e] at hn
          simp only [Act.put]; rw [Array.getElem?_setIfInBounds_ne (fun q => e q.symm)]; exact h.none_ i hi hn
    · cases hp
theorem FR.clr {μ : Mu} {s s' : FSt} {t : Array Value} {d : Option Nat} (h : FR μ s t) (hp : s.clr d = some s') (ds : List Deferred) :
    FR μ s' (({ tmps := t, defers := ds } : Act).put d undef).tmps := by
  cases d with
  | none => simp only [FSt.clr] at hp; obtain rfl := Option.some.inj hp; exact h
  | some d =>
    simp only [FSt.clr] at hp
    obtain ⟨t', ht, rfl⟩ : ∃ t', s.t.del d = some t' ∧ (⟨s.n, t'⟩ : FSt) = s' := by
      split at hp
      · rename_i q hq; exact ⟨q, hq, Option.some.inj hp⟩
      · cases hp
    obtain ⟨h1, h2⟩ := Tr.get_del ht
    have hsz := h.size
    refine ⟨by simp [Act.put, hsz], fun i y hy => ?_, fun i hi hn => ?_⟩
    · by_cases e : i = d
      · subst e; simp only at hy; rw [h1] at hy; cases hy
      · simp only at hy; rw [h2 i e] at hy
        obtain ⟨u, hu, hr⟩ := h.some_ i y hy
        exact ⟨u, by simp only [Act.put]; rw [Array.getElem?_setIfInBounds_ne (fun q => e q.symm)]; exact hu, hr⟩
    · by_cases e : i = d
      · subst e
        simp only [Act.put]
        have hi' : i < t.size := by simp only at hi; omega
        simp [hi']
      · simp only at hn; rw [h2 i e] at hn
        simp only [Act.put]; rw [Array.getElem?_setIfInBounds_ne (fun q => e q.symm)]; exact h.none_ i hi hn

/-! ### Memory -/
def Ex.jump : Ex → Code
  | .norm => .skip
  | .ret => .ret
  | .exit id => .exit id
def stOf : LoopState → Nat
  | .ready => 0
  | .busy => 1
  | .done => 2
  | .exhausted => 3
def Obj.rw : Obj → Bool
  | .row _ ro _ => !ro
  | _ => true
def RowR (μ : Mu) (C : Array Value) (base : Nat) (cs : List LV) : Prop := base + cs.length ≤ C.size ∧ ∀ (i : Nat) (x : LV) (v : Value), cs[i]? = some x → C[base + i]? = some v → VR μ x v
/-- What is frozen lies behind the row. -/
def Fz (n : Nat) (fr : Nat × Nat) : Prop := fr.1 = fr.2 ∨ n ≤ fr.1
theorem Fz.no {n : Nat} {fr : Nat × Nat} (h : Fz n fr) : ∀ i, i < n → ¬ (fr.1 ≤ i ∧ i < fr.2) := fun i hi => by rcases h with h | h <;> omega
theorem Fz.eq {n m : Nat} {fr : Nat × Nat} (h : Fz n fr) (e : m = n) : Fz m fr := e ▸ h
def ObjR (μ : Mu) (loc : Loc) (w : World) : Obj → Prop
  | .row e ro cs => ∃ C fr, w.heap[loc.b]? = some (.cells C e fr) ∧ C.size = loc.size ∧ RowR μ C loc.base cs ∧ (ro = false → Fz C.size fr) ∧ ∀ x ∈ cs, x.one = true
  | .map es => ∃ ES clk, w.heap[loc.b]? = some (.map ES clk) ∧ loc.base = 0 ∧ ES.size = es.length ∧ ∀ (i : Nat) (kv : LV × LV) (e : MapEntry), es[i]? = some kv → ES[i]? = some e → VR μ kv.1 e.key ∧ VR μ kv.2 e.val
  | .iter s pos => w.heap[loc.b]? = some (.stringIter ⟨s.toArray⟩ pos) ∧ loc.base = 0
  | .loop st pend fs ps asg body => ∃ L : Loop, w.heap[loc.b]? = some (.loop L) ∧ loc.base = 0 ∧ stOf L.state = st ∧ L.pending = pend.map Ex.jump ∧ L.params.toList = ps ∧ L.assign = asg ∧ L.body = body ∧ FR μ fs L.tmps
theorem RowR.mono {μ μ' : Mu} (hm : μ.le μ') {C : Array Value} {base : Nat} {cs : List LV} (h : RowR μ C base cs) : RowR μ' C base cs := ⟨h.1, fun i x v hx hv => (h.2 i x v hx hv).mono hm⟩
theorem ObjR.mono {μ μ' : Mu} (hm : μ.le μ') {loc : Loc} {w w' : World} (hw : w'.heap[loc.b]? = w.heap[loc.b]?) {o : Obj} (h : ObjR μ loc w o) : ObjR μ' loc w' o := by
  cases o with
  | row e ro cs => obtain ⟨C, fr, h1, h2, h3, h4, h5⟩ := h; exact ⟨C, fr, hw.trans h1, h2, h3.mono hm, h4, h5⟩
  | map es => obtain ⟨ES, clk, h1, h2, h3, h4⟩ := h; exact ⟨ES, clk, hw.trans h1, h2, h3, fun i kv e hk he => ⟨(h4 i kv e hk he).1.mono hm, (h4 i kv e hk he).2.mono hm⟩⟩
  | iter s pos => exact ⟨hw.trans h.1, h.2⟩
  | loop st pend fs ps asg body => obtain ⟨L, h1, h2, h3, h4, h5, h6, h7, h8⟩ := h; exact ⟨L, hw.trans h1, h2, h3, h4, h5, h6, h7, h8.mono hm⟩
theorem ObjR.lt {μ : Mu} {loc : Loc} {w : World} {o : Obj} (h : ObjR μ loc w o) : loc.b < w.heap.size := by
  have key : ∀ q, w.heap[loc.b]? = some q → loc.b < w.heap.size := fun q hq => by
    rcases Nat.lt_or_ge loc.b w.heap.size with hl | hl
    · exact hl
    · rw [Array.getElem?_eq_none hl] at hq; cases hq
  cases o with
  | row e ro cs => obtain ⟨C, fr, h1, _⟩ := h; exact key _ h1
  | map es => obtain ⟨ES, clk, h1, _⟩ := h; exact key _ h1
  | iter s pos => exact key _ h.1
  | loop st pend fs ps asg body => obtain ⟨L, h1, _⟩ := h; exact key _ h1
structure HR (B : Nat) (G : World → Prop) (μ : Mu) (σ : H) (w : World) : Prop where
  obj : ∀ r o, σ.m.get r = some o → ∃ loc, μ r = some loc ∧ ObjR μ loc w o ∧ (o.rw = true → B ≤ loc.b)
  inj : ∀ r r' o o' loc loc', σ.m.get r = some o → σ.m.get r' = some o' → μ r = some loc → μ r' = some loc' → r ≠ r' → (o.rw = true ∨ o'.rw = true) → loc.b ≠ loc'.b
  fresh : ∀ r, σ.next ≤ r → μ r = none
  size : B ≤ w.heap.size
  glob : G w
def GOK (B : Nat) (G : World → Prop) : Prop := ∀ w w' : World, (∀ b, b < B → w'.heap[b]? = w.heap[b]?) → G w → G w'
def foot (μ : Mu) (σ : H) (b : Nat) : Prop := ∃ r o loc, σ.m.get r = some o ∧ o.rw = true ∧ μ r = some loc ∧ loc.b = b
structure St (μ : Mu) (σ : H) (w : World) (μ' : Mu) (σ' : H) (w' : World) : Prop where
  le : μ.le μ'
  os : w'.os = w.os
  tape : w'.tape = w.tape
  output : w'.output = w.output
  size : w.heap.size ≤ w'.heap.size
  keep : ∀ b, b < w.heap.size → ¬ foot μ σ b → w'.heap[b]? = w.heap[b]?
  own : ∀ b, foot μ' σ' b → foot μ σ b ∨ w.heap.size ≤ b
theorem St.refl (μ : Mu) (σ : H) (w : World) : St μ σ w μ σ w := ⟨Mu.le_refl _, rfl, rfl, rfl, Nat.le_refl _, fun _ _ _ => rfl, fun _ h => .inl h⟩
theorem St.trans {μ : Mu} {σ : H} {w : World} {μ1 : Mu} {σ1 : H} {w1 : World} {μ2 : Mu} {σ2 : H} {w2 : World} (h : St μ σ w μ1 σ1 w1) (k : St μ1 σ1 w1 μ2 σ2 w2) : St μ σ w μ2 σ2 w2 := by
  refine ⟨Mu.le_trans h.le k.le, k.os.trans h.os, k.tape.trans h.tape, k.output.trans h.output, Nat.le_trans h.size k.size, fun b hb hf => ?_, fun b hf => ?_⟩
  · refine (k.keep b (Nat.lt_of_lt_of_le hb h.size) fun hf1 => ?_).trans (h.keep b hb hf)
    rcases h.own b hf1 with h1 | h1
    · exact hf h1
    · omega
  · rcases k.own b hf with h1 | h1
    · exact h.own b h1
    · exact .inr (Nat.le_trans h.size h1)
/-- Only the tape has been asked. -/
theorem HR.drawn {B : Nat} {G : World → Prop} (hG : GOK B G) {μ : Mu} {σ : H} {w : World} (h : HR B G μ σ w) (n : Nat) : HR B G μ σ { w with drawn := n } ∧ St μ σ w μ σ { w with drawn := n } :=
  ⟨⟨fun r o hr => let ⟨loc, a, b, c⟩ := h.obj r o hr; ⟨loc, a, b.mono (Mu.le_refl _) rfl, c⟩, h.inj, h.fresh, h.size, hG w _ (fun _ _ => rfl) h.glob⟩,
   ⟨Mu.le_refl _, rfl, rfl, rfl, Nat.le_refl _, fun _ _ _ => rfl, fun _ h => .inl h⟩⟩
theorem HR.foot_ge {B : Nat} {G : World → Prop} {μ : Mu} {σ : H} {w : World} (h : HR B G μ σ w) {b : Nat} (hf : foot μ σ b) : B ≤ b ∧ b < w.heap.size := by
  obtain ⟨r, o, loc, hr, ho, hl, rfl⟩ := hf
  obtain ⟨loc', hl', hO, hB⟩ := h.obj r o hr
  rw [hl] at hl'
  obtain rfl := Option.some.inj hl'
  exact ⟨hB ho, hO.lt⟩
/-- A row is written. -/
theorem HR.upd {B : Nat} {G : World → Prop} (hG : GOK B G) {μ : Mu} {σ σ' : H} {w w' : World} (h : HR B G μ σ w) {r : Nat} {o o' : Obj} {loc : Loc} (hr : σ.m.get r = some o) (hl : μ r = some loc) (ho : o.rw = true)
    (hu : σ.upd r o' = some σ') (hos : w'.os = w.os) (htp : w'.tape = w.tape) (hout : w'.output = w.output) (hsz : w'.heap.size = w.heap.size) (hk : ∀ b, b ≠ loc.b → w'.heap[b]? = w.heap[b]?) (hO : ObjR μ loc w' o') :
    HR B G μ σ' w' ∧ St μ σ w μ σ' w' := by
  obtain ⟨m, hm, rfl⟩ := Option.map_eq_some_iff.1 hu
  obtain ⟨g1, g2⟩ := Tr.get_set hm
  have hBl : B ≤ loc.b := by
    obtain ⟨loc', hl', _, hB⟩ := h.obj r o hr
    rw [hl] at hl'
    obtain rfl := Option.some.inj hl'
    exact hB ho
  have hne : ∀ r' o' loc', σ.m.get r' = some o' → μ r' = some loc' → r' ≠ r → loc'.b ≠ loc.b := fun r' o' loc' a b c => (h.inj r r' o o' loc loc' hr a hl b (fun e => c e.symm) (.inl ho)).symm
  refine ⟨⟨fun r' q hq => ?_, fun r1 r2 o1 o2 l1 l2 a b c d e f => ?_, h.fresh, by rw [hsz]; exact h.size, hG _ _ (fun b hb => hk b (by omega)) h.glob⟩,
    ⟨Mu.le_refl _, hos, htp, hout, by omega, fun b _ hf => hk b fun e => hf ⟨r, o, loc, hr, ho, hl, e.symm⟩, fun b hf => ?_⟩⟩
  · by_cases e : r' = r
    · subst e
      simp only at hq
      rw [g1] at hq
      obtain rfl := Option.some.inj hq
      exact ⟨loc, hl, hO, fun _ => hBl⟩
    · simp only at hq
      rw [g2 r' e] at hq
      obtain ⟨loc', a, b, c⟩ := h.obj r' q hq
      exact ⟨loc', a, b.mono (Mu.le_refl _) (hk _ (hne r' q loc' hq a e)), c⟩
  · simp only at a b
    by_cases e1 : r1 = r
    · subst e1
      rw [hl] at c
      obtain rfl := Option.some.inj c
      rw [g2 r2 (fun q => e q.symm)] at b
      exact (hne r2 o2 l2 b d (fun q => e q.symm)).symm
    · rw [g2 r1 e1] at a
      by_cases e2 : r2 = r
      · subst e2
        rw [hl] at d
        obtain rfl := Option.some.inj d
        exact hne r1 o1 l1 a c e1
      · rw [g2 r2 e2] at b
        exact h.inj r1 r2 o1 o2 l1 l2 a b c d e f
  · obtain ⟨r', q, loc', a, b, c, d⟩ := hf
    simp only at a
    by_cases e : r' = r
    · subst e
      rw [hl] at c
      obtain rfl := Option.some.inj c
      exact .inl ⟨r', o, loc, hr, ho, hl, d⟩
    · rw [g2 r' e] at a
      exact .inl ⟨r', q, loc', a, b, c, d⟩
/-- A row is let go of. -/
theorem HR.kill {B : Nat} {G : World → Prop} {μ : Mu} {σ σ' : H} {w : World} (h : HR B G μ σ w) {r : Nat} (hu : σ.kill r = some σ') : HR B G μ σ' w ∧ St μ σ w μ σ' w ∧ σ'.m.get r = none ∧ σ'.next = σ.next ∧ ∀ m, m ≠ r → σ'.m.get m = σ.m.get m := by
  obtain ⟨m, hm, rfl⟩ := Option.map_eq_some_iff.1 hu
  obtain ⟨g1, g2⟩ := Tr.get_del hm
  have old : ∀ r' q, m.get r' = some q → σ.m.get r' = some q := fun r' q hq => by
    by_cases e : r' = r
    · subst e; rw [g1] at hq; cases hq
    · rw [← g2 r' e]; exact hq
  refine ⟨⟨fun r' q hq => h.obj r' q (old r' q hq), fun r1 r2 o1 o2 l1 l2 a b c d e f => h.inj r1 r2 o1 o2 l1 l2 (old _ _ a) (old _ _ b) c d e f, h.fresh, h.size, h.glob⟩,
    ⟨Mu.le_refl _, rfl, rfl, rfl, Nat.le_refl _, fun _ _ _ => rfl, fun b ⟨r', q, loc', a, b', c, d⟩ => .inl ⟨r', q, loc', old _ _ a, b', c, d⟩⟩, g1, rfl, g2⟩
/-- A row is added, at a block that no live row has. -/
theorem HR.add {B : Nat} {G : World → Prop} (hG : GOK B G) {μ : Mu} {σ σ' : H} {w w' : World} (h : HR B G μ σ w) {r : Nat} {o : Obj} {loc : Loc} (hu : σ.new o = some (r, σ')) (hB : B ≤ loc.b)
    (hsz : w.heap.size ≤ w'.heap.size) (hk : ∀ b, b < w.heap.size → b ≠ loc.b → w'.heap[b]? = w.heap[b]?) (hfree : ∀ r' q loc', σ.m.get r' = some q → μ r' = some loc' → loc'.b ≠ loc.b)
    (hO : ∀ μ' : Mu, μ.le μ' → μ' r = some loc → ObjR μ' loc w' o) :
    ∃ μ' : Mu, μ.le μ' ∧ μ' r = some loc ∧ HR B G μ' σ' w' ∧ ∀ b, foot μ' σ' b → foot μ σ b ∨ b = loc.b := by
  obtain ⟨m, hm, he⟩ := Option.map_eq_some_iff.1 hu
  injection he with e1 e2
  subst e1
  subst e2
  obtain ⟨g1, g2⟩ := Tr.get_set hm
  have hfr := h.fresh σ.next (Nat.le_refl _)
  refine ⟨fun x => if x = σ.next then some loc else μ x, fun x l hx => ?_, by simp, ?_⟩
  · have : x ≠ σ.next := fun e => by subst e; rw [hfr] at hx; cases hx
    simp [this, hx]
  have hle : μ.le (fun x => if x = σ.next then some loc else μ x) := fun x l hx => by
    have : x ≠ σ.next := fun e => by subst e; rw [hfr] at hx; cases hx
    simp [this, hx]
  have hat : (fun x => if x = σ.next then some loc else μ x) σ.next = some loc := by simp
  have hoff : ∀ x, x ≠ σ.next → (fun x => if x = σ.next then some loc else μ x) x = μ x := fun x hx => by simp [hx]
  generalize (fun x => if x = σ.next then some loc else μ x) = μ' at hle hat hoff
  refine ⟨⟨fun r' q hq => ?_, fun r1 r2 o1 o2 l1 l2 a b c d e f => ?_, fun x hx => ?_, Nat.le_trans h.size hsz, hG _ _ (fun b hb => hk b (by have := h.size; omega) (by omega)) h.glob⟩, fun b hf => ?_⟩
  · simp only at hq
    by_cases e : r' = σ.next
    · subst e
      rw [g1] at hq
      obtain rfl := Option.some.inj hq
      exact ⟨loc, hat, hO μ' hle hat, fun _ => hB⟩
    · rw [g2 r' e] at hq
      obtain ⟨loc', a, b, c⟩ := h.obj r' q hq
      exact ⟨loc', (hoff r' e).trans a, b.mono hle (hk _ b.lt (hfree r' q loc' hq a)), c⟩
  · simp only at a b
    by_cases e1 : r1 = σ.next
    · subst e1
      rw [hat] at c
      obtain rfl := Option.some.inj c
      rw [g2 r2 (fun q => e q.symm)] at b
      rw [hoff r2 (fun q => e q.symm)] at d
      exact (hfree r2 o2 l2 b d).symm
    · rw [g2 r1 e1] at a
      rw [hoff r1 e1] at c
      by_cases e2 : r2 = σ.next
      · subst e2
        rw [hat] at d
        obtain rfl := Option.some.inj d
        exact hfree r1 o1 l1 a c
      · rw [g2 r2 e2] at b
        rw [hoff r2 e2] at d
        exact h.inj r1 r2 o1 o2 l1 l2 a b c d e f
  · simp only at hx
    rw [hoff x (by omega)]
    exact h.fresh x (by omega)
  · obtain ⟨r', q, loc', a, b', c, d⟩ := hf
    simp only at a
    by_cases e : r' = σ.next
    · subst e
      rw [hat] at c
      obtain rfl := Option.some.inj c
      exact .inr d.symm
    · rw [g2 r' e] at a
      rw [hoff r' e] at c
      exact .inl ⟨r', q, loc', a, b', c, d⟩
/-- A new block. -/
theorem HR.new {B : Nat} {G : World → Prop} (hG : GOK B G) {μ : Mu} {σ σ' : H} {w w' : World} (h : HR B G μ σ w) {r : Nat} {o : Obj} {loc : Loc} (hu : σ.new o = some (r, σ')) (hos : w'.os = w.os) (htp : w'.tape = w.tape) (hout : w'.output = w.output)
    (hsz : w.heap.size ≤ w'.heap.size) (hk : ∀ b, b < w.heap.size → w'.heap[b]? = w.heap[b]?) (hloc : w.heap.size ≤ loc.b) (hO : ∀ μ' : Mu, μ.le μ' → μ' r = some loc → ObjR μ' loc w' o) :
    ∃ μ' : Mu, μ' r = some loc ∧ HR B G μ' σ' w' ∧ St μ σ w μ' σ' w' := by
  obtain ⟨μ', h1, h2, h3, h4⟩ := h.add hG hu (Nat.le_trans h.size hloc) hsz (fun b hb _ => hk b hb) (fun r' q loc' a b => by
    obtain ⟨l2, c, d, _⟩ := h.obj r' q a
    rw [b] at c
    obtain rfl := Option.some.inj c
    have := d.lt
    omega) hO
  exact ⟨μ', h2, h3, h1, hos, htp, hout, hsz, fun b hb _ => hk b hb, fun b hf => by
    rcases h4 b hf with h5 | h5
    · exact .inl h5
    · exact .inr (by omega)⟩
end Go.LZ
end
section
/- The evaluator's soundness, part 3: operations that touch no memory. -/
namespace Go.LZ
open Go

theorem revB_eq : ∀ (l acc : List UInt8), revB l acc = some (l.reverse ++ acc)
  | [], acc => rfl
  | p :: ps, acc => by simp [revB, revB_eq ps]
theorem bytesB_eq (s : ByteArray) : bytesB s = some s.data.toList := by simp [bytesB, revB_eq]
theorem ofV1_vr {μ : Mu} {v : Value} {x : LV} (h : ofV1 v = some x) : VR μ x v ∧ x.one = true := by
  unfold ofV1 at h
  split at h <;> first
    | (obtain rfl := Option.some.inj h; exact ⟨by first | exact .bool _ | exact .int _ _ | exact .ptr0 | exact .slice0 | exact .map0 | exact .nilFunc | exact .nilIface, rfl⟩)
    | skip
  · rename_i s
    rw [bytesB_eq] at h
    obtain rfl := Option.some.inj h
    refine ⟨?_, rfl⟩
    have : s = ⟨s.data.toList.toArray⟩ := by cases s; simp
    have k := VR.str (μ := μ) s.data.toList
    rw [← this] at k
    exact k
  · rename_i f a b
    split at h
    · rename_i hab
      obtain rfl := Option.some.inj h
      obtain rfl : a = #[] := Array.eq_empty_of_size_eq_zero hab.1
      exact ⟨.func (by simpa using hab.2) (fun i x v hx => by simp at hx), rfl⟩
    · cases h
  · cases h
theorem ofVs_vr {μ : Mu} : ∀ {vs : List Value} {xs : List LV}, ofVs vs = some xs → VRs μ xs vs ∧ ∀ x ∈ xs, x.one = true := by
  intro vs
  induction vs with
  | nil => intro xs h; simp only [ofVs] at h; obtain rfl := Option.some.inj h; exact ⟨.nil _, fun x hx => by simp at hx⟩
  | cons v vs ih =>
    intro xs h
    simp only [ofVs] at h
    split at h
    · rename_i y ys hy hys
      obtain rfl := Option.some.inj h
      obtain ⟨a, b⟩ := ih hys
      obtain ⟨c, d⟩ := ofV1_vr (μ := μ) hy
      exact ⟨.cons c a, fun x hx => by rcases List.mem_cons.1 hx with rfl | hx; exact d; exact b x hx⟩
    · cases h
theorem ofV_vr {μ : Mu} {v : Value} {x : LV} (h : ofV v = some x) : VR μ x v ∧ ∀ y ∈ x.cells, y.one = true := by
  unfold ofV at h
  split at h
  · obtain ⟨xs, hx, rfl⟩ := Option.map_eq_some_iff.1 h
    obtain ⟨a, b⟩ := ofVs_vr (μ := μ) hx
    exact ⟨by have := vr_agg a; simpa using this, b⟩
  · obtain ⟨a, b⟩ := ofV1_vr (μ := μ) h
    refine ⟨a, ?_⟩
    cases x <;> first | (simp [LV.one] at b; done) | (intro y hy; simp only [LV.cells, List.mem_singleton] at hy; rw [hy]; exact b)
theorem cells_nonagg {x : LV} (h : x.one = true) : x.cells = [x] := by cases x <;> first | rfl | simp [LV.one] at h
section
variable {P : Program} {μ : Mu} {ρ : Operand → Option LV} {ρ' : Operand → Value}
theorem evals_vr (hρ : ∀ x lv, ρ x = some lv → VR μ lv (ρ' x)) : ∀ {xs : List Operand} {vs : List LV}, evals ρ xs = some vs → VRs μ vs (xs.map ρ') := by
  intro xs
  induction xs with
  | nil => intro vs h; simp only [evals] at h; obtain rfl := Option.some.inj h; exact .nil _
  | cons x xs ih =>
    intro vs h
    simp only [evals] at h
    split at h
    · rename_i v vs' hv hvs
      obtain rfl := Option.some.inj h
      exact .cons (hρ _ _ hv) (ih hvs)
    · cases h
theorem run_und {t : TypeId} {d : TypeDesc} (h : P.underlying t = some d) (w : World) : (underlying t).run P w = .ok d w := by simp [underlying, h]
theorem run_info {t : TypeId} {i : TypeInfo} (h : P.info? t = some i) (w : World) : (typeInfo t).run P w = .ok i w := by simp [typeInfo, h]
theorem run_size {t : TypeId} {n : Nat} (h : sizeT P t = some n) (w : World) : (sizeOf t).run P w = .ok n w := by
  obtain ⟨i, hi, rfl⟩ := Option.map_eq_some_iff.1 h
  simp [sizeOf, run_info hi]
theorem run_zero {t : TypeId} {x : LV} (h : zeroT P t = some x) (w : World) : ∃ v, (zeroValue t).run P w = .ok v w ∧ VR μ x v ∧ (∀ y ∈ x.cells, y.one = true) ∧ (P.info? t).bind (·.zero) = some v := by
  obtain ⟨v, hv, hx⟩ := Option.bind_eq_some_iff.1 h
  obtain ⟨a, b⟩ := ofV_vr (μ := μ) hx
  obtain ⟨i, hi, hz⟩ := Option.bind_eq_some_iff.1 hv
  exact ⟨v, by simp [zeroValue, run_info hi, hz], a, b, hv⟩
theorem run_agg {t : TypeId} {b : Bool} (h : isAggT P t = some b) (w : World) : (isAgg t).run P w = .ok b w := by
  obtain ⟨d, hd, rfl⟩ := Option.map_eq_some_iff.1 h
  simp only [isAgg, Sem.run_bind, run_und hd, Result.andThen_ok]
  cases d <;> rfl
theorem strLess_eq : ∀ a b, strLess a b = Op.bytesLess a b
  | _, [] => by simp [strLess, Op.bytesLess]
  | [], _ :: _ => by simp [strLess, Op.bytesLess]
  | a :: x, b :: y => by simp [strLess, Op.bytesLess, strLess_eq x y]
theorem toList_mk (l : List UInt8) : (⟨l.toArray⟩ : ByteArray).toList = l := by
  have : ∀ b : ByteArray, b.toList = b.data.toList := Lib.toList_data
  rw [this]
theorem size_mk (l : List UInt8) : (⟨l.toArray⟩ : ByteArray).size = l.length := by simp [ByteArray.size]
theorem append_mk (a b : List UInt8) : (⟨a.toArray⟩ : ByteArray) ++ ⟨b.toArray⟩ = ⟨(a ++ b).toArray⟩ := by
  apply ByteArray.ext; simp
end
end Go.LZ
end
section
/- The evaluator's soundness, part 4: operators, parts and operations that touch no memory. -/
namespace Go.LZ
open Go
section
variable {P : Program} {μ : Mu} {ρ : Operand → Option LV} {ρ' : Operand → Value}

theorem takeAt_some {cs ys : List LV} {off n : Nat} (h : takeAt cs off n = some ys) : off + n ≤ cs.length ∧ ys = (cs.drop off).take n := by
  unfold takeAt at h
  split at h
  · exact ⟨by assumption, (Option.some.inj h).symm⟩
  · cases h
theorem extract_toArray (vs : List Value) (off n : Nat) : vs.toArray.extract off (off + n) = ((vs.drop off).take n).toArray := by
  simp [List.extract_eq_take_drop]
theorem part_sound {t : TypeId} {cs : List LV} {off : Nat} {x : LV} (h : partL P t cs off = some x) {vs : List Value} (hv : VRs μ cs vs) (w : World) :
    ∃ v, (part t vs.toArray off).run P w = .ok v w ∧ VR μ x v := by
  unfold partL at h
  split at h
  · rename_i n ha hs
    obtain ⟨ys, hy, rfl⟩ := Option.map_eq_some_iff.1 h
    obtain ⟨_, rfl⟩ := takeAt_some hy
    refine ⟨_, ?_, vr_agg ((hv.drop off).take n)⟩
    simp only [part, Sem.run_bind, run_agg ha, Result.andThen_ok, if_true, run_size hs, Sem.run_pure, extract_toArray]
  · rename_i ha
    obtain ⟨v, hv', hr⟩ := hv.at_ h
    refine ⟨v, ?_, hr⟩
    simp [part, run_agg ha, hv']
  · cases h

theorem foldl_set : ∀ (new : List Value) (off j : Nat) (cells : Array Value), off + j + new.length ≤ cells.size →
    ((new.zipIdx j).foldl (fun cs p => cs.setIfInBounds (off + p.2) p.1) cells).toList = cells.toList.take (off + j) ++ (new ++ cells.toList.drop (off + j + new.length)) := by
  intro new
  induction new with
  | nil => intro off j cells h; simp
  | cons v new ih =>
    intro off j cells h
    simp only [List.length_cons] at h
    simp only [List.zipIdx_cons, List.foldl_cons]
    rw [ih off (j + 1) _ (by simp; omega)]
    have hlt : off + j < cells.toList.length := by simp; omega
    simp only [Array.toList_setIfInBounds, List.length_cons]
    have e1 : (cells.toList.set (off + j) v).take (off + (j + 1)) = cells.toList.take (off + j) ++ [v] := by
      rw [← Nat.add_assoc, List.take_set, List.take_succ_eq_append_getElem hlt, List.set_append_right _ _ (by simp; omega)]
      have hm : off + j - (List.take (off + j) cells.toList).length = 0 := by simp; omega
      rw [hm]
      rfl
    have e2 : (cells.toList.set (off + j) v).drop (off + (j + 1) + new.length) = cells.toList.drop (off + j + (new.length + 1)) := by
      rw [List.drop_set_of_lt (by omega)]
      congr 1
      omega
    rw [e1, e2]
    simp
theorem putAt_some {cs ys new : List LV} {off : Nat} (h : putAt cs off new = some ys) : off + new.length ≤ cs.length ∧ ys = cs.take off ++ (new ++ cs.drop (off + new.length)) := by
  unfold putAt at h
  split at h
  · exact ⟨by assumption, (Option.some.inj h).symm⟩
  · cases h
theorem fill_sound {place : Nat → Option (Nat × Nat)} : ∀ {parts : List (Nat × LV)} {cs ys : List LV} {vs : List Value} {parts' : List (Nat × Value)}, fillL place cs parts = some ys → VRs μ cs vs →
    parts'.map (·.1) = parts.map (·.1) → VRs μ (parts.map (·.2)) (parts'.map (·.2)) →
    ∃ us : List Value, Instr.fill place vs.toArray parts' = some us.toArray ∧ VRs μ ys us := by
  intro parts
  induction parts with
  | nil =>
    intro cs ys vs parts' h hv h1 h2
    simp only [fillL] at h
    obtain rfl := Option.some.inj h
    obtain rfl : parts' = [] := by simpa using h1
    exact ⟨vs, rfl, hv⟩
  | cons p parts ih =>
    intro cs ys vs parts' h hv h1 h2
    obtain ⟨i, x⟩ := p
    cases parts' with
    | nil => simp at h1
    | cons q parts' =>
      obtain ⟨i', v⟩ := q
      simp only [List.map_cons, List.cons.injEq] at h1
      obtain ⟨rfl, h1⟩ := h1
      simp only [List.map_cons] at h2
      obtain ⟨v', vs', e, hx, h2⟩ := h2.cons_inv
      injection e with e1 e2
      subst e1
      subst e2
      simp only [fillL] at h
      split at h
      · cases h
      · rename_i off size hp
        split at h
        · rename_i hsz
          split at h
          · rename_i cs' hput
            obtain ⟨hle, rfl⟩ := putAt_some hput
            have hc := vr_cells hx
            have hlen : v.cells.size = size := by have := hc.1; simp at this; omega
            have hvl : vs.length = cs.length := hv.1
            have hcl : x.cells.length = v.cells.size := by have := hc.1; simp at this; omega
            have hf := foldl_set v.cells.toList off 0 vs.toArray (by simp; omega)
            obtain ⟨us, hu, hr⟩ := ih (vs := vs.take off ++ (v.cells.toList ++ vs.drop (off + x.cells.length))) h ((hv.take off).append (hc.append (hv.drop _))) h1 h2
            refine ⟨us, ?_, hr⟩
            simp only [Instr.fill, hp]
            rw [if_neg (by simp; omega)]
            rw [← hu]
            congr 1
            rw [← Array.foldl_toList]
            apply Array.toList_inj.1
            simp only [Array.toList_zipIdx]
            simp only [Nat.add_zero] at hf
            rw [hf]
            simp [hcl]
          · cases h
        · cases h

theorem intBin_sound {op : BinOp} {k j : IntKind} {a b : Int} {x : LV} (h : intBin op k j a b = some x) (t : TypeId) (w : World) :
    ∃ v, (binOp op t (.int k a) (.int j b)).run P w = .ok v w ∧ VR μ x v := by
  unfold intBin at h
  cases op <;> simp only at h
  case shl =>
    split at h
    · cases h
    · obtain rfl := Option.some.inj h
      rename_i hb
      exact ⟨.int _ _, by simp [binOp, Op.shift, hb], .int _ _⟩
  case shr =>
    split at h
    · cases h
    · obtain rfl := Option.some.inj h
      rename_i hb
      exact ⟨.int _ _, by simp [binOp, Op.shift, hb], .int _ _⟩
  all_goals
    split at h
    · rename_i hk
      subst hk
      first
        | (obtain rfl := Option.some.inj h; exact ⟨.int _ _, by simp [binOp, Op.intArith, Op.intBits, Op.intCmp], .int _ _⟩)
        | (obtain rfl := Option.some.inj h; exact ⟨.bool _, by simp [binOp, Op.intArith, Op.intBits, Op.intCmp], .bool _⟩)
        | (split at h
           · cases h
           · rename_i hb
             obtain rfl := Option.some.inj h
             exact ⟨.int _ _, by simp [binOp, Op.intDiv, hb], .int _ _⟩)
        | cases h
    · cases h
theorem strBin_sound {op : BinOp} {a b : List UInt8} {x : LV} (h : strBin op a b = some x) (t : TypeId) (w : World) :
    ∃ v, (binOp op t (.string ⟨a.toArray⟩) (.string ⟨b.toArray⟩)).run P w = .ok v w ∧ VR μ x v := by
  unfold strBin at h
  cases op <;> simp only at h
  case add =>
    split at h
    · rename_i hl
      obtain rfl := Option.some.inj h
      refine ⟨_, ?_, .str _⟩
      simp only [binOp, Op.stringOp, size_mk]
      rw [if_neg (by simp only [IntKind.max_i64]; omega), append_mk]
      rfl
    · cases h
  all_goals first
    | cases h; done
    | (obtain rfl := Option.some.inj h
       exact ⟨_, by simp only [binOp, Op.stringOp, toList_mk, strLess_eq]; rfl, .bool _⟩)
end
end Go.LZ
end
section
/- The evaluator's soundness, part 5: what touches no memory, whole. -/
namespace Go.LZ
open Go
set_option linter.unusedSimpArgs false
section
variable {P : Program} {μ : Mu} {ρ : Operand → Option LV} {ρ' : Operand → Value}

set_option maxHeartbeats 4000000 in
theorem eqL_sound1 {t : TypeId} {c : Bool} {x y : LV} {b : Bool} (h : eqL P t c x y = some b) {v u : Value} (hx : VR μ x v) (hy : VR μ y u) (w : World) :
    ∀ d, (Op.equalIn (d + 1) t v u).run P w = .ok b w := by
  intro d
  unfold eqL at h
  simp only [Op.equalIn]
  split at h <;> rename_i hd
  · obtain rfl := Option.some.inj h; cases hx; cases hy; simp [run_und hd]
  · obtain rfl := Option.some.inj h; cases hx; cases hy <;> simp [run_und hd]
  · obtain rfl := Option.some.inj h; cases hx; cases hy; simp [run_und hd]
  · split at h
    · rename_i n hn
      split at h
      · rename_i hr
        obtain ⟨h0, rfl⟩ := hr
        obtain rfl := Option.some.inj h
        cases hx
        rename_i loc hl
        cases hy
        rename_i loc' hl'
        rw [hl] at hl'
        obtain rfl := Option.some.inj hl'
        simp only [Sem.run_bind, run_und hd, Result.andThen_ok, run_size hn]
        rw [if_pos h0]
        simp only [sameAddr, beq_self_eq_true, if_true]
        simp only [Sem.run_pure]
        congr 1
        rw [Bool.eq_iff_iff]
        simp
      · cases h
    · cases h
  · obtain rfl := Option.some.inj h; cases hx; cases hy <;> simp [run_und hd]
  · obtain rfl := Option.some.inj h; cases hx <;> cases hy <;> simp [run_und hd]
  · obtain rfl := Option.some.inj h; cases hx; cases hy <;> simp [run_und hd]
  · obtain rfl := Option.some.inj h; cases hx; cases hy; simp [run_und hd]
  · obtain rfl := Option.some.inj h; cases hx; cases hy; simp [run_und hd]
  · obtain rfl := Option.some.inj h; cases hx; cases hy; simp [run_und hd]
  · obtain rfl := Option.some.inj h; cases hx; cases hy; simp [run_und hd]
  · obtain rfl := Option.some.inj h; cases hx; cases hy; simp [run_und hd]
  · obtain rfl := Option.some.inj h; cases hx; cases hy; simp [run_und hd]
  · split at h
    · obtain rfl := Option.some.inj h; cases hx; cases hy; simp [run_und hd]
    · cases h
  · obtain rfl := Option.some.inj h; cases hx; cases hy; simp [run_und hd]
  · obtain rfl := Option.some.inj h; cases hx; cases hy; simp [run_und hd]
  · cases h
theorem eqL_sound {t : TypeId} {c : Bool} {x y : LV} {b : Bool} (h : eqL P t c x y = some b) {v u : Value} (hx : VR μ x v) (hy : VR μ y u) (w : World) :
    (Op.equal t v u).run P w = .ok b w := eqL_sound1 h hx hy w 9999
end
end Go.LZ
end
section
/- The evaluator's soundness, part 6: what touches no memory, whole. -/
namespace Go.LZ
open Go
set_option linter.unusedSimpArgs false
section
variable {P : Program} {μ : Mu} {ρ : Operand → Option LV} {ρ' : Operand → Value}

theorem isConst_of {x : Operand} (h : isConst x = true) : ∃ v, x = .const v := by
  cases x <;> simp [isConst] at h
  exact ⟨_, rfl⟩
theorem eqL_nilIface {t : TypeId} {c : Bool} {b : LV} {r : Bool} (h : eqL P t c .nilIface b = some r) : (b = .nilIface ∧ c = true) ∨ ∃ d y, b = .iface d y := by
  cases hd : P.underlying t with
  | none => simp [eqL, hd] at h
  | some d => cases d <;> cases b <;> simp [eqL, hd] at h ⊢ <;> simp_all
theorem eqL_agg {t : TypeId} {c : Bool} {cs : List LV} {b : LV} {r : Bool} (h : eqL P t c (.agg cs) b = some r) : False := by
  cases hd : P.underlying t with
  | none => simp [eqL, hd] at h
  | some d => cases d <;> cases b <;> simp [eqL, hd] at h
theorem guard_sound {op : BinOp} {t : TypeId} {x y : Operand} {a b : LV} {r : Bool} (h : eqL P t (isConst x || isConst y) a b = some r) {v u : Value} (hx : VR μ a v) (hy : VR μ b u) :
    eqGuard op t x y v u = pure () := by
  cases hx with
  | bool b => exact eqGuard_at_bool ..
  | int k n => exact eqGuard_at_int ..
  | str l => exact eqGuard_at_string ..
  | ptr0 => exact eqGuard_at_pointer ..
  | ptr h => exact eqGuard_at_pointer ..
  | slice0 => exact eqGuard_at_slice ..
  | sliceE p a => exact eqGuard_at_slice ..
  | slice h hk hc hs => exact eqGuard_at_slice ..
  | map0 => exact eqGuard_at_map ..
  | map h => exact eqGuard_at_map ..
  | func hl h => exact eqGuard_at_func ..
  | yield h => exact eqGuard_at_func ..
  | nilFunc => exact eqGuard_at_nilFunc ..
  | iface h => exact eqGuard_at_iface ..
  | nilIface =>
    rcases eqL_nilIface h with ⟨rfl, hc⟩ | ⟨d, z, rfl⟩
    · cases hy
      simp only [Bool.or_eq_true] at hc
      rcases hc with hc | hc
      · obtain ⟨c, rfl⟩ := isConst_of hc; exact eqGuard_nil_constL ..
      · obtain ⟨c, rfl⟩ := isConst_of hc; exact eqGuard_nil_constR ..
    · cases hy
      exact eqGuard_nil_iface ..
  | agg hl h' => exact (eqL_agg h).elim
  | tuple hl h' => exact eqGuard_at_tuple ..
theorem eqL_int {t : TypeId} {c : Bool} {k : IntKind} {n : Int} {b : LV} : eqL P t c (.int k n) b = none := by
  cases hd : P.underlying t with
  | none => simp [eqL, hd]
  | some d => cases d <;> cases b <;> simp [eqL, hd]
theorem eqL_str {t : TypeId} {c : Bool} {s : List UInt8} {b : LV} : eqL P t c (.str s) b = none := by
  cases hd : P.underlying t with
  | none => simp [eqL, hd]
  | some d => cases d <;> cases b <;> simp [eqL, hd]
theorem binOp_eql_ {t : TypeId} {a : LV} (h1 : ∀ k n, a ≠ .int k n) (h2 : ∀ s, a ≠ .str s) {v u : Value} (hx : VR μ a v) : binOp .eql t v u = (do pure (.bool (← Op.equal t v u))) := by
  cases hx <;> first | rfl | exact absurd rfl (h1 _ _) | exact absurd rfl (h2 _)
theorem binOp_neq_ {t : TypeId} {a : LV} (h1 : ∀ k n, a ≠ .int k n) (h2 : ∀ s, a ≠ .str s) {v u : Value} (hx : VR μ a v) : binOp .neq t v u = (do pure (.bool (!(← Op.equal t v u)))) := by
  cases hx <;> first | rfl | exact absurd rfl (h1 _ _) | exact absurd rfl (h2 _)
theorem binL_sound {op : BinOp} {t : TypeId} {xo yo : Operand} {x y r : LV} (h : binL P op t (isConst xo || isConst yo) x y = some r) {v u : Value} (hx : VR μ x v) (hy : VR μ y u) (w : World) :
    ∃ z, (do eqGuard op t xo yo v u; binOp op t v u : Sem Value).run P w = .ok z w ∧ VR μ r z := by
  unfold binL at h
  split at h
  · cases hx; cases hy
    obtain ⟨z, hz, hr⟩ := intBin_sound (P := P) (μ := μ) h t w
    exact ⟨z, by simp [eqGuard_at_int, hz], hr⟩
  · cases hx; cases hy
    obtain ⟨z, hz, hr⟩ := strBin_sound (P := P) (μ := μ) h t w
    exact ⟨z, by simp [eqGuard_at_string, hz], hr⟩
  · have h1 : ∀ b, eqL P t (isConst xo || isConst yo) x y = some b → (∀ k n, x ≠ .int k n) ∧ ∀ s, x ≠ .str s := fun b hb =>
      ⟨fun k n e => (by subst e; rw [eqL_int] at hb; cases hb), fun s e => (by subst e; rw [eqL_str] at hb; cases hb)⟩
    split at h
    · obtain ⟨b, hb, rfl⟩ := Option.map_eq_some_iff.1 h
      refine ⟨_, ?_, .bool b⟩
      simp [guard_sound hb hx hy, binOp_eql_ (h1 b hb).1 (h1 b hb).2 hx, eqL_sound hb hx hy]
    · obtain ⟨b, hb, rfl⟩ := Option.map_eq_some_iff.1 h
      refine ⟨_, ?_, .bool _⟩
      simp [guard_sound hb hx hy, binOp_neq_ (h1 b hb).1 (h1 b hb).2 hx, eqL_sound hb hx hy]
    · cases h
theorem unL_sound {op : UnOp} {x r : LV} (h : unL op x = some r) {v : Value} (hx : VR μ x v) (w : World) : ∃ z, (Op.unary op v).run P w = .ok z w ∧ VR μ r z := by
  unfold unL at h
  split at h
  · obtain rfl := Option.some.inj h; cases hx; exact ⟨_, rfl, .int _ _⟩
  · obtain rfl := Option.some.inj h; cases hx; exact ⟨_, rfl, .int _ _⟩
  · obtain rfl := Option.some.inj h; cases hx; exact ⟨_, rfl, .bool _⟩
  · cases h
/-- A bound that may lack. -/
def VRo (μ : Mu) : Option LV → Option Value → Prop
  | none, none => True
  | some x, some v => VR μ x v
  | _, _ => False
theorem bound_sound {x : Option LV} {m dflt n : Nat} (h : bound x m dflt = some n) {v : Option Value} (hv : VRo μ x v) :
    (x = none ∧ v = none ∧ n = dflt) ∨ ∃ u, v = some u ∧ n ≤ m ∧ ∀ (y : Nat), m ≤ y → ∀ (code : BoundsCode) (w : World), (Instr.sliceBound u y code).run P w = .ok n w := by
  cases x with
  | none =>
    cases v with
    | none => simp only [bound] at h; exact .inl ⟨rfl, rfl, (Option.some.inj h).symm⟩
    | some u => exact hv.elim
  | some x =>
    cases v with
    | none => exact hv.elim
    | some u =>
      right
      refine ⟨u, rfl, ?_⟩
      cases x <;> simp only [bound] at h <;> try cases h
      rename_i k i
      split at h
      · rename_i hi
        obtain rfl := Option.some.inj h
        cases hv
        refine ⟨by omega, fun y hy code w => ?_⟩
        simp only [Instr.sliceBound, asIntOf, Sem.run_bind, Sem.run_pure, Result.andThen_ok]
        rw [if_pos (by omega)]
        rfl
      · cases h
end
end Go.LZ
end
section
/- The evaluator's soundness, part 7: what touches no memory, whole. -/
namespace Go.LZ
open Go
set_option linter.unusedSimpArgs false
section
variable {P : Program} {μ : Mu} {ρ : Operand → Option LV} {ρ' : Operand → Value}

theorem extract_mk (s : List UInt8) (l h : Nat) : (⟨s.toArray⟩ : ByteArray).extract l h = ⟨((s.take h).drop l).toArray⟩ := by
  apply ByteArray.ext
  simp [ByteArray.data_extract, List.extract_eq_take_drop, List.drop_take]
theorem addr_add (b o n : Nat) : (⟨b, o, none⟩ : Addr).add n = ⟨b, o + n, none⟩ := by
  unfold Addr.add; split <;> simp_all
theorem bounds_sound {k n c h l : Nat} {hi lo : Option LV} (hb : bound hi k n = some h) (hbl : bound lo h 0 = some l) (hnk : n ≤ k) (hkc : k ≤ c) {hi' lo' : Option Value} (hh : VRo μ hi hi') (hl : VRo μ lo lo') (b : Bool) (w : World) :
    (Instr.sliceBounds b n c lo' hi' none).run P w = .ok (l, h, c) w ∧ l ≤ h ∧ h ≤ k := by
  rcases bound_sound (P := P) hb hh with ⟨rfl, rfl, rfl⟩ | ⟨u, rfl, hle, hu⟩
  · rcases bound_sound (P := P) hbl hl with ⟨rfl, rfl, rfl⟩ | ⟨u2, rfl, hle2, hu2⟩
    · exact ⟨by simp [Instr.sliceBounds], by omega, hnk⟩
    · refine ⟨?_, hle2, hnk⟩
      simp [Instr.sliceBounds, hu2 _ (Nat.le_refl _)]
  · rcases bound_sound (P := P) hbl hl with ⟨rfl, rfl, rfl⟩ | ⟨u2, rfl, hle2, hu2⟩
    · refine ⟨?_, by omega, hle⟩
      simp [Instr.sliceBounds, hu _ hkc]
    · refine ⟨?_, hle2, hle⟩
      simp [Instr.sliceBounds, hu _ hkc, hu2 _ (Nat.le_refl _)]
theorem sliceL_sound {t : TypeId} {x r : LV} {lo hi mx : Option LV} (h : sliceL P t x lo hi mx = some r) {v : Value} {lo' hi' mx' : Option Value} (hx : VR μ x v) (hl : VRo μ lo lo') (hh : VRo μ hi hi') (hm : VRo μ mx mx') (w : World) :
    ∃ z, (Instr.sliceAt t v lo' hi' mx').run P w = .ok z w ∧ VR μ r z := by
  unfold sliceL at h
  split at h
  · rename_i s hd
    split at h
    · rename_i hi0 hb
      split at h
      · rename_i l0 hbl
        obtain rfl := Option.some.inj h
        cases hx
        obtain rfl : mx' = none := by cases mx' with | none => rfl | some _ => exact hm.elim
        refine ⟨_, ?_, .str _⟩
        obtain ⟨hr, _, _⟩ := bounds_sound (P := P) hb hbl (Nat.le_refl _) (Nat.le_refl _) hh hl false w
        simp only [Instr.sliceAt, Sem.run_bind, run_und hd, Result.andThen_ok, Instr.slice, Option.isSome_none, Bool.false_eq_true, if_false, size_mk, hr, Sem.run_pure, extract_mk]
      · cases h
    · cases h
  · rename_i e p n k hd
    split at h
    · rename_i sz hsz
      split at h
      · rename_i h0 hb
        split at h
        · rename_i l0 hbl
          obtain rfl : mx' = none := by cases mx' with | none => rfl | some _ => exact hm.elim
          cases hx with
          | slice0 =>
            obtain rfl := Option.some.inj h
            obtain ⟨hr, h1, h2⟩ := bounds_sound (P := P) hb hbl (Nat.le_refl _) (Nat.le_refl _) hh hl true w
            refine ⟨_, ?_, .slice0⟩
            obtain rfl : h0 = 0 := by omega
            obtain rfl : l0 = 0 := by omega
            simp [Instr.sliceAt, run_und hd, Instr.slice, hr, run_size hsz]
          | sliceE q a =>
            obtain ⟨r0, off, z⟩ := q
            simp only at h
            split at h
            · obtain rfl := Option.some.inj h
              obtain ⟨hr, h1, h2⟩ := bounds_sound (P := P) hb hbl (Nat.le_refl _) (Nat.le_refl _) hh hl true w
              obtain rfl : h0 = 0 := by omega
              obtain rfl : l0 = 0 := by omega
              refine ⟨_, ?_, .sliceE _ a⟩
              simp [Instr.sliceAt, run_und hd, Instr.slice, hr, run_size hsz]
            · cases h
          | slice hloc hk hc hs =>
            rename_i r0 off z c loc
            simp only at h
            split at h
            · rename_i hz
              subst hz
              obtain rfl := Option.some.inj h
              obtain ⟨hr, h1, h2⟩ := bounds_sound (P := P) hb hbl hk hc hh hl true w
              by_cases hcl : c = l0
              · subst hcl
                obtain rfl : h0 = c := by omega
                obtain rfl : k = h0 := by omega
                refine ⟨.slice (some ⟨loc.b, loc.base + off, none⟩) 0 0, ?_, ?_⟩
                · simp [Instr.sliceAt, run_und hd, Instr.slice, hr, run_size hsz]
                · rw [Nat.sub_self]; exact .sliceE _ _
              · refine ⟨.slice (some ⟨loc.b, loc.base + (off + l0 * z), none⟩) (h0 - l0) (c - l0), ?_, .slice hloc (by omega) (by omega) ?_⟩
                · simp only [Instr.sliceAt, Sem.run_bind, run_und hd, Result.andThen_ok, Instr.slice, hr, run_size hsz, if_neg hcl, Option.map_some, Sem.run_pure, addr_add, Nat.add_assoc]
                · have : l0 * z + (c - l0) * z = c * z := by rw [← Nat.add_mul]; congr 1; omega
                  omega
            · cases h
        · cases h
      · cases h
    · cases h
  · cases h
end
end Go.LZ
end
section
/- The evaluator's soundness, part 8: an operation that touches no memory. -/
namespace Go.LZ
open Go
set_option linter.unusedSimpArgs false
section
variable {P : Program} {μ : Mu} {ρ : Operand → Option LV} {ρ' : Operand → Value}

theorem opt_sound (hρ : ∀ x lv, ρ x = some lv → VR μ lv (ρ' x)) {x : Option Operand} {v : Option LV} (h : optEval ρ x = some v) : VRo μ v (x.map ρ') := by
  cases x with
  | none => simp only [optEval] at h; obtain rfl := Option.some.inj h; trivial
  | some x =>
    simp only [optEval] at h
    obtain ⟨y, hy, rfl⟩ := Option.map_eq_some_iff.1 h
    exact hρ _ _ hy
theorem args_one {c : Call} {v : Value} (h : c.args.toList.map ρ' = [v]) : c.args.map ρ' = #[v] := by
  apply Array.toList_inj.1; simpa using h
theorem args_list {c : Call} {vs : List Value} (h : c.args.toList.map ρ' = vs) : c.args.map ρ' = vs.toArray := by
  apply Array.toList_inj.1; simpa using h
theorem arr_of_list {α : Type} {a : Array α} {l : List α} (h : a.toList = l) : a = l.toArray := by
  apply Array.toList_inj.1; simpa using h
theorem callee_builtin {c : Call} {b : Builtin} (h : c.callee = .builtin b) (ty : TypeId) (w : World) :
    ∃ consts, (do let d ← resolve ρ' c ty; invoke d.target d.args : Sem Next).run P w = (builtin b c.argTypes ty consts (c.args.map ρ')).run P w := by
  simp only [resolve, h, Sem.run_bind, Sem.run_pure, Result.andThen_ok, invoke]
  exact ⟨_, rfl⟩
theorem min_fold : ∀ (rest : List LV) (vs : List Value) (k : IntKind) (a : Int) (r : LV) (w : World), VRs μ rest vs →
    rest.foldl (fun acc y => match acc, y with
      | some (.int k x), .int _ y => some (.int k (if y < x then y else x))
      | _, _ => none) (some (LV.int k a)) = some r → ∃ z, (vs.foldlM Builtin.min2 (.int k a) : Sem Value).run P w = .ok z w ∧ VR μ r z := by
  intro rest
  induction rest with
  | nil =>
    intro vs k a r w hv h
    rw [hv.nil_inv]
    obtain rfl := Option.some.inj h
    exact ⟨_, rfl, .int _ _⟩
  | cons y rest ih =>
    intro vs k a r w hv h
    obtain ⟨v, vs', rfl, hy, hvs⟩ := hv.cons_inv
    have hnone : ∀ (l : List LV), l.foldl (fun acc y => match acc, y with
      | some (LV.int k x), .int _ y => some (LV.int k (if y < x then y else x))
      | _, _ => none) none = none := by
      intro l
      induction l with
      | nil => rfl
      | cons a l ih => simp only [List.foldl_cons]; exact ih
    simp only [List.foldl_cons] at h
    cases y <;> simp only [hnone] at h <;> try cases h
    cases hy
    obtain ⟨z, hz, hr⟩ := ih vs' k _ r w hvs h
    refine ⟨z, ?_, hr⟩
    simp only [List.foldlM_cons, Builtin.min2, Sem.run_bind, Sem.run_pure, Result.andThen_ok]
    exact hz
theorem max_fold : ∀ (rest : List LV) (vs : List Value) (k : IntKind) (a : Int) (r : LV) (w : World), VRs μ rest vs →
    rest.foldl (fun acc y => match acc, y with
      | some (.int k x), .int _ y => some (.int k (if y > x then y else x))
      | _, _ => none) (some (LV.int k a)) = some r → ∃ z, (vs.foldlM Builtin.max2 (.int k a) : Sem Value).run P w = .ok z w ∧ VR μ r z := by
  intro rest
  induction rest with
  | nil =>
    intro vs k a r w hv h
    rw [hv.nil_inv]
    obtain rfl := Option.some.inj h
    exact ⟨_, rfl, .int _ _⟩
  | cons y rest ih =>
    intro vs k a r w hv h
    obtain ⟨v, vs', rfl, hy, hvs⟩ := hv.cons_inv
    have hnone : ∀ (l : List LV), l.foldl (fun acc y => match acc, y with
      | some (LV.int k x), .int _ y => some (LV.int k (if y > x then y else x))
      | _, _ => none) none = none := by
      intro l
      induction l with
      | nil => rfl
      | cons a l ih => simp only [List.foldl_cons]; exact ih
    simp only [List.foldl_cons] at h
    cases y <;> simp only [hnone] at h <;> try cases h
    cases hy
    obtain ⟨z, hz, hr⟩ := ih vs' k _ r w hvs h
    refine ⟨z, ?_, hr⟩
    simp only [List.foldlM_cons, Builtin.max2, Sem.run_bind, Sem.run_pure, Result.andThen_ok]
    exact hz
theorem zip_fst {xs : List Nat} {vs : List LV} (h : xs.length = vs.length) : (xs.zip vs).map (·.1) = xs := by
  rw [List.map_fst_zip (by omega)]
theorem zip_snd {xs : List Nat} {vs : List LV} (h : xs.length = vs.length) : (xs.zip vs).map (·.2) = vs := by
  rw [List.map_snd_zip (by omega)]
theorem sizeT_field {t : TypeId} {n : Nat} (h : sizeT P t = some n) (w : World) : (sizeOf t).run P w = .ok n w := run_size h w
theorem evals_len {xs : List Operand} {vs : List LV} (h : evals ρ xs = some vs) : vs.length = xs.length := by
  induction xs generalizing vs with
  | nil => simp only [evals] at h; obtain rfl := Option.some.inj h; rfl
  | cons x xs ih =>
    simp only [evals] at h
    split at h
    · rename_i hvs
      obtain rfl := Option.some.inj h
      simp [ih hvs]
    · cases h
theorem opP_sound (hρ : ∀ x lv, ρ x = some lv → VR μ lv (ρ' x)) {o : Oper} {r : LV} (h : opP P ρ o.op = some r) (w : World) : ∃ v, (execOp ρ' o).run P w = .ok (.value v) w ∧ VR μ r v := by
  obtain ⟨dst, op, type, pos, after, guard⟩ := o
  cases op <;> simp only [opP] at h <;> try (cases h; done)
  case move x => exact ⟨_, rfl, hρ _ _ h⟩
  case assign x => exact ⟨_, rfl, hρ _ _ h⟩
  case pick c a b =>
    split at h
    · rename_i hc
      have := hρ _ _ hc
      generalize hv : ρ' c = v at this
      cases this
      exact ⟨_, by simp [execOp, hv, asBool], hρ _ _ h⟩
    · rename_i hc
      have := hρ _ _ hc
      generalize hv : ρ' c = v at this
      cases this
      exact ⟨_, by simp [execOp, hv, asBool], hρ _ _ h⟩
    · cases h
  case nilCheck x =>
    split at h
    · cases h
    · cases h
    · cases h
    · rename_i h1 h2 h3
      have hr := hρ _ _ h
      refine ⟨ρ' x, ?_, hr⟩
      generalize hv : ρ' x = v at hr
      simp only [execOp, hv]
      cases hr <;> first
        | rfl
        | exact absurd h h1
        | exact absurd h h2
        | exact absurd h h3
  case binOp op t x y yt =>
    split at h
    · rename_i a b ha hb
      obtain ⟨z, hz, hr⟩ := binL_sound (P := P) h (hρ _ _ ha) (hρ _ _ hb) w
      refine ⟨z, ?_, hr⟩
      simp only [execOp]
      rw [Sem.run_bind]
      rw [hz]
      rfl
    · cases h
  case unOp op t x =>
    obtain ⟨a, ha, hu⟩ := Option.bind_eq_some_iff.1 h
    obtain ⟨z, hz, hr⟩ := unL_sound (P := P) hu (hρ _ _ ha) w
    exact ⟨z, by simp [execOp, hz], hr⟩
  case convert src dst x =>
    split at h
    · rename_i hs hd hx
      obtain rfl := Option.some.inj h
      have := hρ _ _ hx
      generalize hv : ρ' x = v at this
      cases this
      exact ⟨_, by simp [execOp, hv, convert, run_und hs, run_und hd, Conv.intToInt], .int _ _⟩
    · rename_i hs hd hx
      obtain rfl := Option.some.inj h
      have := hρ _ _ hx
      generalize hv : ρ' x = v at this
      cases this
      exact ⟨_, by simp [execOp, hv, convert, run_und hs, run_und hd], .str _⟩
    · rename_i hs hd hx
      obtain rfl := Option.some.inj h
      have := hρ _ _ hx
      generalize hv : ρ' x = v at this
      cases this
      rename_i k0 k n
      refine ⟨.string (Utf8.encode n), by simp [execOp, hv, convert, run_und hs, run_und hd, Conv.intToString], ?_⟩
      have hk := VR.str (μ := μ) (Utf8.encode n).data.toList
      have he : (⟨(Utf8.encode n).data.toList.toArray⟩ : ByteArray) = Utf8.encode n := by apply ByteArray.ext; simp
      rw [he] at hk
      exact hk
    · cases h
  case makeInterface t x =>
    split at h
    · cases h
    · rename_i d v hn hd hx
      obtain rfl := Option.some.inj h
      refine ⟨_, ?_, .iface (hρ _ _ hx)⟩
      simp only [execOp, Instr.makeInterface, Sem.run_bind, run_und hd, Result.andThen_ok]
      cases d <;> first | rfl | exact absurd hd (hn _)
    · cases h
  case makeFunc fn first captured =>
    split at h
    · rename_i f vs hf hvs
      obtain rfl := Option.some.inj h
      have hv := evals_vr hρ hvs
      have hfe : first = #[] := by apply Array.toList_inj.1; simpa using hf
      subst hfe
      refine ⟨.func (.func f) #[] (captured.map ρ'), by simp [execOp, Instr.makeFunc], .func (by simpa using hv.1) fun i x v hx hv' => hv.2 i x v hx ?_⟩
      rw [← Array.toList_map]; simpa using hv'
    · cases h
  case extract x i =>
    split at h
    · rename_i vs hx
      obtain ⟨us, hu, hr⟩ := vr_tuple_inv (hρ _ _ hx)
      obtain ⟨v, hv, hr'⟩ := hr.at_ h
      exact ⟨v, by simp [execOp, hu, Instr.extract, hv], hr'⟩
    · cases h
  case field t x i =>
    split at h
    · rename_i fs cs hd hx
      split at h
      · rename_i f hf
        obtain ⟨us, hu, hr⟩ := vr_agg_inv (hρ _ _ hx)
        obtain ⟨v, hv, hr'⟩ := part_sound (P := P) h hr w
        exact ⟨v, by simp [execOp, hu, Instr.field, run_und hd, hf, asAgg, hv], hr'⟩
      · cases h
    · cases h
  case index t x i =>
    split at h
    · rename_i s k n hd hx hi
      split at h
      · rename_i hn
        obtain ⟨b, hb, rfl⟩ := Option.map_eq_some_iff.1 h
        have h1 := hρ _ _ hx
        have h2 := hρ _ _ hi
        generalize hv : ρ' x = v at h1
        generalize hu : ρ' i = u at h2
        cases h1
        cases h2
        refine ⟨.int .u8 b.toNat, ?_, .int _ _⟩
        have hb' : (⟨s.toArray⟩ : ByteArray)[n.toNat]? = some b := by
          obtain ⟨hl, he⟩ := List.getElem?_eq_some_iff.1 hb
          have hl' : n.toNat < (⟨s.toArray⟩ : ByteArray).size := by rw [size_mk]; exact hl
          rw [getElem?_pos (⟨s.toArray⟩ : ByteArray) n.toNat hl']
          rw [← he]
          rfl
        simp [execOp, hv, hu, Instr.index, asIntOf, run_und hd, hn, hb']
      · cases h
    · rename_i m e cs k n hd hx hi
      split at h
      · rename_i sz hsz
        split at h
        · rename_i hn
          have h2 := hρ _ _ hi
          obtain ⟨us, hu, hr⟩ := vr_agg_inv (hρ _ _ hx)
          generalize hv : ρ' i = v at h2
          cases h2
          obtain ⟨z, hz, hr'⟩ := part_sound (P := P) h hr w
          exact ⟨z, by simp [execOp, hv, hu, Instr.index, asIntOf, run_und hd, hn, run_size hsz, hz], hr'⟩
        · cases h
      · cases h
    · cases h
  case fieldAddr t x i =>
    split at h
    · rename_i fs r0 off hd hx
      split at h
      · rename_i f hf
        split at h
        · rename_i n hsz
          obtain rfl := Option.some.inj h
          have h1 := hρ _ _ hx
          generalize hv : ρ' x = v at h1
          cases h1
          rename_i loc hl
          refine ⟨_, ?_, .ptr hl⟩
          simp [execOp, hv, Instr.fieldAt, run_und hd, hf, Instr.sureAddr, fieldPlace, run_size hsz, addr_add, Nat.add_assoc]
        · cases h
      · cases h
    · cases h
  case indexAddr t x i =>
    split at h
    · rename_i e r0 off z n kk k j hd hx hi
      split at h
      · rename_i sz hsz
        split at h
        · rename_i hj
          obtain ⟨rfl, hj⟩ := hj
          obtain rfl := Option.some.inj h
          have h1 := hρ _ _ hx
          have h2 := hρ _ _ hi
          generalize hv : ρ' x = v at h1
          generalize hu : ρ' i = u at h2
          cases h2
          cases h1
          · omega
          · rename_i c loc hl hk hs hc
            refine ⟨_, ?_, .ptr hl⟩
            simp [execOp, hv, hu, Instr.indexAt, asIntOf, run_und hd, hj, run_size hsz, addr_add, Nat.add_assoc]
        · cases h
      · cases h
    · rename_i m e r0 off k j hd hx hi
      split at h
      · rename_i sz hsz
        split at h
        · rename_i hj
          obtain rfl := Option.some.inj h
          have h1 := hρ _ _ hx
          have h2 := hρ _ _ hi
          generalize hv : ρ' x = v at h1
          generalize hu : ρ' i = u at h2
          cases h2
          cases h1
          rename_i loc hl
          refine ⟨_, ?_, .ptr hl⟩
          simp [execOp, hv, hu, Instr.indexAt, asIntOf, run_und hd, hj, run_size hsz, addr_add, Nat.add_assoc, Instr.sureAddr]
        · cases h
      · cases h
    · cases h
  case slice t x lo hi mx =>
    split at h
    · rename_i v l hh m hx hl hhi hm
      obtain ⟨z, hz, hr⟩ := sliceL_sound (P := P) h (hρ _ _ hx) (opt_sound hρ hl) (opt_sound hρ hhi) (opt_sound hρ hm) w
      exact ⟨z, by simp [execOp, hz], hr⟩
    · cases h
  case build t parts =>
    split at h
    · rename_i it fs vs hi hd hv
      split at h
      · rename_i z places hz hp
        obtain ⟨ys, hy, rfl⟩ := Option.map_eq_some_iff.1 h
        obtain ⟨zv, hzv, hzo⟩ := Option.bind_eq_some_iff.1 hz
        obtain ⟨hz1, _⟩ := ofV_vr (μ := μ) hzo
        have hlen := evals_len hv
        have hvr := evals_vr hρ hv
        obtain ⟨us, hu, hr⟩ := fill_sound (μ := μ) (vs := zv.cells.toList) (parts' := parts.toList.map fun (i, x) => (i, ρ' x)) hy (vr_cells hz1)
          (by rw [zip_fst (by simpa using hlen.symm)]; simp [Function.comp_def]) (by rw [zip_snd (by simpa using hlen.symm)]; simpa [Function.comp_def] using hvr)
        refine ⟨_, ?_, vr_agg hr⟩
        have hb : P.built t (parts.map fun (i, x) => (i, ρ' x)).toList = some us.toArray := by
          unfold Program.built
          simp only [hi, hd, hzv, hp]
          rw [← hu]
          simp
        simp only [execOp, Sem.run_bind]
        rw [run_build w t _ _ hb]
        rfl
      · cases h
    · rename_i it m e vs hi hd hv
      split at h
      · rename_i z ie hz hie
        obtain ⟨ys, hy, rfl⟩ := Option.map_eq_some_iff.1 h
        obtain ⟨zv, hzv, hzo⟩ := Option.bind_eq_some_iff.1 hz
        obtain ⟨hz1, _⟩ := ofV_vr (μ := μ) hzo
        have hlen := evals_len hv
        have hvr := evals_vr hρ hv
        obtain ⟨us, hu, hr⟩ := fill_sound (μ := μ) (vs := zv.cells.toList) (parts' := parts.toList.map fun (i, x) => (i, ρ' x)) hy (vr_cells hz1)
          (by rw [zip_fst (by simpa using hlen.symm)]; simp [Function.comp_def]) (by rw [zip_snd (by simpa using hlen.symm)]; simpa [Function.comp_def] using hvr)
        refine ⟨_, ?_, vr_agg hr⟩
        have hb : P.built t (parts.map fun (i, x) => (i, ρ' x)).toList = some us.toArray := by
          unfold Program.built
          simp only [hi, hd, hzv, hie]
          rw [← hu]
          simp
        simp only [execOp, Sem.run_bind]
        rw [run_build w t _ _ hb]
        rfl
      · cases h
    · cases h
  case call c =>
    split at h
    · rename_i t x hc ht hx
      have hv := evals_vr hρ hx
      obtain ⟨v, vs, e, h1, h2⟩ := hv.cons_inv
      obtain rfl := h2.nil_inv
      obtain ⟨consts, hrun⟩ := callee_builtin (P := P) (ρ' := ρ') hc type w
      have hta : c.argTypes = #[t] := arr_of_list ht
      split at h
      · rename_i hd
        obtain rfl := Option.some.inj h
        cases h1
        refine ⟨_, ?_, .int _ _⟩
        simp only [execOp]
        rw [hrun, args_one e, hta]
        simp [builtin, Builtin.len_, run_und hd, goInt, size_mk]
      · rename_i hd
        obtain rfl := Option.some.inj h
        refine ⟨.int .i64 _, ?_, .int _ _⟩
        simp only [execOp]
        rw [hrun, args_one e, hta]
        cases h1 <;> simp [builtin, Builtin.len_, run_und hd, goInt]
      · cases h
    · rename_i k a rest hc hx
      have hv := evals_vr hρ hx
      obtain ⟨v, vs, e, h1, h2⟩ := hv.cons_inv
      cases h1
      obtain ⟨consts, hrun⟩ := callee_builtin (P := P) (ρ' := ρ') hc type w
      obtain ⟨z, hz, hr⟩ := min_fold (P := P) rest vs k a r w h2 h
      refine ⟨z, ?_, hr⟩
      simp only [execOp]
      rw [hrun, args_list e]
      simp only [builtin, Builtin.min_, Sem.run_bind, hz]
      rfl
    · rename_i k a rest hc hx
      have hv := evals_vr hρ hx
      obtain ⟨v, vs, e, h1, h2⟩ := hv.cons_inv
      cases h1
      obtain ⟨consts, hrun⟩ := callee_builtin (P := P) (ρ' := ρ') hc type w
      obtain ⟨z, hz, hr⟩ := max_fold (P := P) rest vs k a r w h2 h
      refine ⟨z, ?_, hr⟩
      simp only [execOp]
      rw [hrun, args_list e]
      simp only [builtin, Builtin.max_, Sem.run_bind, hz]
      rfl
    · cases h
end
end Go.LZ
end
section
/- The evaluator's soundness, part 9: operations that read memory. -/
namespace Go.LZ
open Go Go.MapKept
set_option linter.unusedSimpArgs false
section
variable {P : Program} {μ : Mu} {ρ : Operand → Option LV} {ρ' : Operand → Value} {B : Nat} {G : World → Prop} {σ : H} {w : World}

theorem cell_at {C : Array Value} {e : Nat} {fr : Nat × Nat} {b : Nat} (h : w.heap[b]? = some (.cells C e fr)) (i : Nat) : w.cell? ⟨b, i, none⟩ = C[i]? := by simp [World.cell?, h]
/-- A row's cells, as they lie. -/
theorem HR.row (h : HR B G μ σ w) {r e : Nat} {ro : Bool} {cs : List LV} (hr : σ.m.get r = some (.row e ro cs)) :
    ∃ loc C fr, μ r = some loc ∧ w.heap[loc.b]? = some (.cells C e fr) ∧ C.size = loc.size ∧ RowR μ C loc.base cs ∧ (ro = false → Fz C.size fr) ∧ (∀ x ∈ cs, x.one = true) := by
  obtain ⟨loc, hl, ⟨C, fr, h1, h2, h3, h4, h5⟩, _⟩ := h.obj r _ hr
  exact ⟨loc, C, fr, hl, h1, h2, h3, h4, h5⟩
theorem RowR.seg {C : Array Value} {base : Nat} {cs : List LV} (h : RowR μ C base cs) {off n : Nat} (hn : off + n ≤ cs.length) : VRs μ ((cs.drop off).take n) (((C.toList.drop (base + off)).take n)) := by
  have hl := h.1
  refine ⟨by simp; omega, fun i x v hx hv => ?_⟩
  rw [List.getElem?_take] at hx hv
  split at hx
  · rename_i hi
    simp only [hi, if_true] at hv
    rw [List.getElem?_drop] at hx hv
    exact h.2 _ x v hx (by rw [← Nat.add_assoc]; simpa using hv)
  · cases hx
theorem run_loads {C : Array Value} {e : Nat} {fr : Nat × Nat} {b o n : Nat} (h : w.heap[b]? = some (.cells C e fr)) (hn : o + n ≤ C.size) :
    (loadCells ⟨b, o, none⟩ n).run P w = .ok ((C.toList.drop o).take n).toArray w := by
  have hlen : ((C.toList.drop o).take n).length = n := by simp; omega
  have := run_loadCells_list (P := P) w ⟨b, o, none⟩ ((C.toList.drop o).take n) (fun j v hj => by
    rw [addr_add, cell_at h]
    rw [List.getElem?_take] at hj
    split at hj
    · rw [List.getElem?_drop] at hj; simpa using hj
    · cases hj)
  rw [hlen] at this
  exact this
theorem load_sound (h : HR B G μ σ w) {t r off : Nat} {x : LV} (hx : loadL P t σ r off = some x) {v : Value} (hv : VR μ (.ptr (some (r, off))) v) : ∃ u, (Instr.loadAt t v).run P w = .ok u w ∧ VR μ x u := by
  cases hv
  rename_i loc hl
  unfold loadL at hx
  split at hx
  · rename_i e ro cs n hr ha hs
    obtain ⟨ys, hy, rfl⟩ := Option.map_eq_some_iff.1 hx
    obtain ⟨hle, rfl⟩ := takeAt_some hy
    obtain ⟨loc', C, fr, h1, h2, h3, h4, _, _⟩ := h.row hr
    rw [hl] at h1
    obtain rfl := Option.some.inj h1
    have h5 := h4.1
    refine ⟨_, ?_, vr_agg (h4.seg hle)⟩
    simp [Instr.loadAt, Instr.sureAddr, loadVar, run_agg ha, run_size hs, run_loads h2 (show loc.base + off + n ≤ C.size by omega)]
  · rename_i e ro cs _ hr ha
    obtain ⟨loc', C, fr, h1, h2, h3, h4, _, _⟩ := h.row hr
    rw [hl] at h1
    obtain rfl := Option.some.inj h1
    have hlt := (List.getElem?_eq_some_iff.1 hx).1
    have h5 := h4.1
    have hlt' : loc.base + off < C.size := by omega
    refine ⟨C[loc.base + off], ?_, h4.2 off x _ hx (by simp [hlt'])⟩
    simp [Instr.loadAt, Instr.sureAddr, loadVar, run_agg ha, cell_at h2, hlt']
  · cases hx
theorem read_sound (h : HR B G μ σ w) {r off n : Nat} {ys : List LV} (hy : readRow σ r off n = some ys) {loc : Loc} (hl : μ r = some loc) :
    ∃ vs : List Value, (loadCells ⟨loc.b, loc.base + off, none⟩ n).run P w = .ok vs.toArray w ∧ VRs μ ys vs ∧ ys.length = n ∧ ∀ y ∈ ys, y.one = true := by
  unfold readRow at hy
  split at hy
  · rename_i e ro cs hr
    obtain ⟨hle, rfl⟩ := takeAt_some hy
    obtain ⟨loc', C, fr, h1, h2, h3, h4, _, h6⟩ := h.row hr
    rw [hl] at h1
    obtain rfl := Option.some.inj h1
    have h5 := h4.1
    exact ⟨_, run_loads h2 (by omega), h4.seg hle, by simp; omega, fun y hy => h6 y (List.mem_of_mem_drop (List.mem_of_mem_take hy))⟩
  · cases hy
theorem bytes_sound : ∀ {ys : List LV} {bs : List UInt8} {vs : List Value}, bytesOfCells ys = some bs → VRs μ ys vs → ∃ ns : List Int, vs = ns.map (Value.int .u8) ∧ bs = ns.map fun n => UInt8.ofNat n.toNat := by
  intro ys
  induction ys with
  | nil => intro bs vs h hv; simp only [bytesOfCells] at h; obtain rfl := Option.some.inj h; rw [hv.nil_inv]; exact ⟨[], rfl, rfl⟩
  | cons y ys ih =>
    intro bs vs h hv
    obtain ⟨v, vs', rfl, h1, h2⟩ := hv.cons_inv
    unfold bytesOfCells at h
    split at h
    · rename_i e; cases e
    · rename_i n cs e
      injection e with e1 e2
      subst e1
      subst e2
      obtain ⟨l, hl, rfl⟩ := Option.map_eq_some_iff.1 h
      obtain ⟨ns, rfl, rfl⟩ := ih hl h2
      cases h1
      exact ⟨n :: ns, rfl, rfl⟩
    · cases h
theorem foldl_push_mk : ∀ (ns : List Int) (l : List UInt8), ns.foldl (fun (r : ByteArray) n => r.push (UInt8.ofNat n.toNat)) ⟨l.toArray⟩ = ⟨(l ++ ns.map fun n => UInt8.ofNat n.toNat).toArray⟩ := by
  intro ns
  induction ns with
  | nil => intro l; simp
  | cons n ns ih =>
    intro l
    simp only [List.foldl_cons, List.map_cons]
    have : (⟨l.toArray⟩ : ByteArray).push (UInt8.ofNat n.toNat) = ⟨(l ++ [UInt8.ofNat n.toNat]).toArray⟩ := by
      apply ByteArray.ext; simp [ByteArray.push]
    rw [this, ih]
    simp
theorem key_sound {kt : TypeId} {k : LV} (h : keyT P kt k = true) {v : Value} (hv : VR μ k v) : ∃ d, P.underlying kt = some d ∧ IsKey d v := by
  unfold keyT at h
  split at h
  · rename_i hd; cases hv; exact ⟨_, hd, (of_decide_eq_true h).symm⟩
  · rename_i hd; cases hv; exact ⟨_, hd, trivial⟩
  · rename_i hd; cases hv; exact ⟨_, hd, trivial⟩
  · cases h
theorem find_sound {kt : TypeId} {k : LV} (h : keyT P kt k = true) {v : Value} (hv : VR μ k v) {d : TypeDesc} (hd : P.underlying kt = some d) :
    ∀ (es : List (LV × LV)) (ES : List MapEntry) (i : Nat) (res : Option (Nat × LV)), findKeyL k es i = some res → ES.length = es.length →
    (∀ (j : Nat) (kv : LV × LV) (e : MapEntry), es[j]? = some kv → ES[j]? = some e → VR μ kv.1 e.key ∧ VR μ kv.2 e.val) →
    (res = none ∧ Instr.findNow d v ES i = some none) ∨ ∃ j x u, res = some (i + j, x) ∧ Instr.findNow d v ES i = some (some (i + j, u)) ∧ VR μ x u ∧ j < es.length ∧ (∃ e, ES[j]? = some e ∧ e.key = v ∧ (es[j]?).map (·.1) = some k) := by
  intro es
  induction es with
  | nil =>
    intro ES i res hf hl _
    simp only [findKeyL] at hf
    obtain rfl := Option.some.inj hf
    obtain rfl : ES = [] := List.eq_nil_of_length_eq_zero (by simpa using hl)
    exact .inl ⟨rfl, rfl⟩
  | cons p es ih =>
    intro ES i res hf hl hr
    obtain ⟨k', x'⟩ := p
    cases ES with
    | nil => simp at hl
    | cons e ES =>
      obtain ⟨ek, ev, eb⟩ := e
      obtain ⟨hk', hx'⟩ := hr 0 _ _ rfl rfl
      simp only at hk' hx'
      have step : ∀ s : Bool, Instr.sameNow d v ek = some s → (s = true → ek = v ∧ k' = k ∧ some (some (i, x')) = some res) → (s = false → findKeyL k es (i + 1) = some res) →
          (res = none ∧ Instr.findNow d v (⟨ek, ev, eb⟩ :: ES) i = some none) ∨ ∃ j x u, res = some (i + j, x) ∧ Instr.findNow d v (⟨ek, ev, eb⟩ :: ES) i = some (some (i + j, u)) ∧ VR μ x u ∧ j < (((k', x') : LV × LV) :: es).length ∧ (∃ e', ((⟨ek, ev, eb⟩ : MapEntry) :: ES)[j]? = some e' ∧ e'.key = v ∧ ((((k', x') : LV × LV) :: es)[j]?).map (·.1) = some k) := by
        intro s hs h1 h2
        cases s with
        | true =>
          obtain ⟨q1, q2, q3⟩ := h1 rfl
          obtain rfl := Option.some.inj q3
          exact .inr ⟨0, x', ev, rfl, by simp [Instr.findNow, hs], hx', by simp, _, rfl, q1, by simp [q2]⟩
        | false =>
          rcases ih ES (i + 1) res (h2 rfl) (by simpa using hl) (fun j kv e' a b => hr (j + 1) kv e' (by simpa using a) (by simpa using b)) with ⟨rfl, b⟩ | ⟨j, x, u, rfl, b, c, d', e', f1, f2, f3⟩
          · exact .inl ⟨rfl, by simp [Instr.findNow, hs, b]⟩
          · exact .inr ⟨j + 1, x, u, by rw [Nat.add_assoc, Nat.add_comm 1 j], by simp [Instr.findNow, hs, b, Nat.add_assoc, Nat.add_comm 1 j], c, by simp; omega, e', by simpa using f1, f2, by simpa using f3⟩
      unfold keyT at h
      unfold findKeyL at hf
      split at hf
      · rename_i j a j' b
        cases hv
        cases hk'
        rw [hd] at h
        cases d <;> simp only at h <;> try cases h
        split at hf
        · rename_i hj
          subst hj
          refine step (a == b) (by simp [Instr.sameNow]) (fun hs => ?_) (fun hs => ?_)
          · obtain rfl : a = b := by simpa using hs
            rw [if_pos rfl] at hf
            exact ⟨rfl, rfl, hf⟩
          · have hne : ¬ a = b := by simpa using hs
            rw [if_neg hne] at hf
            exact hf
        · cases hf
      · rename_i a b
        cases hv
        cases hk'
        rw [hd] at h
        cases d <;> simp only at h <;> try cases h
        refine step (a == b) (by simp only [Instr.sameNow, Option.some.injEq]; rw [Bool.eq_iff_iff]; simp [bytes_beq]) (fun hs => ?_) (fun hs => ?_)
        · obtain rfl : a = b := by simpa using hs
          rw [if_pos rfl] at hf
          exact ⟨rfl, rfl, hf⟩
        · have hne : ¬ a = b := by simpa using hs
          rw [if_neg hne] at hf
          exact hf
      · rename_i a b
        cases hv
        cases hk'
        rw [hd] at h
        cases d <;> simp only at h <;> try cases h
        refine step (a == b) (by simp [Instr.sameNow]) (fun hs => ?_) (fun hs => ?_)
        · obtain rfl : a = b := by simpa using hs
          rw [if_pos rfl] at hf
          exact ⟨rfl, rfl, hf⟩
        · have hne : ¬ a = b := by simpa using hs
          rw [if_neg hne] at hf
          exact hf
      · cases hf
end
end Go.LZ
end
section
/- The evaluator's soundness, part 10: an operation that reads memory. -/
namespace Go.LZ
open Go Go.MapKept
set_option linter.unusedSimpArgs false
section
variable {P : Program} {μ : Mu} {ρ : Operand → Option LV} {ρ' : Operand → Value} {B : Nat} {G : World → Prop} {σ : H} {w : World}

theorem map_sound (h : HR B G μ σ w) {m : LV} {es : List (LV × LV)} (hm : mapOf σ m = some es) {v : Value} (hv : VR μ m v) :
    (v = .map none ∧ es = []) ∨ ∃ b ES clk, v = .map (some b) ∧ w.heap[b]? = some (.map ES clk) ∧ ES.size = es.length ∧
      ∀ (i : Nat) (kv : LV × LV) (e : MapEntry), es[i]? = some kv → ES[i]? = some e → VR μ kv.1 e.key ∧ VR μ kv.2 e.val := by
  unfold mapOf at hm
  split at hm
  · obtain rfl := Option.some.inj hm; cases hv; exact .inl ⟨rfl, rfl⟩
  · rename_i r
    split at hm
    · rename_i es' hr
      obtain rfl := Option.some.inj hm
      cases hv
      rename_i loc hl
      obtain ⟨loc', hl', ⟨ES, clk, h1, h2, h3, h4⟩, _⟩ := h.obj r _ hr
      rw [hl] at hl'
      obtain rfl := Option.some.inj hl'
      exact .inr ⟨loc.b, ES, clk, rfl, h1, h3, h4⟩
    · cases hm
  · cases hm
theorem lookup_tail {kt et : TypeId} {key : LV} (hk : keyT P kt key = true) {kv : Value} (hkv : VR μ key kv) {es : List (LV × LV)} {ES : List MapEntry} (hl : ES.length = es.length)
    (hr : ∀ (i : Nat) (kv : LV × LV) (e : MapEntry), es[i]? = some kv → ES[i]? = some e → VR μ kv.1 e.key ∧ VR μ kv.2 e.val) {ok : Bool} {r : LV}
    (h : (match findKeyL key es 0, zeroT P et with
        | some (some (_, v)), _ => some (if ok then LV.tuple [v, .bool true] else v)
        | some none, some z => some (if ok then LV.tuple [z, .bool false] else z)
        | _, _ => none) = some r) (w : World) :
    (∀ b, (Instr.checkKey b 10000 kt kv).run P w = .ok () w) ∧
    ((∃ i u, (Instr.findKey kt kv ES).run P w = .ok (some (i, u)) w ∧ VR μ r (if ok then .tuple #[u, .bool true] else u)) ∨
     ∃ zv, (Instr.findKey kt kv ES).run P w = .ok none w ∧ (zeroValue et).run P w = .ok zv w ∧ VR μ r (if ok then .tuple #[zv, .bool false] else zv)) := by
  obtain ⟨d, hd, hkey⟩ := key_sound hk hkv
  refine ⟨fun b => run_checkKey (w := w) hd hkey b 9999, ?_⟩
  cases hf : findKeyL key es 0 with
  | none => rw [hf] at h; cases h
  | some res =>
    rw [hf] at h
    rcases find_sound (μ := μ) hk hkv hd es ES 0 res hf hl hr with ⟨rfl, hn⟩ | ⟨j, x, u, rfl, hn, hx, _⟩
    · cases hz : zeroT P et with
      | none => rw [hz] at h; cases h
      | some z =>
        rw [hz] at h
        obtain rfl := Option.some.inj h
        obtain ⟨zv, hzr, hzv, _⟩ := run_zero (μ := μ) hz w
        refine .inr ⟨zv, run_findKey hd hn, hzr, ?_⟩
        cases ok
        · exact hzv
        · exact vr_tuple (.cons hzv (.cons (.bool _) (.nil _)))
    · obtain rfl := Option.some.inj h
      refine .inl ⟨_, u, run_findKey hd hn, ?_⟩
      cases ok
      · exact hx
      · exact vr_tuple (.cons hx (.cons (.bool _) (.nil _)))
theorem opR_sound (h : HR B G μ σ w) (hρ : ∀ x lv, ρ x = some lv → VR μ lv (ρ' x)) {o : Oper} {r : LV} (hx : opR P ρ σ o.op = some r) : ∃ v, (execOp ρ' o).run P w = .ok (.value v) w ∧ VR μ r v := by
  obtain ⟨dst, op, type, pos, after, guard⟩ := o
  cases op <;> simp only [opR] at hx <;> try (cases hx; done)
  case load t x =>
    split at hx
    · rename_i r0 off hxv
      obtain ⟨u, hu, hr⟩ := load_sound h hx (hρ _ _ hxv)
      exact ⟨u, by simp [execOp, hu], hr⟩
    · cases hx
  case convert src dst' x =>
    split at hx
    · rename_i e p n k hs hd hxv
      have hv := hρ _ _ hxv
      generalize hw : ρ' x = v at hv
      split at hx
      · rename_i he
        obtain rfl := Option.some.inj hx
        cases hv
        refine ⟨_, ?_, .str []⟩
        have hcv := run_convert_bytes_nil (P := P) (w := w) src e hs he 0 0 dst' hd
        simp only [execOp, hw, Sem.run_bind]
        rw [hcv]
        rfl
      · rename_i r0 off z he
        split at hx
        · rename_i hz
          subst hz
          obtain ⟨l, hl, rfl⟩ := Option.map_eq_some_iff.1 hx
          obtain ⟨ys, hy, hb⟩ := Option.bind_eq_some_iff.1 hl
          cases hv with
          | sliceE p a =>
            have hys : ys = [] := by
              unfold readRow at hy
              split at hy
              · obtain ⟨_, rfl⟩ := takeAt_some hy; simp
              · cases hy
            subst hys
            simp only [bytesOfCells] at hb
            obtain rfl := Option.some.inj hb
            refine ⟨_, ?_, .str []⟩
            have := run_bytesToString (P := P) w a 0 0 [] (by rfl)
            simp only [execOp, hw, Sem.run_bind, run_convert_bytes_string w src dst' e (some a) 0 0 hs he hd, this, Result.andThen_ok]
            rfl
          | slice hloc hk hc hs' =>
            rename_i c loc
            obtain ⟨vs, hrun, hvs, _, _⟩ := read_sound (P := P) h hy hloc
            obtain ⟨ns, rfl, rfl⟩ := bytes_sound hb hvs
            have := run_bytesToString (P := P) w ⟨loc.b, loc.base + off, none⟩ n c ns (by rw [hrun])
            refine ⟨_, ?_, .str _⟩
            simp only [execOp, hw, Sem.run_bind, run_convert_bytes_string w src dst' e _ n c hs he hd, this, Result.andThen_ok]
            rw [show (ByteArray.empty) = ⟨([] : List UInt8).toArray⟩ from rfl, foldl_push_mk]
            rfl
        · cases hx
      · cases hx
    · cases hx
  case lookup t x k ok =>
    split at hx
    · rename_i kt et m key hd hxv hkv
      split at hx
      · rename_i hkt
        split at hx
        · rename_i es hm
          rcases map_sound h hm (hρ _ _ hxv) with ⟨hv, rfl⟩ | ⟨b, ES, clk, hv, hheap, hlen, hrel⟩
          · obtain ⟨hck, hrun⟩ := lookup_tail (P := P) (et := et) (ES := []) (ok := ok) hkt (hρ _ _ hkv) rfl (fun i kv e a => by simp at a) hx w
            rcases hrun with ⟨i, u, hf, hr⟩ | ⟨zv, hf, hz, hr⟩
            · refine ⟨_, ?_, hr⟩
              simp only [execOp, hv, Instr.lookup, Sem.run_bind, run_und hd, Result.andThen_ok, Sem.run_pure, hck, hf]
            · refine ⟨_, ?_, hr⟩
              simp only [execOp, hv, Instr.lookup, Sem.run_bind, run_und hd, Result.andThen_ok, Sem.run_pure, hck, hf, hz]
          · obtain ⟨hck, hrun⟩ := lookup_tail (P := P) (et := et) (ES := ES.toList) (ok := ok) hkt (hρ _ _ hkv) (by simpa using hlen) (fun i kv e a b => hrel i kv e a (by simpa using b)) hx w
            have hg := MapKept.run_getObj_map (P := P) hheap
            rcases hrun with ⟨i, u, hf, hr⟩ | ⟨zv, hf, hz, hr⟩
            · refine ⟨_, ?_, hr⟩
              simp only [execOp, hv, Instr.lookup, Sem.run_bind, run_und hd, Result.andThen_ok, Sem.run_pure, hg, hck, hf]
            · refine ⟨_, ?_, hr⟩
              simp only [execOp, hv, Instr.lookup, Sem.run_bind, run_und hd, Result.andThen_ok, Sem.run_pure, hg, hck, hf, hz]
        · cases hx
      · cases hx
    · cases hx
  case call c =>
    split at hx
    · rename_i t x hc ht hxs
      have hv := evals_vr hρ hxs
      obtain ⟨v, vs, e, h1, h2⟩ := hv.cons_inv
      obtain rfl := h2.nil_inv
      obtain ⟨consts, hrun⟩ := callee_builtin (P := P) (ρ' := ρ') hc type w
      have hta : c.argTypes = #[t] := arr_of_list ht
      split at hx
      · rename_i kt et hd
        obtain ⟨es, hm, rfl⟩ := Option.map_eq_some_iff.1 hx
        refine ⟨.int .i64 es.length, ?_, .int _ _⟩
        simp only [execOp]
        rw [hrun, args_one e, hta]
        rcases map_sound h hm h1 with ⟨rfl, rfl⟩ | ⟨b, ES, clk, rfl, hheap, hlen, hrel⟩
        · simp [builtin, Builtin.len_, run_und hd, goInt]
        · have hg := MapKept.run_getObj_map (P := P) hheap
          simp [builtin, Builtin.len_, run_und hd, goInt]
          rw [hg]
          simp [hlen]
      · cases hx
    · cases hx
end
end Go.LZ
end
section
/- The evaluator's soundness, part 11: how cells are made and written. -/
namespace Go.LZ
open Go Go.MapKept
set_option linter.unusedSimpArgs false
section
variable {P : Program} {μ : Mu} {ρ : Operand → Option LV} {ρ' : Operand → Value} {B : Nat} {G : World → Prop} {σ : H} {w : World}

/-- What an operation hands on. -/
def NextR (μ : Mu) : Option LV → Next → Prop
  | none, .skip => True
  | some x, .value v => VR μ x v
  | _, _ => False
/-- A new row, of these cells and others behind. -/
theorem newRow_sound (hG : GOK B G) (h : HR B G μ σ w) {e r : Nat} {cs : List LV} {σ' : H} (hu : σ.new (.row e false cs) = some (r, σ')) {vs : List Value} (hv : VRs μ cs vs) (ho : ∀ x ∈ cs, x.one = true) {C : Array Value} {rest : List Value} (hC : C.toList = vs ++ rest) :
    ∃ μ', μ' r = some ⟨w.heap.size, 0, C.size⟩ ∧ HR B G μ' σ' (w.alloc (.cells C e)) ∧ St μ σ w μ' σ' (w.alloc (.cells C e)) := by
  refine h.new hG hu rfl rfl rfl (by show w.heap.size ≤ (w.heap.push _).size; simp) (fun b hb => (heap_alloc w _).2 b hb) (Nat.le_refl _) fun μ' hle _ => ?_
  refine ⟨C, (0, 0), (heap_alloc w _).1, rfl, ⟨?_, fun i x v hx hc => ?_⟩, fun _ => .inl rfl, ho⟩
  · have := congrArg List.length hC
    have := hv.1
    simp at *
    omega
  · refine (hv.2 i x v hx ?_).mono hle
    have hlt : i < vs.length := by rw [hv.1]; exact (List.getElem?_eq_some_iff.1 hx).1
    simp only [Nat.zero_add] at hc
    rw [← Array.getElem?_toList, hC, List.getElem?_append_left hlt] at hc
    exact hc
def withCells (w : World) (g : Nat) (C : List Value) (e : Nat) (fr : Nat × Nat) : World := { w with heap := w.heap.setIfInBounds g (.cells C.toArray e fr) }
theorem run_storeSeg (g o e : Nat) (fr : Nat × Nat) : ∀ (vs : List Value) (i : Nat) (cur : Array Value) (w : World), w.heap[g]? = some (.cells cur e fr) → (∀ j, j < cur.size → ¬ (fr.1 ≤ j ∧ j < fr.2)) → o + i + vs.length ≤ cur.size → (∀ v ∈ vs, v.oneCell' = true) →
    (storeCells ⟨g, o, none⟩ vs i).run P w = .ok () (withCells w g (cur.toList.take (o + i) ++ vs ++ cur.toList.drop (o + i + vs.length)) e fr) := by
  intro vs
  induction vs with
  | nil =>
    intro i cur w hg hfr hl h1
    simp only [storeCells, Sem.run_pure, List.append_nil, List.length_nil, Nat.add_zero, List.take_append_drop, withCells, Array.toArray_toList]
    congr 1
    obtain ⟨hlt, he⟩ := Array.getElem?_eq_some_iff.1 hg
    have : w.heap.setIfInBounds g (.cells cur e fr) = w.heap := by
      apply Array.ext_getElem?
      intro j
      by_cases hj : g = j
      · subst hj; rw [Array.getElem?_setIfInBounds_self_of_lt hlt]; exact hg.symm
      · rw [Array.getElem?_setIfInBounds_ne hj]
    rw [this]
  | cons v vs ih =>
    intro i cur w hg hfr hl h1
    simp only [List.length_cons] at hl
    have hlt : o + i < cur.size := by omega
    have hglt : g < w.heap.size := (Array.getElem?_eq_some_iff.1 hg).1
    have hcell : w.cell? ⟨g, o + i, none⟩ = some cur[o + i] := by simp [World.cell?, hg, hlt]
    have hnf : w.frozen? ⟨g, o + i, none⟩ = false := by
      have := hfr (o + i) hlt
      simp only [World.frozen?, hg]
      obtain ⟨lo, hi⟩ := fr
      simp only at this ⊢
      rw [Bool.and_eq_false_iff]
      simp only [decide_eq_false_iff_not]
      omega
    have hset : w.setCell ⟨g, o + i, none⟩ v = { w with heap := w.heap.setIfInBounds g (.cells (cur.setIfInBounds (o + i) v) e fr) } := by
      simp only [World.setCell]
      congr 1
      apply Array.ext_getElem?
      intro j
      rw [Array.getElem?_modify]
      by_cases hj : g = j
      · subst hj; rw [Array.getElem?_setIfInBounds_self_of_lt hglt, if_pos rfl, hg]; rfl
      · rw [Array.getElem?_setIfInBounds_ne hj, if_neg hj]
    simp only [storeCells, Sem.run_bind, addr_add]
    rw [run_store P w _ v _ (h1 v (List.mem_cons_self ..)), hcell]
    simp only [hnf, Bool.false_eq_true, if_false, Result.andThen_ok, hset]
    rw [ih (i + 1) (cur.setIfInBounds (o + i) v) _ (by simp [hglt]) (by simpa using hfr) (by simp; omega) (fun u hu => h1 u (List.mem_cons_of_mem _ hu))]
    simp only [withCells, Array.setIfInBounds_setIfInBounds]
    congr 4
    have hlt' : o + i < cur.toList.length := by simpa using hlt
    simp only [Array.toList_setIfInBounds, List.length_cons]
    have e1 : (cur.toList.set (o + i) v).take (o + (i + 1)) = cur.toList.take (o + i) ++ [v] := by
      rw [← Nat.add_assoc, List.take_set, List.take_succ_eq_append_getElem hlt', List.set_append_right _ _ (by simp; omega)]
      have hm : o + i - (List.take (o + i) cur.toList).length = 0 := by simp; omega
      rw [hm]
      rfl
    have e2 : (cur.toList.set (o + i) v).drop (o + (i + 1) + vs.length) = cur.toList.drop (o + i + (vs.length + 1)) := by
      rw [List.drop_set_of_lt (by omega)]
      congr 1
      omega
    rw [e1, e2]
    simp
theorem heap_with {w : World} {g e : Nat} {fr : Nat × Nat} {C : List Value} (hg : g < w.heap.size) : (withCells w g C e fr).heap[g]? = some (.cells C.toArray e fr) ∧ (∀ b, b ≠ g → (withCells w g C e fr).heap[b]? = w.heap[b]?) ∧ (withCells w g C e fr).heap.size = w.heap.size := by
  refine ⟨by simp [withCells, hg], fun b hb => ?_, by simp [withCells]⟩
  simp only [withCells]
  rw [Array.getElem?_setIfInBounds_ne (fun q => hb q.symm)]
theorem seg_index (A vs D : List Value) (n : Nat) (hA : A.length = n) (i : Nat) : (A ++ vs ++ D)[i]? = if i < n then A[i]? else if i < n + vs.length then vs[i - n]? else D[i - n - vs.length]? := by
  subst hA
  rw [List.append_assoc]
  split
  · rename_i h; rw [List.getElem?_append_left h]
  · rename_i h
    rw [List.getElem?_append_right (by omega)]
    split
    · rename_i h2; rw [List.getElem?_append_left (by omega)]
    · rename_i h2; rw [List.getElem?_append_right (by omega)]
/-- Cells of a row are written. -/
theorem write_sound (hG : GOK B G) (h : HR B G μ σ w) {r off : Nat} {new : List LV} {σ' : H} (hw : writeRow σ r off new = some σ') {loc : Loc} (hl : μ r = some loc) {vs : List Value} (hv : VRs μ new vs) (ho : ∀ x ∈ new, x.one = true) :
    ∃ w', (storeCells ⟨loc.b, loc.base + off, none⟩ vs).run P w = .ok () w' ∧ HR B G μ σ' w' ∧ St μ σ w μ σ' w' := by
  unfold writeRow at hw
  split at hw
  · rename_i e cs hr
    split at hw
    · rename_i cs' hput
      obtain ⟨hle, rfl⟩ := putAt_some hput
      obtain ⟨loc', C, fr, h1, h2, h3, h4, h5, h6⟩ := h.row hr
      rw [hl] at h1
      obtain rfl := Option.some.inj h1
      have h7 := h4.1
      have hlen := hv.1
      have hone : ∀ v ∈ vs, v.oneCell' = true := fun v hm => by
        obtain ⟨i, hi⟩ := List.getElem?_of_mem hm
        have hlt : i < new.length := by rw [← hlen]; exact (List.getElem?_eq_some_iff.1 hi).1
        exact vr_one (hv.2 i new[i] v (List.getElem?_eq_getElem hlt) hi) (ho _ (List.getElem_mem hlt))
      have hrun := run_storeSeg (P := P) loc.b (loc.base + off) e fr vs 0 C w h2 (h5 rfl).no (by omega) hone
      have hg := (Array.getElem?_eq_some_iff.1 h2).1
      obtain ⟨k1, k2, k3⟩ := heap_with (w := w) (g := loc.b) (e := e) (fr := fr) (C := C.toList.take (loc.base + off + 0) ++ vs ++ C.toList.drop (loc.base + off + 0 + vs.length)) hg
      refine ⟨_, hrun, h.upd hG hr hl rfl hw rfl rfl rfl k3 k2 ⟨_, fr, k1, ?_, ⟨?_, fun i x v hx hc => ?_⟩, fun hf => (h5 rfl).eq ?_, fun x hx => ?_⟩⟩
      · simp; omega
      · simp; omega
      · simp only [List.getElem?_toArray] at hc
        rw [seg_index _ _ _ (loc.base + off) (by simp; omega)] at hc
        rw [← List.append_assoc] at hx
        have hx' : (List.take off cs ++ new ++ List.drop (off + new.length) cs)[i]? = if i < off then (List.take off cs)[i]? else if i < off + new.length then new[i - off]? else (List.drop (off + new.length) cs)[i - off - new.length]? := by
          rw [List.append_assoc]
          split
          · rename_i h; rw [List.getElem?_append_left (by simp; omega)]
          · rename_i h
            rw [List.getElem?_append_right (by simp; omega)]
            have : i - (List.take off cs).length = i - off := by simp; omega
            rw [this]
            split
            · rename_i h2; rw [List.getElem?_append_left (by omega)]
            · rename_i h2; rw [List.getElem?_append_right (by omega)]
        rw [hx'] at hx
        by_cases c1 : i < off
        · rw [if_pos c1, List.getElem?_take, if_pos c1] at hx
          rw [if_pos (by omega), List.getElem?_take, if_pos (by omega)] at hc
          exact h4.2 i x v hx (by simpa using hc)
        · rw [if_neg c1] at hx
          rw [if_neg (by omega)] at hc
          by_cases c2 : i < off + new.length
          · rw [if_pos c2] at hx
            rw [if_pos (by omega), show loc.base + i - (loc.base + off) = i - off by omega] at hc
            exact hv.2 _ x v hx hc
          · rw [if_neg c2, List.getElem?_drop] at hx
            rw [if_neg (by omega), List.getElem?_drop] at hc
            refine h4.2 i x v ?_ ?_
            · rw [← hx]; congr 1; omega
            · rw [← Array.getElem?_toList, ← hc]; congr 1; omega
      · simp; omega
      · simp only [List.mem_append] at hx
        rcases hx with hx | hx | hx
        · exact h6 x (List.mem_of_mem_take hx)
        · exact ho x hx
        · exact h6 x (List.mem_of_mem_drop hx)
    · cases hw
  · cases hw
theorem write_nil {r off : Nat} {σ' : H} (hG : GOK B G) (h : HR B G μ σ w) (hw : writeRow σ r off [] = some σ') : HR B G μ σ' w ∧ St μ σ w μ σ' w := by
  have hw' := hw
  unfold writeRow at hw'
  split at hw'
  · rename_i e cs hr
    obtain ⟨loc, C, fr, h1, _⟩ := h.row hr
    obtain ⟨w', hrun, a, b⟩ := write_sound (P := default) hG h hw h1 (.nil _) (fun x hx => by simp at hx)
    simp only [storeCells, Sem.run_pure, Result.ok.injEq] at hrun
    obtain ⟨_, rfl⟩ := hrun
    exact ⟨a, b⟩
  · cases hw'
theorem rep_at (z : List LV) (n : Nat) : (repCells z n).length = n * z.length ∧ ∀ i, i < n * z.length → (repCells z n)[i]? = z[i % z.length]? := by
  induction n with
  | zero => simp [repCells]
  | succ n ih =>
    refine ⟨by simp [repCells, ih.1, Nat.succ_mul, Nat.add_comm], fun i hi => ?_⟩
    simp only [repCells]
    rw [Nat.succ_mul] at hi
    by_cases c : i < z.length
    · rw [List.getElem?_append_left c, Nat.mod_eq_of_lt c]
    · rw [List.getElem?_append_right (by omega), ih.2 _ (by omega), Nat.mod_eq_sub_mod (a := i) (by omega)]
theorem zeros_vr {z : List LV} {zv : Array Value} (h : VRs μ z zv.toList) (n m : Nat) (hm : m = n * zv.size) (hpos : 0 < zv.size ∨ n = 0) : VRs μ (repCells z n) ((Array.range m).map (fun i => zv[i % zv.size]!)).toList := by
  subst hm
  have hl : zv.size = z.length := by have := h.1; simpa using this
  obtain ⟨r1, r2⟩ := rep_at z n
  refine ⟨by simp [r1, hl], fun i x v hx hv => ?_⟩
  have hi : i < n * z.length := by rw [← r1]; exact (List.getElem?_eq_some_iff.1 hx).1
  rw [r2 i hi] at hx
  refine h.2 _ x v hx ?_
  have hz : 0 < z.length := by
    rcases hpos with hp | rfl
    · omega
    · simp at hi
  have hmod : i % zv.size < zv.size := by rw [hl]; exact Nat.mod_lt _ hz
  simp only [Array.toList_map, List.getElem?_map, Array.toList_range] at hv
  rw [List.getElem?_range (by rw [hl]; exact hi)] at hv
  simp only [Option.map_some, Option.some.injEq] at hv
  rw [← hv, ← hl]
  rw [getElem!_pos zv _ hmod]
  simp [hmod]
theorem rep_one {z : List LV} (h : ∀ y ∈ z, y.one = true) (n : Nat) : ∀ y ∈ repCells z n, y.one = true := by
  induction n with
  | zero => intro y hy; simp [repCells] at hy
  | succ n ih =>
    intro y hy
    simp only [repCells, List.mem_append] at hy
    rcases hy with hy | hy
    · exact h y hy
    · exact ih y hy
theorem allOne_of {cs : List LV} (h : allOne cs = true) : ∀ y ∈ cs, y.one = true := by
  simpa [allOne] using h
end
end Go.LZ
end
section
/- The evaluator's soundness, part 12: what append, copy and clear do. -/
namespace Go.LZ
open Go Go.MapKept
set_option linter.unusedSimpArgs false
section
variable {P : Program} {μ : Mu} {ρ : Operand → Option LV} {ρ' : Operand → Value} {B : Nat} {G : World → Prop} {σ : H} {w : World}

theorem andThen_of {α β : Type} {r : Result α} {a : α} {w' : World} {f : α → World → Result β} {x : Result β} (h : r = .ok a w') (k : f a w' = x) : r.andThen f = x := by
  rw [h]; exact k
theorem bytes_vr (μ : Mu) (s : List UInt8) : VRs μ (cellsOfBytes s) (s.map fun b => Value.int .u8 b.toNat) := by
  refine ⟨by simp [cellsOfBytes], fun i x v hx hv => ?_⟩
  simp only [cellsOfBytes, List.getElem?_map] at hx hv
  cases h : s[i]? with
  | none => simp [h] at hx
  | some b =>
    simp only [h, Option.map_some, Option.some.injEq] at hx hv
    rw [← hx, ← hv]; exact .int _ _
theorem bytes_one (s : List UInt8) : ∀ y ∈ cellsOfBytes s, y.one = true := by
  intro y hy
  simp only [cellsOfBytes, List.mem_map] at hy
  obtain ⟨b, _, rfl⟩ := hy
  rfl
/-- What is appended or copied. -/
theorem src_sound (h : HR B G μ σ w) {sz : Nat} {x : LV} {new : List LV} (hs : srcCells σ sz x = some new) {v : Value} (hv : VR μ x v) :
    new.length = lenL x * sz ∧ (∀ y ∈ new, y.one = true) ∧ (∀ w, (Builtin.lenOf v).run P w = .ok (lenL x) w) ∧ ∀ w, HR B G μ σ w → ∀ n, n ≤ lenL x → ∃ vs : List Value, (Builtin.firstCells sz n v).run P w = .ok vs.toArray w ∧ VRs μ (new.take (n * sz)) vs := by
  unfold srcCells at hs
  split at hs
  · obtain rfl := Option.some.inj hs
    cases hv
    exact ⟨by simp [lenL], fun y hy => by simp at hy, fun w => rfl, fun w _ n _ => ⟨[], rfl, by simpa using VRs.nil μ⟩⟩
  · rename_i r off z n k
    split at hs
    · rename_i hz
      subst hz
      have hs' := hs
      unfold readRow at hs'
      split at hs'
      · rename_i e ro cs hr
        obtain ⟨hle, rfl⟩ := takeAt_some hs'
        have hlen : (List.take (n * z) (List.drop off cs)).length = n * z := by simp; omega
        cases hv with
        | sliceE p a =>
          refine ⟨by simp [lenL], fun y hy => by simp at hy, fun w => rfl, fun w h n hn => ?_⟩
          obtain rfl : n = 0 := by simpa [lenL] using hn
          exact ⟨[], by simp only [Builtin.firstCells, Nat.zero_mul]; rfl, by simpa using VRs.nil μ⟩
        | slice hloc hk hc hs2 =>
          rename_i c loc
          refine ⟨by rw [hlen]; rfl, ?_, fun w => rfl, fun w h m hm => ?_⟩
          · obtain ⟨_, _, _, _, _, _, _, _, h6⟩ := h.row hr
            exact fun y hy => h6 y (List.mem_of_mem_drop (List.mem_of_mem_take hy))
          · have hm' : m * z ≤ n * z := Nat.mul_le_mul_right _ hm
            have hrd : readRow σ r off (m * z) = some (List.take (m * z) (List.drop off cs)) := by
              simp only [readRow, hr, takeAt]; rw [if_pos (by omega)]
            obtain ⟨vs, hrun, hvs, _, _⟩ := read_sound (P := P) h hrd hloc
            refine ⟨vs, hrun, ?_⟩
            rw [List.take_take, Nat.min_eq_left hm']
            exact hvs
      · cases hs'
    · cases hs
  · rename_i s
    split at hs
    · rename_i hz
      subst hz
      obtain rfl := Option.some.inj hs
      cases hv
      refine ⟨by simp [cellsOfBytes, lenL], bytes_one s, fun w => by simp [Builtin.lenOf, lenL, size_mk], fun w h n hn => ⟨(s.take n).map fun b => Value.int .u8 b.toNat, ?_, ?_⟩⟩
      · simp only [Builtin.firstCells, Sem.run_pure]
        congr 1
        apply Array.toList_inj.1
        have := extract_mk s 0 n
        rw [this]
        simp
      · have := (bytes_vr μ s).take n
        rw [Nat.mul_one, List.map_take]
        exact this
    · cases hs
  · cases hs
theorem next_cap {need c bytes : Nat} (h1 : need * (bytes + 1) ≤ most) (h2 : c < need) : Builtin.nextslicecap need c * bytes ≤ 2 ^ 48 := by
  have hg : ∀ rounds x, x ≤ 2 * need → 256 ≤ need → Builtin.growBy need rounds x ≤ 2 * need := by
    intro rounds
    induction rounds with
    | zero => intro x hx _; exact hx
    | succ k ih =>
      intro x hx hn
      simp only [Builtin.growBy]
      split
      · exact hx
      · exact ih _ (by omega) hn
  have hn : Builtin.nextslicecap need c ≤ 2 * need := by
    unfold Builtin.nextslicecap
    split
    · omega
    · split
      · omega
      · exact hg 4 c (by omega) (by omega)
  have h3 : Builtin.nextslicecap need c * bytes ≤ 2 * need * bytes := Nat.mul_le_mul_right _ hn
  have h4 : need * (bytes + 1) = need * bytes + need := by rw [Nat.mul_add, Nat.mul_one]
  have h5 : 2 * need * bytes = 2 * (need * bytes) := by rw [Nat.mul_assoc]
  simp only [most] at h1
  have : (2 : Nat) ^ 48 = 281474976710656 := by decide
  omega
end
end Go.LZ
end
section
/- The evaluator's soundness, part 13: append. -/
namespace Go.LZ
open Go Go.MapKept
set_option linter.unusedSimpArgs false
section
variable {P : Program} {μ : Mu} {ρ : Operand → Option LV} {ρ' : Operand → Value} {B : Nat} {G : World → Prop} {σ : H} {w : World}

/-- The row's known cells go on behind their end, at the same place. -/
theorem grow_sound (hG : GOK B G) (h : HR B G μ σ w) {r off n e : Nat} {cs old new : List LV} {σ1 σ2 : H} {r' : Nat} {loc : Loc} (hr : σ.m.get r = some (.row e false cs)) (hl : μ r = some loc) (ho : takeAt cs off n = some old)
    (hk : σ.kill r = some σ1) (hn : σ1.new (.row e false (old ++ new)) = some (r', σ2)) {vs : List Value} (hv : VRs μ new vs) (h1 : ∀ x ∈ new, x.one = true) (hroom : loc.base + off + n + vs.length ≤ loc.size) :
    ∃ w' μ', (storeCells ⟨loc.b, loc.base + off + n, none⟩ vs).run P w = .ok () w' ∧ μ' r' = some ⟨loc.b, loc.base + off, loc.size⟩ ∧ HR B G μ' σ2 w' ∧ St μ σ w μ' σ2 w' := by
  obtain ⟨hle, rfl⟩ := takeAt_some ho
  obtain ⟨loc', C, fr, h2, h3, h4, h5, h6, h7⟩ := h.row hr
  rw [hl] at h2
  obtain rfl := Option.some.inj h2
  have h8 := h5.1
  have hlen := hv.1
  have hone : ∀ v ∈ vs, v.oneCell' = true := fun v hm => by
    obtain ⟨i, hi⟩ := List.getElem?_of_mem hm
    have hlt : i < new.length := by rw [← hlen]; exact (List.getElem?_eq_some_iff.1 hi).1
    exact vr_one (hv.2 i new[i] v (List.getElem?_eq_getElem hlt) hi) (h1 _ (List.getElem_mem hlt))
  have hrun := run_storeSeg (P := P) loc.b (loc.base + off + n) e fr vs 0 C w h3 (h6 rfl).no (by omega) hone
  have hg := (Array.getElem?_eq_some_iff.1 h3).1
  obtain ⟨k1, k2, k3⟩ := heap_with (w := w) (g := loc.b) (e := e) (fr := fr) (C := C.toList.take (loc.base + off + n + 0) ++ vs ++ C.toList.drop (loc.base + off + n + 0 + vs.length)) hg
  obtain ⟨hH, hS, q1, q2, q3⟩ := h.kill hk
  have hBl : B ≤ loc.b := by
    obtain ⟨loc', hl', _, hB⟩ := h.obj r _ hr
    rw [hl] at hl'
    obtain rfl := Option.some.inj hl'
    exact hB rfl
  obtain ⟨μ', a1, a2, a3, a4⟩ := hH.add (w' := withCells w loc.b (C.toList.take (loc.base + off + n + 0) ++ vs ++ C.toList.drop (loc.base + off + n + 0 + vs.length)) e fr) (loc := ⟨loc.b, loc.base + off, loc.size⟩) hG hn hBl (by omega) (fun b _ hb => k2 b hb)
    (fun r2 q loc2 b1 b2 => by
      have hne : r2 ≠ r := fun e => by subst e; rw [q1] at b1; cases b1
      rw [q3 r2 hne] at b1
      exact h.inj r2 r q _ loc2 loc b1 hr b2 hl hne (.inr rfl))
    (fun μ' hle' _ => by
      refine ⟨_, fr, k1, ?_, ⟨?_, fun i x v hx hc => ?_⟩, fun _ => (h6 rfl).eq ?_, fun x hx => ?_⟩
      · simp; omega
      · simp; omega
      · simp only [List.getElem?_toArray] at hc
        rw [seg_index _ _ _ (loc.base + off + n) (by simp; omega)] at hc
        have hold : (List.take n (List.drop off cs)).length = n := by simp; omega
        by_cases c1 : i < n
        · rw [List.getElem?_append_left (by omega), List.getElem?_take, if_pos c1, List.getElem?_drop] at hx
          rw [if_pos (by omega), List.getElem?_take, if_pos (by omega)] at hc
          exact (h5.2 _ x v hx (by rw [← Nat.add_assoc]; simpa using hc)).mono hle'
        · rw [List.getElem?_append_right (by omega), hold] at hx
          have hlt := (List.getElem?_eq_some_iff.1 hx).1
          rw [if_neg (by omega), if_pos (by omega), show loc.base + off + i - (loc.base + off + n) = i - n by omega] at hc
          exact (hv.2 _ x v hx hc).mono hle'
      · simp; omega
      · simp only [List.mem_append] at hx
        rcases hx with hx | hx
        · exact h7 x (List.mem_of_mem_drop (List.mem_of_mem_take hx))
        · exact h1 x hx)
  refine ⟨_, μ', hrun, a2, a3, a1, rfl, rfl, rfl, by omega, fun b hb hf => k2 b fun e => hf ⟨r, _, loc, hr, rfl, hl, e.symm⟩, fun b hf => ?_⟩
  rcases a4 b hf with h9 | h9
  · exact (hS.own b h9)
  · exact .inl ⟨r, _, loc, hr, rfl, hl, h9.symm⟩
theorem zeros_size (zv : Array Value) (n : Nat) : (Builtin.zeroCells zv n).toList.length = n * zv.size := by simp [Builtin.zeroCells]
/-- The cells that are appended, as the machine has them. -/
def NewV (P : Program) (ud : TypeDesc) (i : TypeInfo) (zv xv : Value) (m : Nat) (vs : List Value) (w : World) : Prop :=
  (∃ k k' n, ud = .int k' ∧ xv = .int k n ∧ 0 ≤ n ∧ n ≤ 1048576 ∧ i.bytes ≤ 65536 ∧ m = n.toNat ∧ vs = (Builtin.zeroCells zv.cells m).toList) ∨
  ((∀ k, ud ≠ .int k) ∧ (∀ w, (Builtin.lenOf xv).run P w = .ok m w) ∧ (Builtin.firstCells i.size m xv).run P w = .ok vs.toArray w)
theorem mul_small {n : Int} {b : Nat} (h1 : n ≤ 1048576) (h2 : b ≤ 65536) : ¬ n * (b : Int) > 2 ^ 48 := by
  have : n * (b : Int) ≤ 1048576 * (b : Int) := Int.mul_le_mul_of_nonneg_right h1 (by omega)
  have h3 : (2 : Int) ^ 48 = 281474976710656 := by decide
  omega
theorem append_in {t u e m n c : Nat} {ud : TypeDesc} {i : TypeInfo} {zv xv : Value} {vs : List Value}
    (hd : P.underlying t = some (.slice e)) (hu : P.underlying u = some ud) (hi : P.info? e = some i) (hz : ∀ w, (zeroValue e).run P w = .ok zv w) (hpos : 0 < i.size)
    (hn : NewV P ud i zv xv m vs w) {base : Option Addr} (hle : n + m ≤ c) {w' : World} (hst : ∀ a, base = some a → (storeCells (a.add (n * i.size)) vs).run P w = .ok () w') (hst0 : base = none → w' = w) (type : TypeId) :
    (Builtin.append_ #[t, u] type #[.slice base n c, xv]).run P w = .ok (.slice base (n + m) c) w' := by
  have hsz : ∀ w, (sizeOf e).run P w = .ok i.size w := fun w => by simp [sizeOf, run_info hi]
  unfold Builtin.append_
  rcases hn with ⟨k, k', j, rfl, rfl, h0, h1, h2, rfl, rfl⟩ | ⟨hud, hlen, hfirst⟩
  · have hw : IntKind.i64.wrap j = j := IntWalk.i64_in j (by omega)
    simp only [List.size_toArray, List.length_cons, List.length_nil, List.getElem?_toArray, List.getElem?_cons_zero, List.getElem?_cons_succ, Sem.run_bind, run_und hd, run_und hu, hsz, Result.andThen_ok, Sem.run_pure, if_true, asInt, asIntOf, hw, if_neg (show ¬ j < 0 by omega), run_info hi, if_neg (mul_small h1 h2), if_pos hle, Bool.not_true, Bool.false_eq_true, if_false]
    refine andThen_of (a := Builtin.zeroCells zv.cells j.toNat) (w' := w) ?_ ?_
    · split
      · rename_i h0'
        have : j.toNat = 0 := by
          rcases Nat.mul_eq_zero.1 h0' with h | h
          · exact h
          · omega
        simp [this, Builtin.zeroCells]
      · simp [hz]
    · cases base with
      | none => rw [hst0 rfl]; rfl
      | some a => simp only [Sem.run_bind, hst a rfl, Result.andThen_ok, Sem.run_pure]
  · have hzb : (match ud with | .int _ => true | _ => false) = false := by cases ud <;> first | rfl | exact absurd rfl (hud _)
    simp only [List.size_toArray, List.length_cons, List.length_nil, List.getElem?_toArray, List.getElem?_cons_zero, List.getElem?_cons_succ, Sem.run_bind, run_und hd, run_und hu, hsz, Result.andThen_ok, Sem.run_pure, hzb, Bool.false_eq_true, if_false, hlen, if_pos hle, Bool.not_false, if_true, hfirst]
    cases base with
    | none => rw [hst0 rfl]; rfl
    | some a => simp only [Sem.run_bind, hst a rfl, Result.andThen_ok, Sem.run_pure]
theorem append_out {t u e m n c : Nat} {ud : TypeDesc} {i : TypeInfo} {zv xv : Value} {vs : List Value}
    (hd : P.underlying t = some (.slice e)) (hu : P.underlying u = some ud) (hi : P.info? e = some i) (hz : ∀ w, (zeroValue e).run P w = .ok zv w) (hpos : 0 < i.size)
    (hn : NewV P ud i zv xv m vs w.drew) {base : Option Addr} (hle : c < n + m) (hm : (n + m) * (i.bytes + 1) ≤ most) {old : List Value} (hold : (Builtin.firstCells i.size n (.slice base n c)).run P w.drew = .ok old.toArray w.drew) (type : TypeId) :
    ∃ cap, n + m ≤ cap ∧ (Builtin.append_ #[t, u] type #[.slice base n c, xv]).run P w = .ok (.slice (some ⟨w.heap.size, 0, none⟩) (n + m) cap) (w.drew.alloc (.cells (old.toArray ++ vs.toArray ++ Builtin.zeroCells zv.cells (cap - (n + m))) e)) := by
  have hsz : ∀ w, (sizeOf e).run P w = .ok i.size w := fun w => by simp [sizeOf, run_info hi]
  have hmax : ¬ (((n + m : Nat) : Int) > IntKind.i64.max) := by
    simp only [IntKind.max_i64]
    have : (n + m) * 1 ≤ (n + m) * (i.bytes + 1) := Nat.mul_le_mul_left _ (by omega)
    simp only [most] at hm
    omega
  have hcap := next_cap hm hle
  refine ⟨(Question.appendCap (n + m) c e).cut (w.tape w.drawn (.appendCap (n + m) c e)), by simp [Question.cut], ?_⟩
  unfold Builtin.append_
  rcases hn with ⟨k, k', j, rfl, rfl, h0, h1, h2, rfl, rfl⟩ | ⟨hud, hlen, hfirst⟩
  · have hw : IntKind.i64.wrap j = j := IntWalk.i64_in j (by omega)
    simp only [List.size_toArray, List.length_cons, List.length_nil, List.getElem?_toArray, List.getElem?_cons_zero, List.getElem?_cons_succ, Sem.run_bind, run_und hd, run_und hu, hsz, Result.andThen_ok, Sem.run_pure, if_true, asInt, asIntOf, hw, if_neg (show ¬ j < 0 by omega), run_info hi, if_neg (mul_small h1 h2), if_neg (show ¬ n + j.toNat ≤ c by omega), Bool.not_true, Bool.false_eq_true, if_false,
      hmax, false_and, if_neg (show ¬ Builtin.nextslicecap (n + j.toNat) c * i.bytes > 2 ^ 48 by omega), run_choose_drew, Question.forced, run_askRoom, hold]
    refine andThen_of (a := Builtin.zeroCells zv.cells j.toNat) (w' := w.drew) ?_ ?_
    · split
      · rename_i h0'
        have : j.toNat = 0 := by
          rcases Nat.mul_eq_zero.1 h0' with h | h
          · exact h
          · omega
        simp [this, Builtin.zeroCells]
      · simp [hz]
    · simp only [hz, Result.andThen_ok, newRow, Sem.run_bind, run_newObj_alloc, Sem.run_pure, Array.toArray_toList]
      rfl
  · have hzb : (match ud with | .int _ => true | _ => false) = false := by cases ud <;> first | rfl | exact absurd rfl (hud _)
    simp only [List.size_toArray, List.length_cons, List.length_nil, List.getElem?_toArray, List.getElem?_cons_zero, List.getElem?_cons_succ, Sem.run_bind, run_und hd, run_und hu, hsz, Result.andThen_ok, Sem.run_pure, hzb, Bool.false_eq_true, if_false, hlen, if_neg (show ¬ n + m ≤ c by omega), Bool.not_false, if_true, run_info hi,
      hmax, false_and, if_neg (show ¬ Builtin.nextslicecap (n + m) c * i.bytes > 2 ^ 48 by omega), run_choose_drew, Question.forced, run_askRoom, hold, hfirst, hz, newRow, run_newObj_alloc]
    rfl
end
end Go.LZ
end
section
/- The evaluator's soundness, part 14: append, copy, clear, whole. -/
namespace Go.LZ
open Go Go.MapKept
set_option linter.unusedSimpArgs false
section
variable {P : Program} {μ : Mu} {ρ : Operand → Option LV} {ρ' : Operand → Value} {B : Nat} {G : World → Prop} {σ : H} {w : World}

theorem append_sound (hG : GOK B G) (h : HR B G μ σ w) {t u e m : Nat} {ud : TypeDesc} {i : TypeInfo} {z base x r : LV} {new : List LV} {σ' : H}
    (hd : P.underlying t = some (.slice e)) (hu : P.underlying u = some ud) (hi : P.info? e = some i) (hz : zeroT P e = some z) (hpos : 0 < i.size) (hzl : z.cells.length = i.size)
    (hap : appendL i.size i.bytes e σ base new m = some (r, σ'))
    (hnew : (∃ k k' n, ud = .int k' ∧ x = .int k n ∧ 0 ≤ n ∧ n ≤ 1048576 ∧ i.bytes ≤ 65536 ∧ new = repCells z.cells n.toNat ∧ m = n.toNat) ∨ ((∀ k, ud ≠ .int k) ∧ srcCells σ i.size x = some new ∧ m = lenL x))
    {bv xv : Value} (hb : VR μ base bv) (hx : VR μ x xv) (type : TypeId) :
    ∃ v w' μ', (Builtin.append_ #[t, u] type #[bv, xv]).run P w = .ok v w' ∧ VR μ' r v ∧ HR B G μ' σ' w' ∧ St μ σ w μ' σ' w' := by
  obtain ⟨zv, hzr, hzv, hzo, hzb⟩ := run_zero (P := P) (μ := μ) hz w
  have hzs : zv.cells.size = i.size := by have := (vr_cells hzv).1; simp at this; omega
  have hzr' : ∀ w, (zeroValue e).run P w = .ok zv w := fun w => by
    obtain ⟨i', hi', hz'⟩ := Option.bind_eq_some_iff.1 hzb
    simp [zeroValue, run_info hi', hz']
  -- the cells that come
  obtain ⟨hcells, hone, hnl⟩ : (∀ w, HR B G μ σ w → ∃ vs : List Value, NewV P ud i zv xv m vs w ∧ VRs μ new vs) ∧ (∀ y ∈ new, y.one = true) ∧ new.length = m * i.size := by
    rcases hnew with ⟨k, k', n, rfl, rfl, h0, h1, h2, rfl, rfl⟩ | ⟨hud, hs, rfl⟩
    · cases hx
      exact ⟨fun w _ => ⟨_, .inl ⟨k, k', n, rfl, rfl, h0, h1, h2, rfl, rfl⟩, zeros_vr (vr_cells hzv) n.toNat _ rfl (.inl (by omega))⟩, rep_one hzo _, by rw [(rep_at _ _).1, hzl]⟩
    · obtain ⟨a1, a2, a3, a4⟩ := src_sound (P := P) (G := G) (B := B) h hs hx
      refine ⟨fun w hw => ?_, a2, a1⟩
      obtain ⟨vs, hvs, hr⟩ := a4 w hw (lenL x) (Nat.le_refl _)
      exact ⟨vs, .inr ⟨hud, a3, hvs⟩, by rwa [List.take_of_length_le (by omega)] at hr⟩
  unfold appendL at hap
  split at hap
  · rename_i p n k
    split at hap
    · rename_i hnk
      obtain ⟨vs, hnv, hvs⟩ := hcells w h
      split at hap
      · obtain ⟨rfl, rfl⟩ := Prod.mk.inj (Option.some.inj hap)
        cases hb
        obtain rfl : m = 0 := by omega
        exact ⟨_, w, μ, append_in hd hu hi hzr' hpos hnv (base := none) (n := 0) (c := 0) (by omega) (fun a ha => by cases ha) (fun _ => rfl) type, .slice0, h, .refl _ _ _⟩
      · rename_i r0 off z0
        split at hap
        · rename_i hz0
          subst hz0
          obtain ⟨σ2, hw, he⟩ := Option.map_eq_some_iff.1 hap
          obtain ⟨rfl, rfl⟩ := Prod.mk.inj he
          cases hb with
          | sliceE p a =>
            obtain rfl : m = 0 := by omega
            obtain rfl : new = [] := List.eq_nil_of_length_eq_zero (by omega)
            obtain rfl := hvs.nil_inv
            obtain ⟨q1, q2⟩ := write_nil hG h hw
            exact ⟨_, w, μ, append_in hd hu hi hzr' hpos hnv (base := some a) (n := 0) (c := 0) (by omega) (fun a ha => rfl) (fun h => by cases h) type, .sliceE _ _, q1, q2⟩
          | slice hl hk hc hs =>
            rename_i c loc
            obtain ⟨w', hrun, q1, q2⟩ := write_sound (P := P) hG h hw hl hvs hone
            refine ⟨_, w', μ, append_in hd hu hi hzr' hpos hnv (base := some ⟨loc.b, loc.base + off, none⟩) (by omega) (fun a ha => ?_) (fun h => by cases h) type, .slice hl (by omega) (by omega) hs, q1, q2⟩
            obtain rfl := Option.some.inj ha
            rw [addr_add, Nat.add_assoc]
            exact hrun
        · cases hap
    · rename_i hnk
      split at hap
      · rename_i hbig
        -- a fresh row of the machine
        have fresh : ∀ (σ1 : H) (old : List LV) (base : Option Addr) (c r1 : Nat) (σ2 : H), bv = .slice base n c → c < n + m → HR B G μ σ1 w.drew → (σ1 = σ ∨ True) → St μ σ w μ σ1 w.drew → σ1.new (.row e false (old ++ new)) = some (r1, σ2) → (∀ y ∈ old, y.one = true) → old.length = n * i.size →
            (∃ ov : List Value, (Builtin.firstCells i.size n (.slice base n c)).run P w.drew = .ok ov.toArray w.drew ∧ VRs μ old ov) →
            ∃ v w' μ', (Builtin.append_ #[t, u] type #[bv, xv]).run P w = .ok v w' ∧ VR μ' (.slice (some (r1, 0, i.size)) (n + m) (n + m)) v ∧ HR B G μ' σ2 w' ∧ St μ σ w μ' σ2 w' := by
          rintro σ1 old base c r1 σ2 rfl hlt hH - hS hn hoo hol ⟨ov, hov, hor⟩
          obtain ⟨vs, hnv, hvs⟩ := hcells w.drew (h.drawn hG _).1
          obtain ⟨cap, hcap, hrun⟩ := append_out hd hu hi hzr' hpos hnv (base := base) hlt hbig.1 hov type
          obtain ⟨μ', a1, a2, a3⟩ := newRow_sound hG hH hn (hor.append hvs) (fun y hy => by rcases List.mem_append.1 hy with hy | hy; exact hoo y hy; exact hone y hy) (C := ov.toArray ++ vs.toArray ++ Builtin.zeroCells zv.cells (cap - (n + m))) (rest := (Builtin.zeroCells zv.cells (cap - (n + m))).toList) (by simp)
          refine ⟨_, _, μ', hrun, ?_, a2, hS.trans a3⟩
          have hvr := VR.slice (μ := μ') (off := 0) (sz := i.size) a1 (Nat.le_refl (n + m)) hcap (by
            have e1 : ov.length = n * i.size := by rw [hor.1, hol]
            have e2 : vs.length = m * i.size := by rw [hvs.1, hnl]
            have e3 := zeros_size zv.cells (cap - (n + m))
            rw [hzs] at e3
            simp only [Array.length_toList] at e3
            simp only [Array.size_append, List.size_toArray, e1, e2, e3]
            rw [← Nat.add_mul, ← Nat.add_mul]
            simp only [Nat.zero_add]
            exact Nat.mul_le_mul_right _ (by omega))
          exact hvr
        split at hap
        · split at hap
          · rename_i hn0
            subst hn0
            obtain ⟨⟨r1, σ2⟩, hn, he⟩ := Option.map_eq_some_iff.1 hap
            obtain ⟨rfl, rfl⟩ := Prod.mk.inj he
            cases hb
            have := fresh σ [] none 0 r1 σ2 rfl (by omega) (h.drawn hG _).1 (.inl rfl) (h.drawn hG _).2 (by simpa using hn) (fun y hy => by simp at hy) (by simp) ⟨[], rfl, .nil _⟩
            simpa using this
          · cases hap
        · rename_i r0 off z0
          split at hap
          · rename_i hz0
            subst hz0
            split at hap
            · rename_i e' cs hr
              split at hap
              · rename_i he'
                subst he'
                split at hap
                · rename_i old σ1 htake hkill
                  obtain ⟨⟨r1, σ2⟩, hn, he⟩ := Option.map_eq_some_iff.1 hap
                  obtain ⟨rfl, rfl⟩ := Prod.mk.inj he
                  obtain ⟨hdH, hdS⟩ := h.drawn hG (w.drawn + 1)
                  have hoo : ∀ y ∈ old, y.one = true := by
                    obtain ⟨hle, rfl⟩ := takeAt_some htake
                    obtain ⟨_, _, _, _, _, _, _, _, h6⟩ := h.row hr
                    exact fun y hy => h6 y (List.mem_of_mem_drop (List.mem_of_mem_take hy))
                  have hol : old.length = n * i.size := by
                    obtain ⟨hle, rfl⟩ := takeAt_some htake
                    simp; omega
                  obtain ⟨hkH, hkS, _⟩ := hdH.kill hkill
                  cases hb with
                  | sliceE p a =>
                    obtain rfl : old = [] := List.eq_nil_of_length_eq_zero (by omega)
                    exact fresh σ1 [] (some a) 0 r1 σ2 rfl (by omega) hkH (.inr trivial) (hdS.trans hkS) hn hoo hol ⟨[], by simp only [Builtin.firstCells, Nat.zero_mul]; rfl, .nil _⟩
                  | slice hl hk hc hs =>
                    rename_i c loc
                    by_cases hroom : n + m ≤ c
                    · obtain ⟨vs, hnv, hvs⟩ := hcells w h
                      have hvl : vs.length = m * i.size := by rw [hvs.1, hnl]
                      have hmul : (n + m) * i.size ≤ c * i.size := Nat.mul_le_mul_right _ hroom
                      rw [Nat.add_mul] at hmul
                      obtain ⟨w', μ', hrun, a1, a2, a3⟩ := grow_sound (P := P) hG h hr hl htake hkill hn hvs hone (by omega)
                      refine ⟨_, w', μ', append_in hd hu hi hzr' hpos hnv (base := some ⟨loc.b, loc.base + off, none⟩) hroom (fun a ha => ?_) (fun h => by cases h) type, ?_, a2, a3⟩
                      · obtain rfl := Option.some.inj ha
                        rw [addr_add]
                        exact hrun
                      · exact VR.slice (off := 0) a1 (Nat.le_refl _) hroom hs
                    · have hrd : readRow σ r0 off (n * i.size) = some old := by simp only [readRow, hr]; exact htake
                      obtain ⟨ov, hov, hor, _, _⟩ := read_sound (P := P) hdH hrd hl
                      exact fresh σ1 old _ c r1 σ2 rfl (by omega) hkH (.inr trivial) (hdS.trans hkS) hn hoo hol ⟨ov, hov, hor⟩
                · cases hap
              · cases hap
            · cases hap
          · cases hap
      · cases hap
  · cases hap
def copyL (σ : H) (sz n : Nat) (x : LV) (new : List LV) : Option (Nat × Nat × Nat) → Option (LV × H)
  | none => some (LV.int .i64 0, σ)
  | some (r, off, z) => if z = sz + 1 then (writeRow σ r off (new.take (min (lenL x) n * (sz + 1)))).map fun σ' => (LV.int .i64 (min (lenL x) n : Nat), σ') else none
theorem copy_sound (hG : GOK B G) (h : HR B G μ σ w) {t u e sz : Nat} {p : Option (Nat × Nat × Nat)} {n k : Nat} {x r : LV} {new : List LV} {σ' : H} (hd : P.underlying t = some (.slice e)) (hs : sizeT P e = some (sz + 1))
    (hsrc : srcCells σ (sz + 1) x = some new)
    (hc : copyL σ sz n x new p = some (r, σ'))
    {bv xv : Value} (hb : VR μ (.slice p n k) bv) (hx : VR μ x xv) (type : TypeId) :
    ∃ v w', (Builtin.copy_ #[t, u] type #[bv, xv]).run P w = .ok v w' ∧ VR μ r v ∧ HR B G μ σ' w' ∧ St μ σ w μ σ' w' := by
  obtain ⟨a1, a2, a3, a4⟩ := src_sound (P := P) (G := G) (B := B) h hsrc hx
  obtain ⟨vs, hvs, hvr⟩ := a4 w h (min (lenL x) n) (Nat.min_le_left _ _)
  have hvs' : (Builtin.firstCells (sz + 1) (Nat.min (lenL x) n) xv).run P w = .ok vs.toArray w := hvs
  have hone : ∀ y ∈ new.take (min (lenL x) n * (sz + 1)), y.one = true := fun y hy => a2 y (List.mem_of_mem_take hy)
  unfold Builtin.copy_
  unfold copyL at hc
  split at hc
  · obtain ⟨rfl, rfl⟩ := Prod.mk.inj (Option.some.inj hc)
    cases hb
    refine ⟨_, w, ?_, .int _ _, h, .refl _ _ _⟩
    simp only [List.getElem?_toArray, List.getElem?_cons_zero, List.getElem?_cons_succ, Sem.run_bind, run_und hd, Result.andThen_ok, a3, run_size hs, hvs', Sem.run_pure]
    simp [goInt]
  · rename_i r0 off z0
    split at hc
    · rename_i hz0
      subst hz0
      obtain ⟨σ2, hw, he⟩ := Option.map_eq_some_iff.1 hc
      obtain ⟨rfl, rfl⟩ := Prod.mk.inj he
      cases hb with
      | sliceE p a =>
        have h0 : min (lenL x) 0 = 0 := Nat.min_zero _
        rw [h0, Nat.zero_mul, List.take_zero] at hw hvr
        obtain rfl := hvr.nil_inv
        obtain ⟨q1, q2⟩ := write_nil hG h hw
        refine ⟨_, w, ?_, .int _ _, q1, q2⟩
        simp only [List.getElem?_toArray, List.getElem?_cons_zero, List.getElem?_cons_succ, Sem.run_bind, run_und hd, Result.andThen_ok, a3, run_size hs, hvs', Sem.run_pure]
        rfl
      | slice hl hk hcc hss =>
        rename_i c loc
        obtain ⟨w', hrun, q1, q2⟩ := write_sound (P := P) hG h hw hl hvr hone
        refine ⟨_, w', ?_, .int _ _, q1, q2⟩
        simp only [List.getElem?_toArray, List.getElem?_cons_zero, List.getElem?_cons_succ, Sem.run_bind, run_und hd, Result.andThen_ok, a3, run_size hs, hvs', Sem.run_pure, hrun]
        rfl
    · cases hc
theorem clear_sound (hG : GOK B G) (h : HR B G μ σ w) {t e sz : Nat} {r0 off n k : Nat} {z : LV} {σ' : H} (hd : P.underlying t = some (.slice e)) (hs : sizeT P e = some (sz + 1)) (hz : zeroT P e = some z) (hzl : z.cells.length = sz + 1)
    (hw : writeRow σ r0 off (repCells z.cells n) = some σ')
    {bv : Value} (hb : VR μ (.slice (some (r0, off, sz + 1)) n k) bv) (type : TypeId) :
    ∃ w', (Builtin.clear_ #[t] type #[bv]).run P w = .ok (.tuple #[]) w' ∧ HR B G μ σ' w' ∧ St μ σ w μ σ' w' := by
  obtain ⟨zv, hzr, hzv, hzo, hzb⟩ := run_zero (P := P) (μ := μ) hz w
  have hzs : zv.cells.size = sz + 1 := by have := (vr_cells hzv).1; simp at this; omega
  unfold Builtin.clear_
  cases hb with
  | sliceE p a =>
    obtain ⟨q1, q2⟩ := write_nil hG h hw
    refine ⟨w, ?_, q1, q2⟩
    simp only [List.getElem?_toArray, List.getElem?_cons_zero, List.getElem?_cons_succ, Sem.run_bind, run_und hd, Result.andThen_ok, Sem.run_pure]
  | slice hl hk hcc hss =>
    rename_i c loc
    obtain ⟨w', hrun, q1, q2⟩ := write_sound (P := P) hG h hw hl (zeros_vr (vr_cells hzv) n _ rfl (.inl (by omega))) (rep_one hzo _)
    refine ⟨w', ?_, q1, q2⟩
    cases n with
    | zero =>
      simp only [Nat.zero_mul] at hrun
      have : w' = w := by
        have h1 : ((Array.range 0).map (fun i => zv.cells[i % zv.cells.size]!)).toList = [] := by simp
        rw [h1] at hrun
        simp only [storeCells, Sem.run_pure, Result.ok.injEq] at hrun
        exact hrun.2.symm
      subst this
      simp only [List.getElem?_toArray, List.getElem?_cons_zero, List.getElem?_cons_succ, Sem.run_bind, run_und hd, Result.andThen_ok, Sem.run_pure]
    | succ n =>
      simp only [List.getElem?_toArray, List.getElem?_cons_zero, List.getElem?_cons_succ, Sem.run_bind, run_und hd, Result.andThen_ok, Sem.run_pure, hzr, Builtin.zeroCells]
      rw [hrun]
      rfl
end
end Go.LZ
end
section
/- The evaluator's soundness, part 15: an operation that makes or writes memory. -/
namespace Go.LZ
open Go Go.MapKept
set_option linter.unusedSimpArgs false
section
variable {P : Program} {μ : Mu} {ρ : Operand → Option LV} {ρ' : Operand → Value} {B : Nat} {G : World → Prop} {σ : H} {w : World}

theorem setblock_sound (hG : GOK B G) (h : HR B G μ σ w) {r : Nat} {o o' : Obj} {σ' : H} (hr : σ.m.get r = some o) (ho : o.rw = true) (hu : σ.upd r o' = some σ') {loc : Loc} (hl : μ r = some loc) {ob : Go.Obj}
    (hO : ∀ w', w'.heap[loc.b]? = some ob → ObjR μ loc w' o') : HR B G μ σ' { w with heap := w.heap.setIfInBounds loc.b ob } ∧ St μ σ w μ σ' { w with heap := w.heap.setIfInBounds loc.b ob } := by
  obtain ⟨loc', hl', hO', hB⟩ := h.obj r o hr
  rw [hl] at hl'
  obtain rfl := Option.some.inj hl'
  have hlt := hO'.lt
  refine h.upd hG hr hl ho hu rfl rfl rfl (by simp) (fun b hb => ?_) (hO _ ?_)
  · simp only; rw [Array.getElem?_setIfInBounds_ne (fun q => hb q.symm)]
  · simp [hlt]
theorem next_case (hG : GOK B G) (h : HR B G μ σ w) {r pos : Nat} {s : List UInt8} {v : Value} (hv : VR μ (.ptr (some (r, 0))) v) (hr : σ.m.get r = some (.iter s pos)) {x : Option LV} {σ' : H}
    (hx : (if pos < s.length then
          let (c, wd) := Utf8.decode ⟨s.toArray⟩ pos
          (σ.upd r (.iter s (pos + wd))).map fun σ' => (some (LV.tuple [.bool true, .int .i64 pos, .int .i32 c]), σ')
        else some (some (LV.tuple [.bool false]), σ)) = some (x, σ')) (ty : TypeId) :
    ∃ u w' y, (Instr.next v true ty).run P w = .ok u w' ∧ x = some y ∧ VR μ y u ∧ HR B G μ σ' w' ∧ St μ σ w μ σ' w' := by
  cases hv
  rename_i loc hl
  obtain ⟨loc', hl', ⟨hO1, hO2⟩, hB⟩ := h.obj r _ hr
  rw [hl] at hl'
  obtain rfl := Option.some.inj hl'
  have hget : (getObj loc.b).run P w = .ok (.stringIter ⟨s.toArray⟩ pos) w := by simp [getObj, Sem.run, hO1]
  have hset : ∀ o, (setObj loc.b o).run P w = .ok () { w with heap := w.heap.setIfInBounds loc.b o } := fun o => by simp [setObj, Sem.run, hO1]
  rw [Nat.add_zero, hO2]
  by_cases hp : pos < s.length
  · rw [if_pos hp] at hx
    obtain ⟨σ2, hu, he⟩ := Option.map_eq_some_iff.1 hx
    obtain ⟨rfl, rfl⟩ := Prod.mk.inj he
    obtain ⟨q1, q2⟩ := setblock_sound hG h hr rfl hu hl (ob := .stringIter ⟨s.toArray⟩ (pos + (Utf8.decode ⟨s.toArray⟩ pos).2)) (fun w' hw => ⟨hw, hO2⟩)
    refine ⟨_, _, _, ?_, rfl, vr_tuple (.cons (.bool _) (.cons (.int _ _) (.cons (.int _ _) (.nil _)))), q1, q2⟩
    simp only [Instr.next, Sem.run_bind, hget, Result.andThen_ok, size_mk, if_pos hp, hset, Sem.run_pure]
    rfl
  · rw [if_neg hp] at hx
    obtain ⟨rfl, rfl⟩ := Prod.mk.inj (Option.some.inj hx)
    refine ⟨_, w, _, ?_, rfl, vr_tuple (.cons (.bool _) (.nil _)), h, .refl _ _ _⟩
    simp only [Instr.next, Sem.run_bind, hget, Result.andThen_ok, size_mk, if_neg hp, Sem.run_pure]
theorem mapUpdate_sound (hG : GOK B G) (h : HR B G μ σ w) {t kt et : TypeId} {r : Nat} {key x : LV} {es : List (LV × LV)} (hd : P.underlying t = some (.map kt et)) (hkt : keyT P kt key = true) (hr : σ.m.get r = some (.map es))
    {mv kv xv : Value} (hm : VR μ (.map (some r)) mv) (hk : VR μ key kv) (hx : VR μ x xv) {σ' : H}
    (hf : (match findKeyL key es 0 with
        | some (some (i, _)) => (σ.upd r (.map (es.set i (key, x))))
        | some none => (σ.upd r (.map (es ++ [(key, x)])))
        | none => none) = some σ') :
    ∃ w', (Instr.mapUpdate t mv kv xv).run P w = .ok () w' ∧ HR B G μ σ' w' ∧ St μ σ w μ σ' w' := by
  cases hm
  rename_i loc hl
  obtain ⟨loc', hl', ⟨ES, clk, h1, h2, h3, h4⟩, hB⟩ := h.obj r _ hr
  rw [hl] at hl'
  obtain rfl := Option.some.inj hl'
  obtain ⟨d, hdd, hkey⟩ := key_sound hkt hk
  have hck := run_checkKey (w := w) hdd hkey false 9999
  have hget := MapKept.run_getObj_map (P := P) h1
  have hset : ∀ o, (setObj loc.b o).run P w = .ok () { w with heap := w.heap.setIfInBounds loc.b o } := fun o => by simp [setObj, Sem.run, h1]
  cases hfk : findKeyL key es 0 with
  | none => rw [hfk] at hf; cases hf
  | some res =>
    rw [hfk] at hf
    rcases find_sound (μ := μ) hkt hk hdd es ES.toList 0 res hfk (by simpa using h3) (fun i kv e a b => h4 i kv e a (by simpa using b)) with ⟨rfl, hn⟩ | ⟨j, y, u, rfl, hn, hy, hlt, e', q1, q2, q3⟩
    · simp only at hf
      obtain ⟨a1, a2⟩ := setblock_sound hG h hr rfl hf hl (ob := .map (ES.push { key := kv, val := xv, born := clk }) (clk + 1)) (fun w' hw => ⟨_, _, hw, h2, by simp [h3], fun i kv' e a b => by
        by_cases c : i < es.length
        · rw [List.getElem?_append_left c] at a
          rw [Array.getElem?_push, if_neg (by omega)] at b
          exact h4 i kv' e a b
        · rw [List.getElem?_append_right (by omega)] at a
          have hi : i = es.length := by
            have := (List.getElem?_eq_some_iff.1 a).1
            simp at this; omega
          subst hi
          rw [Array.getElem?_push, if_pos h3.symm] at b
          simp only [Nat.sub_self, List.getElem?_cons_zero, Option.some.injEq] at a b
          subst a
          subst b
          exact ⟨hk, hx⟩⟩)
      refine ⟨_, ?_, a1, a2⟩
      simp only [Instr.mapUpdate, Sem.run_bind, run_und hd, Result.andThen_ok, hget, hck, run_findKey hdd hn, hset]
    · simp only [Nat.zero_add] at hf hn
      have hES : ES[j]? = some e' := by simpa using q1
      have hsame : Instr.sameBits 10000 ((ES[j]?.map (·.key)).getD kv) kv = true := by
        rw [hES]
        simp only [Option.map_some, Option.getD_some, q2]
        exact sameBits_self hkey _
      obtain ⟨a1, a2⟩ := setblock_sound hG h hr rfl hf hl (ob := .map (ES.modify j fun e => { e with key := kv, val := xv }) clk) (fun w' hw => ⟨_, _, hw, h2, by simp [h3], fun i kv' e a b => by
        rw [List.getElem?_set] at a
        rw [Array.getElem?_modify] at b
        by_cases c : j = i
        · subst c
          rw [if_pos rfl, if_pos hlt] at a
          rw [if_pos rfl, hES] at b
          simp only [Option.some.injEq, Option.map_some] at a b
          subst a
          subst b
          exact ⟨hk, hx⟩
        · rw [if_neg c] at a b
          exact h4 i kv' e a b⟩)
      refine ⟨_, ?_, a1, a2⟩
      simp only [Instr.mapUpdate, Sem.run_bind, run_und hd, Result.andThen_ok, hget, hck, run_findKey hdd hn, hset, Instr.keyThatStays, hsame, if_true, Sem.run_pure]
theorem freeze_end {w : World} {C : Array Value} {e b : Nat} (h : w.heap[b]? = some (.cells C e)) : (w.freeze { block := b, off := C.size } 1).heap[b]? = some (.cells C e (C.size, C.size + 1)) ∧
    (∀ j, j ≠ b → (w.freeze { block := b, off := C.size } 1).heap[j]? = w.heap[j]?) ∧ (w.freeze { block := b, off := C.size } 1).heap.size = w.heap.size := by
  unfold World.freeze
  rw [if_neg (by decide)]
  refine ⟨?_, fun j hj => ?_, by simp⟩
  · simp only [Array.getElem?_modify, if_true, h, Option.map_some]
    rfl
  · simp only [Array.getElem?_modify]
    rw [if_neg (fun q => hj q.symm)]
/-- The machine marks a row as one that a text may share. -/
theorem mark_sound (hG : GOK B G) (h : HR B G μ σ w) {r e off : Nat} {cs : List LV} (hr : σ.m.get r = some (.row e false cs)) {loc : Loc} (hl : μ r = some loc) :
    ∃ w', (markStringish ⟨loc.b, off, none⟩).run P w = .ok () w' ∧ HR B G μ σ w' ∧ St μ σ w μ σ w' := by
  obtain ⟨loc', C, fr, h1, h2, h3, h4, h5, h6⟩ := h.row hr
  rw [hl] at h1
  obtain rfl := Option.some.inj h1
  have hB : B ≤ loc.b := by
    obtain ⟨loc', hl', _, hB⟩ := h.obj r _ hr
    rw [hl] at hl'
    obtain rfl := Option.some.inj hl'
    exact hB rfl
  have hfz : Fz C.size (if fr.1 == fr.2 then (C.size, C.size + 1) else (min fr.1 C.size, max fr.2 (C.size + 1))) := by
    split
    · exact .inr (Nat.le_refl _)
    · rename_i hne
      rcases h5 rfl with h | h
      · simp [h] at hne
      · exact .inr (by simp only; omega)
  refine ⟨w.freeze { block := loc.b, off := C.size } 1, ?_, ?_, ?_⟩
  · simp only [markStringish, Sem.run_bind, run_shape, World.shape?, h2, Result.andThen_ok, run_freeze]
  all_goals
    have hb : (w.freeze { block := loc.b, off := C.size } 1).heap[loc.b]? = some (.cells C e (if fr.1 == fr.2 then (C.size, C.size + 1) else (min fr.1 C.size, max fr.2 (C.size + 1)))) := by
      unfold World.freeze
      rw [if_neg (by decide)]
      simp only [Array.getElem?_modify, if_true, h2, Option.map_some]
    have ho : ∀ b, b ≠ loc.b → (w.freeze { block := loc.b, off := C.size } 1).heap[b]? = w.heap[b]? := fun b hb => by
      unfold World.freeze
      rw [if_neg (by decide)]
      simp only [Array.getElem?_modify]
      rw [if_neg (fun q => hb q.symm)]
    have hsz : (w.freeze { block := loc.b, off := C.size } 1).heap.size = w.heap.size := by
      unfold World.freeze
      rw [if_neg (by decide)]
      simp
  · refine ⟨fun r' q hq => ?_, h.inj, h.fresh, by rw [hsz]; exact h.size, hG _ _ (fun b hb => ho b (by omega)) h.glob⟩
    obtain ⟨loc', a, b, c⟩ := h.obj r' q hq
    by_cases e1 : r' = r
    · subst e1
      rw [hr] at hq
      obtain rfl := Option.some.inj hq
      exact ⟨loc, hl, ⟨C, _, hb, h3, h4, fun _ => hfz, h6⟩, fun _ => hB⟩
    · exact ⟨loc', a, b.mono (Mu.le_refl _) (ho _ (h.inj r r' _ q loc loc' hr hq hl a (fun q => e1 q.symm) (.inl rfl)).symm), c⟩
  · exact ⟨Mu.le_refl _, by unfold World.freeze; split <;> rfl, by unfold World.freeze; split <;> rfl, by unfold World.freeze; split <;> rfl, by omega, fun b _ hf => ho b fun e1 => hf ⟨r, _, loc, hr, rfl, hl, e1.symm⟩, fun b hf => .inl hf⟩
theorem bytes_run (s : List UInt8) (e : Nat) : ∃ cap w', (Conv.stringToBytes e ⟨s.toArray⟩).run P w = .ok (.slice (some ⟨w.heap.size, 0, none⟩) s.length cap) w' ∧ s.length ≤ cap ∧
    w'.heap[w.heap.size]? = some (.cells ((s.map fun b : UInt8 => Value.int .u8 b.toNat) ++ List.replicate (cap - s.length) (Value.int .u8 0)).toArray e (cap, cap + 1)) ∧
    (∀ b, b < w.heap.size → w'.heap[b]? = w.heap[b]?) ∧ w'.os = w.os ∧ w'.tape = w.tape ∧ w'.output = w.output ∧ w.heap.size ≤ w'.heap.size := by
  have hcap : s.length ≤ (Question.appendCap s.length 0 e).cut (w.tape w.drawn (.appendCap s.length 0 e)) := by simp [Question.cut]
  generalize hc : (Question.appendCap s.length 0 e).cut (w.tape w.drawn (.appendCap s.length 0 e)) = cap at hcap
  generalize hC : ((s.map fun b : UInt8 => Value.int .u8 b.toNat) ++ List.replicate (cap - s.length) (Value.int .u8 0)).toArray = C
  have hCs : C.size = cap := by rw [← hC]; simp; omega
  have hC' : ((⟨s.toArray⟩ : ByteArray).data.map fun b => Value.int .u8 b.toNat) ++ Array.replicate (cap - (⟨s.toArray⟩ : ByteArray).size) (.int .u8 0) = C := by
    rw [← hC, size_mk]; simp
  have h1 := (heap_alloc w.drew (.cells C e)).1
  have h2 := (heap_alloc w.drew (.cells C e)).2
  obtain ⟨f1, f2, f3⟩ := freeze_end (w := w.drew.alloc (.cells C e)) (b := w.heap.size) h1
  refine ⟨cap, (w.drew.alloc (.cells C e)).freeze { block := w.heap.size, off := C.size } 1, ?_, hcap, ?_, fun b hb => ?_, rfl, rfl, rfl, ?_⟩
  · simp only [Conv.stringToBytes, Sem.run_bind, run_choose_drew, Question.forced, Bool.false_eq_true, if_false, Result.andThen_ok, size_mk, hc]
    rw [show (⟨s.toArray⟩ : ByteArray).size = s.length from size_mk s] at hC'
    simp only [hC', newRow, Sem.run_bind, run_newObj_alloc, Sem.run_pure, Result.andThen_ok, markStringish, run_shape, World.shape?]
    rw [show (w.drew.alloc (.cells C e)).heap[w.drew.heap.size]? = _ from h1]
    rfl
  · rw [f1, hCs, ← hC]
  · exact (f2 b (by omega)).trans (h2 b hb)
  · rw [f3]
    show w.heap.size ≤ (w.heap.push _).size
    simp
theorem opE_sound (hG : GOK B G) (h : HR B G μ σ w) (hρ : ∀ x lv, ρ x = some lv → VR μ lv (ρ' x)) {o : Oper} {r : Option LV} {σ' : H} (hx : opE P ρ σ o.op = some (r, σ')) :
    ∃ nx w' μ', (execOp ρ' o).run P w = .ok nx w' ∧ NextR μ' r nx ∧ HR B G μ' σ' w' ∧ St μ σ w μ' σ' w' := by
  obtain ⟨dst, op, type, pos, after, guard⟩ := o
  cases op <;> simp only [opE] at hx <;> try (cases hx; done)
  case alloc e =>
    split at hx
    · rename_i z hz
      obtain ⟨⟨r1, σ2⟩, hn, he⟩ := Option.map_eq_some_iff.1 hx
      obtain ⟨rfl, rfl⟩ := Prod.mk.inj he
      obtain ⟨zv, hzr, hzv, hzo, _⟩ := run_zero (P := P) (μ := μ) hz w
      obtain ⟨μ', a1, a2, a3⟩ := newRow_sound hG h hn (vr_cells hzv) hzo (C := zv.cells) (rest := []) (by simp)
      refine ⟨.value (.pointer (some ⟨w.heap.size, 0, none⟩)), _, μ', ?_, VR.ptr a1, a2, a3⟩
      simp only [execOp, Instr.alloc, Sem.run_bind, hzr, Result.andThen_ok, newVar, newRow, run_newObj_alloc, Sem.run_pure]
    · cases hx
  case box e x =>
    split at hx
    · rename_i v hv
      split at hx
      · rename_i ho
        obtain ⟨⟨r1, σ2⟩, hn, he⟩ := Option.map_eq_some_iff.1 hx
        obtain ⟨rfl, rfl⟩ := Prod.mk.inj he
        obtain ⟨μ', a1, a2, a3⟩ := newRow_sound hG h hn (vr_cells (hρ _ _ hv)) (allOne_of ho) (C := (ρ' x).cells) (rest := []) (by simp)
        refine ⟨.value (.pointer (some ⟨w.heap.size, 0, none⟩)), _, μ', ?_, VR.ptr a1, a2, a3⟩
        simp only [execOp, Instr.box, Sem.run_bind, Result.andThen_ok, newVar, newRow, run_newObj_alloc, Sem.run_pure]
      · cases hx
    · cases hx
  case buildSlice t n parts =>
    split at hx
    · rename_i e hd
      split at hx
      · rename_i sz z vs hs hz hvs
        split at hx
        · rename_i hcond
          split at hx
          · rename_i cs hfill
            split at hx
            · rename_i ho
              obtain ⟨⟨r1, σ2⟩, hn, he⟩ := Option.map_eq_some_iff.1 hx
              obtain ⟨rfl, rfl⟩ := Prod.mk.inj he
              obtain ⟨zv, hzr, hzv, hzo, _⟩ := run_zero (P := P) (μ := μ) hz w
              have hzs : zv.cells.size = sz + 1 := by have := (vr_cells hzv).1; simp at this; omega
              have hlen := evals_len hvs
              have hvr := evals_vr hρ hvs
              obtain ⟨us, hu, hr⟩ := fill_sound (μ := μ) (vs := ((Array.range (n * (sz + 1))).map (fun i => zv.cells[i % zv.cells.size]!)).toList) (parts' := parts.toList.map fun (i, x) => (i, ρ' x)) hfill (zeros_vr (vr_cells hzv) n _ (by rw [hzs]) (.inl (by omega)))
                (by rw [zip_fst (by simpa using hlen.symm)]; simp [Function.comp_def]) (by rw [zip_snd (by simpa using hlen.symm)]; simpa [Function.comp_def] using hvr)
              obtain ⟨μ', a1, a2, a3⟩ := newRow_sound hG h hn hr (allOne_of ho) (C := us.toArray) (rest := []) (by simp)
              have husz : us.length = n * (sz + 1) := by
                rw [hr.1]
                have : ∀ (ps : List (Nat × LV)) (c d : List LV), fillL (fun i => some (i * (sz + 1), sz + 1)) c ps = some d → d.length = c.length := by
                  intro ps
                  induction ps with
                  | nil => intro c d h; simp only [fillL] at h; rw [Option.some.inj h]
                  | cons q ps ih =>
                    intro c d h
                    obtain ⟨i, v⟩ := q
                    simp only [fillL] at h
                    split at h
                    · split at h
                      · rename_i c' hput
                        obtain ⟨hle, rfl⟩ := putAt_some hput
                        rw [ih _ _ h]
                        simp; omega
                      · cases h
                    · cases h
                rw [this _ _ _ hfill, (rep_at _ _).1, hcond.2]
              refine ⟨.value (.slice (some ⟨w.heap.size, 0, none⟩) n n), _, μ', ?_, VR.slice (off := 0) a1 (Nat.le_refl _) (Nat.le_refl _) (by simp [husz]), a2, a3⟩
              have hfill' : ∀ zc : Array Value, (n * (sz + 1) ≠ 0 → zc = zv.cells) → Instr.fill (fun i => some (i * (sz + 1), sz + 1)) ((Array.range (n * (sz + 1))).map (fun i => zc[i % zc.size]!)) (parts.map fun (i, x) => (i, ρ' x)).toList = some us.toArray := by
                intro zc hzc
                rw [← hu]
                congr 1
                · by_cases h0 : n * (sz + 1) = 0
                  · simp [h0]
                  · rw [hzc h0]
                · simp
              have hbig : ¬ n * (sz + 1) > 2 ^ 24 := by have : (2 : Nat) ^ 24 = 16777216 := by decide
                                                        omega
              simp only [execOp, Instr.buildSlice, Sem.run_bind, run_und hd, Result.andThen_ok, run_size hs, if_neg hbig]
              by_cases h0 : n * (sz + 1) = 0
              · simp only [Nat.succ_eq_add_one, if_pos h0, hfill' #[] (fun q => absurd h0 q), newRow, Sem.run_bind, run_newObj_alloc, Result.andThen_ok, Sem.run_pure]
              · simp only [Nat.succ_eq_add_one, if_neg h0, hzr, hfill' zv.cells (fun _ => rfl), newRow, Sem.run_bind, run_newObj_alloc, Result.andThen_ok, Sem.run_pure]
            · cases hx
          · cases hx
        · cases hx
      · cases hx
    · cases hx
  case makeSlice t l c =>
    split at hx
    · rename_i e k1 ln k2 cn hd hl hc
      split at hx
      · rename_i i z hi hz
        split at hx
        · rename_i hcond
          obtain ⟨c1, c2, c3, c4, c5, c6⟩ := hcond
          obtain ⟨⟨r1, σ2⟩, hn, he⟩ := Option.map_eq_some_iff.1 hx
          obtain ⟨rfl, rfl⟩ := Prod.mk.inj he
          have h1 := hρ _ _ hl
          have h2 := hρ _ _ hc
          generalize hv1 : ρ' l = v1 at h1
          generalize hv2 : ρ' c = v2 at h2
          cases h1
          cases h2
          obtain ⟨zv, hzr, hzv, hzo, _⟩ := run_zero (P := P) (μ := μ) hz w
          have hzs : zv.cells.size = i.size := by have := (vr_cells hzv).1; simp at this; omega
          have hsz : (sizeOf e).run P w = .ok i.size w := by simp [sizeOf, run_info hi]
          obtain ⟨μ', a1, a2, a3⟩ := newRow_sound hG h hn (zeros_vr (vr_cells hzv) cn.toNat (cn.toNat * i.size) (by rw [hzs]) (.inl (by omega))) (rep_one hzo _) (C := (Array.range (cn.toNat * i.size)).map (fun j => zv.cells[j % zv.cells.size]!)) (rest := []) (by simp)
          refine ⟨.value (.slice (some ⟨w.heap.size, 0, none⟩) ln.toNat cn.toNat), _, μ', ?_, VR.slice (off := 0) a1 (by omega) (Nat.le_refl _) (by simp), a2, a3⟩
          have w1 : IntKind.i64.wrap ln = ln := IntWalk.i64_in ln (by omega)
          have w2 : IntKind.i64.wrap cn = cn := IntWalk.i64_in cn (by omega)
          have hbig : ¬ ((i.bytes : Int) * cn > 2 ^ 48) := by rw [Int.mul_comm]; exact mul_small c3 c4
          have hno : ((decide (cn < 0) || decide ((i.bytes : Int) * cn > 2 ^ 48)) || decide (ln < 0) || decide (ln > cn)) = false := by
            simp only [Bool.or_eq_false_iff, decide_eq_false_iff_not]
            exact ⟨⟨⟨by omega, hbig⟩, by omega⟩, by omega⟩
          simp only [execOp, hv1, hv2, Instr.makeSlice, Sem.run_bind, run_und hd, asInt, asIntOf, Sem.run_pure, Result.andThen_ok, run_info hi, w1, w2, hno, Bool.false_eq_true, if_false, run_askRoom, hsz]
          by_cases h0 : cn.toNat * i.size = 0
          · have hz0 : ∀ zc : Array Value, (Array.range (cn.toNat * i.size)).map (fun j => zc[j % zc.size]!) = (Array.range (cn.toNat * i.size)).map (fun j => zv.cells[j % zv.cells.size]!) := fun zc => by simp [h0]
            simp only [if_pos h0, newRow, Sem.run_bind, run_newObj_alloc, Result.andThen_ok, Sem.run_pure, hz0]
          · simp only [if_neg h0, hzr, newRow, Sem.run_bind, run_newObj_alloc, Result.andThen_ok, Sem.run_pure]
        · cases hx
      · cases hx
    · cases hx
  case makeMap t rsv =>
    cases rsv <;> simp only at hx
    · split at hx
      · rename_i hd
        obtain ⟨⟨r1, σ2⟩, hn, he⟩ := Option.map_eq_some_iff.1 hx
        obtain ⟨rfl, rfl⟩ := Prod.mk.inj he
        obtain ⟨μ', a1, a2, a3⟩ := h.new (w' := w.alloc (.map #[] 0)) (loc := ⟨w.heap.size, 0, 0⟩) hG hn rfl rfl rfl (by show w.heap.size ≤ (w.heap.push _).size; simp) (fun b hb => (heap_alloc w _).2 b hb) (Nat.le_refl _) fun μ' hle _ => ⟨#[], 0, (heap_alloc w _).1, rfl, rfl, fun i kv e a => by simp at a⟩
        refine ⟨.value (.map (some w.heap.size)), _, μ', ?_, VR.map a1, a2, a3⟩
        simp only [execOp, Instr.makeMap, Option.map_none, Sem.run_bind, Sem.run_pure, Result.andThen_ok, run_newObj_alloc]
      · cases hx
    · cases hx
  case store t a x =>
    split at hx
    · rename_i r0 off v n ha hv hs
      split at hx
      · rename_i hcond
        obtain ⟨σ2, hw, he⟩ := Option.map_eq_some_iff.1 hx
        obtain ⟨rfl, rfl⟩ := Prod.mk.inj he
        have h1 := hρ _ _ ha
        have h2 := hρ _ _ hv
        generalize hv1 : ρ' a = v1 at h1
        cases h1
        rename_i loc hl
        have hcl := vr_cells h2
        obtain ⟨w', hrun, q1, q2⟩ := write_sound (P := P) hG h hw hl hcl (allOne_of hcond.2)
        refine ⟨.skip, w', μ, ?_, trivial, q1, q2⟩
        have hsize : ¬ (ρ' x).cells.size ≠ n := by have := hcl.1; simp at this; omega
        simp only [execOp, hv1, Instr.storeAt, Instr.sureAddr, Sem.run_bind, Sem.run_pure, Result.andThen_ok, storeVar, run_size hs, if_neg hsize, hrun]
      · cases hx
    · cases hx
  case mapUpdate t m k x =>
    split at hx
    · rename_i kt et r0 key v hd hm hk hv
      split at hx
      · rename_i hkt
        split at hx
        · rename_i es hr
          have key_ : ∃ σ2, (match findKeyL key es 0 with
              | some (some (i, _)) => (σ.upd r0 (.map (es.set i (key, v))))
              | some none => (σ.upd r0 (.map (es ++ [(key, v)])))
              | none => none) = some σ2 ∧ r = none ∧ σ2 = σ' := by
            split at hx
            · rename_i hfk
              obtain ⟨σ2, hu, he⟩ := Option.map_eq_some_iff.1 hx
              obtain ⟨rfl, rfl⟩ := Prod.mk.inj he
              exact ⟨σ2, by first | exact hu | (rw [hfk]; exact hu), rfl, rfl⟩
            · rename_i hfk
              obtain ⟨σ2, hu, he⟩ := Option.map_eq_some_iff.1 hx
              obtain ⟨rfl, rfl⟩ := Prod.mk.inj he
              exact ⟨σ2, by first | exact hu | (rw [hfk]; exact hu), rfl, rfl⟩
            · cases hx
          obtain ⟨σ2, hf, rfl, rfl⟩ := key_
          obtain ⟨w', hrun, q1, q2⟩ := mapUpdate_sound (P := P) hG h hd hkt hr (hρ _ _ hm) (hρ _ _ hk) (hρ _ _ hv) hf
          exact ⟨.skip, w', μ, by simp [execOp, hrun], trivial, q1, q2⟩
        · cases hx
      · cases hx
    · cases hx
  case convert src dst' x =>
    split at hx
    · rename_i e s hs hd hxv
      split at hx
      · rename_i he1 he2
        obtain ⟨⟨r1, σ2⟩, hn, he⟩ := Option.map_eq_some_iff.1 hx
        obtain ⟨rfl, rfl⟩ := Prod.mk.inj he
        have h1 := hρ _ _ hxv
        generalize hv1 : ρ' x = v1 at h1
        cases h1
        obtain ⟨hd1, hd2⟩ := h.drawn hG (w.drawn + 1)
        obtain ⟨cap, w', hrun, hcap, hheap1, hheap2, q1, q2, q3, q4⟩ := bytes_run (P := P) (w := w) s e
        obtain ⟨μ', a1, a2, a3⟩ := h.new (w' := w') (loc := ⟨w.heap.size, 0, cap⟩) hG hn q1 q2 q3 q4 hheap2 (Nat.le_refl _) fun μ' hle _ => ⟨_, _, hheap1, by simp; omega, ⟨by simp [cellsOfBytes], fun i x v hx hv => by
            have hlt := (List.getElem?_eq_some_iff.1 hx).1
            simp only [Nat.zero_add, List.getElem?_toArray] at hv
            rw [List.getElem?_append_left (by simpa [cellsOfBytes] using hlt)] at hv
            exact (bytes_vr μ' s).2 i x v hx hv⟩, fun _ => .inr (by simp; omega), bytes_one s⟩
        refine ⟨.value (.slice (some ⟨w.heap.size, 0, none⟩) s.length cap), w', μ', ?_, VR.slice (off := 0) a1 (Nat.le_refl _) hcap (by simp), a2, a3⟩
        simp only [execOp, hv1, convert, Sem.run_bind, run_und hs, run_und hd, run_und he1, Result.andThen_ok, hrun, Sem.run_pure]
      · cases hx
    · rename_i e0 e r0 off z n k hs hd hxv
      split at hx
      · rename_i hcond
        obtain ⟨rfl, hk0⟩ := hcond
        have hee := hs.symm.trans hd
        simp only [Option.some.injEq, TypeDesc.slice.injEq] at hee
        subst hee
        split at hx
        · rename_i he
          split at hx
          · rename_i ee cs hr
            obtain ⟨rfl, rfl⟩ := Prod.mk.inj (Option.some.inj hx)
            have h1 := hρ _ _ hxv
            generalize hv1 : ρ' x = v1 at h1
            cases h1 with
            | sliceE p a => omega
            | slice hl hk hc hss =>
              rename_i c loc
              obtain ⟨w', hrun, q1, q2⟩ := mark_sound (P := P) hG h hr hl (off := loc.base + off)
              refine ⟨.value (.slice (some ⟨loc.b, loc.base + off, none⟩) n c), w', μ, ?_, .slice hl hk hc hss, q1, q2⟩
              simp only [execOp, hv1, convert, Sem.run_bind, run_und hs, run_und hd, run_und he, Result.andThen_ok, beq_self_eq_true, hrun, Sem.run_pure]
          · cases hx
        · cases hx
      · cases hx
    · cases hx
  case range t x =>
    split at hx
    · rename_i s hd hxv
      obtain ⟨⟨r1, σ2⟩, hn, he⟩ := Option.map_eq_some_iff.1 hx
      obtain ⟨rfl, rfl⟩ := Prod.mk.inj he
      have h1 := hρ _ _ hxv
      generalize hv1 : ρ' x = v1 at h1
      cases h1
      obtain ⟨μ', a1, a2, a3⟩ := h.new (w' := w.alloc (.stringIter ⟨s.toArray⟩ 0)) (loc := ⟨w.heap.size, 0, 0⟩) hG hn rfl rfl rfl (by show w.heap.size ≤ (w.heap.push _).size; simp) (fun b hb => (heap_alloc w _).2 b hb) (Nat.le_refl _) fun μ' hle _ => ⟨(heap_alloc w _).1, rfl⟩
      refine ⟨.value (.pointer (some ⟨w.heap.size, 0, none⟩)), _, μ', ?_, VR.ptr a1, a2, a3⟩
      simp only [execOp, hv1, Instr.range, Sem.run_bind, run_und hd, Sem.run_pure, Result.andThen_ok, run_newObj_alloc]
    · cases hx
  case next it str =>
    cases str <;> simp only at hx
    · cases hx
    · split at hx
      · rename_i r0 hit
        split at hx
        · rename_i s pos hr
          obtain ⟨u, w', y, hrun, rfl, hy, q1, q2⟩ := next_case (P := P) hG h (hρ _ _ hit) hr hx type
          exact ⟨.value u, w', μ, by simp [execOp, hrun], hy, q1, q2⟩
        · cases hx
      · cases hx
  case call c =>
    split at hx
    · rename_i t u s x hc ht hxs
      have hv := evals_vr hρ hxs
      obtain ⟨v, vs, e1, h1, h2⟩ := hv.cons_inv
      obtain ⟨v2, vs2, rfl, h3, h4⟩ := h2.cons_inv
      obtain rfl := h4.nil_inv
      obtain ⟨consts, hrun⟩ := callee_builtin (P := P) (ρ' := ρ') hc type w
      have hta : c.argTypes = #[t, u] := arr_of_list ht
      split at hx
      · rename_i e ud hd hu
        split at hx
        · rename_i i z hi hz
          split at hx
          · rename_i hcond
            have go : ∀ new m r1 σ1, appendL i.size i.bytes e σ s new m = some (r1, σ1) → r = some r1 → σ' = σ1 →
              ((∃ k k' n, ud = .int k' ∧ x = .int k n ∧ 0 ≤ n ∧ n ≤ 1048576 ∧ i.bytes ≤ 65536 ∧ new = repCells z.cells n.toNat ∧ m = n.toNat) ∨ ((∀ k, ud ≠ .int k) ∧ srcCells σ i.size x = some new ∧ m = lenL x)) →
              ∃ nx w' μ', (execOp ρ' ⟨dst, .call c, type, pos, after, guard⟩).run P w = .ok nx w' ∧ NextR μ' r nx ∧ HR B G μ' σ' w' ∧ St μ σ w μ' σ' w' := by
              rintro new m r1 σ1 hap rfl rfl hnew
              obtain ⟨v', w', μ', hr', a1, a2, a3⟩ := append_sound (P := P) hG h hd hu hi hz hcond.1 hcond.2 hap hnew h1 h3 type
              refine ⟨.value v', w', μ', ?_, a1, a2, a3⟩
              simp only [execOp]
              rw [hrun, args_list e1, hta]
              simp only [builtin, Sem.run_bind, hr']
              rfl
            split at hx
            · split at hx
              · rename_i hn
                obtain ⟨⟨r1, σ1⟩, hap, he⟩ := Option.map_eq_some_iff.1 hx
                obtain ⟨rfl, rfl⟩ := Prod.mk.inj he
                exact go _ _ _ _ hap rfl rfl (.inl ⟨_, _, _, rfl, rfl, hn.1, hn.2.1, hn.2.2, rfl, rfl⟩)
              · cases hx
            · cases hx
            · rename_i hud1 hud2
              split at hx
              · rename_i new hsrc
                split at hx
                · obtain ⟨⟨r1, σ1⟩, hap, he⟩ := Option.map_eq_some_iff.1 hx
                  obtain ⟨rfl, rfl⟩ := Prod.mk.inj he
                  refine go _ _ _ _ hap rfl rfl (.inr ⟨fun k e => ?_, hsrc, rfl⟩)
                  subst e
                  exact hud1 _ rfl
                · cases hx
              · cases hx
          · cases hx
        · cases hx
      · cases hx
    · rename_i t u p n k x hc ht hxs
      have hv := evals_vr hρ hxs
      obtain ⟨v, vs, e1, h1, h2⟩ := hv.cons_inv
      obtain ⟨v2, vs2, rfl, h3, h4⟩ := h2.cons_inv
      obtain rfl := h4.nil_inv
      obtain ⟨consts, hrun⟩ := callee_builtin (P := P) (ρ' := ρ') hc type w
      have hta : c.argTypes = #[t, u] := arr_of_list ht
      split at hx
      · rename_i e hd
        split at hx
        · rename_i sz hs
          split at hx
          · rename_i new hsrc
            have key_ : ∃ r1, r = some r1 ∧ copyL σ sz n x new p = some (r1, σ') := by
              cases p with
              | none =>
                simp only at hx
                obtain ⟨rfl, rfl⟩ := Prod.mk.inj (Option.some.inj hx)
                exact ⟨_, rfl, rfl⟩
              | some q =>
                obtain ⟨r0, off, z⟩ := q
                simp only at hx
                split at hx
                · rename_i hz
                  obtain ⟨σ2, hw, he⟩ := Option.map_eq_some_iff.1 hx
                  obtain ⟨rfl, rfl⟩ := Prod.mk.inj he
                  exact ⟨_, rfl, by simp [copyL, hz, hw]; omega⟩
                · cases hx
            obtain ⟨r1, rfl, hcp⟩ := key_
            obtain ⟨v', w', hr', a1, a2, a3⟩ := copy_sound (P := P) (u := u) hG h hd hs hsrc hcp h1 h3 type
            refine ⟨.value v', w', μ, ?_, a1, a2, a3⟩
            simp only [execOp]
            rw [hrun, args_list e1, hta]
            simp only [builtin, Sem.run_bind, hr']
            rfl
          · cases hx
        · cases hx
      · cases hx
    · rename_i t p n k hc ht hxs
      have hv := evals_vr hρ hxs
      obtain ⟨v, vs, e1, h1, h2⟩ := hv.cons_inv
      obtain rfl := h2.nil_inv
      obtain ⟨consts, hrun⟩ := callee_builtin (P := P) (ρ' := ρ') hc type w
      have hta : c.argTypes = #[t] := arr_of_list ht
      split at hx
      · rename_i e hd
        split at hx
        · rename_i sz z r0 off y hs hz
          split at hx
          · rename_i hcond
            obtain ⟨rfl, hzl⟩ := hcond
            obtain ⟨σ2, hw, he⟩ := Option.map_eq_some_iff.1 hx
            obtain ⟨rfl, rfl⟩ := Prod.mk.inj he
            obtain ⟨w', hr', a2, a3⟩ := clear_sound (P := P) hG h hd hs hz hzl hw h1 type
            refine ⟨.value (.tuple #[]), w', μ, ?_, vr_tuple (.nil _), a2, a3⟩
            simp only [execOp]
            rw [hrun, args_list e1, hta]
            simp only [builtin, Sem.run_bind, hr']
            rfl
          · cases hx
        · obtain ⟨rfl, rfl⟩ := Prod.mk.inj (Option.some.inj hx)
          cases h1
          refine ⟨.value (.tuple #[]), w, μ, ?_, vr_tuple (.nil _), h, .refl _ _ _⟩
          simp only [execOp]
          rw [hrun, args_list e1, hta]
          simp only [builtin, Builtin.clear_, List.getElem?_toArray, List.getElem?_cons_zero, Sem.run_bind, run_und hd, Result.andThen_ok, Sem.run_pure]
        · cases hx
      · cases hx
    · cases hx
end
end Go.LZ
end
section
/- The evaluator's soundness, part 16: what is asked of a runner; an operation; a list of operations. -/
namespace Go.LZ
open Go Go.MapKept
set_option linter.unusedSimpArgs false

def exitOf : Ex → Exit
  | .norm => .normal
  | .ret => .ret
  | .exit id => .exit id
structure Wd (F : Fence) : Prop where
  fn : ∀ f, F.fn f
  depth : F.depth = none
  alive : F.alive = false
/-- What entering a range over a function has pushed: at blocks that no row has, at 'lo' or behind. -/
def Marks (lo : Nat) (μ : Mu) (σ : H) (w : World) (ds : List Deferred) : Prop := ∀ d ∈ ds, ∃ b, d.target = .collected b ∧ lo ≤ b ∧ w.heap[b]? = some (.deferred (some [])) ∧ ¬ foot μ σ b
theorem Marks.nil (lo : Nat) (μ : Mu) (σ : H) (w : World) : Marks lo μ σ w [] := fun d h => by cases h
theorem Marks.keep {lo : Nat} {μ μ' : Mu} {σ σ' : H} {w w' : World} {ds : List Deferred} (h : Marks lo μ σ w ds) (hs : St μ σ w μ' σ' w') : Marks lo μ' σ' w' ds := fun d hd => by
  obtain ⟨b, h1, h0, h2, h3⟩ := h d hd
  have hb : b < w.heap.size := (Array.getElem?_eq_some_iff.1 h2).1
  refine ⟨b, h1, h0, (hs.keep b hb h3).trans h2, fun hf => ?_⟩
  rcases hs.own b hf with h4 | h4
  · exact h3 h4
  · omega
theorem Marks.append {lo : Nat} {μ : Mu} {σ : H} {w : World} {a b : List Deferred} (h : Marks lo μ σ w a) (k : Marks lo μ σ w b) : Marks lo μ σ w (a ++ b) := fun d hd => by
  rcases List.mem_append.1 hd with hd | hd
  · exact h d hd
  · exact k d hd
theorem Marks.low {lo lo' : Nat} {μ : Mu} {σ : H} {w : World} {a : List Deferred} (h : Marks lo μ σ w a) (hl : lo' ≤ lo) : Marks lo' μ σ w a := fun d hd => let ⟨b, h1, h2, h3⟩ := h d hd; ⟨b, h1, Nat.le_trans hl h2, h3⟩
def PostR (B : Nat) (G : World → Prop) (μ : Mu) (σ : H) (w : World) (v : LV) (σ' : H) : Ending → World → Prop :=
  fun e w' => ∃ u μ', e = .returned u ∧ VR μ' v u ∧ HR B G μ' σ' w' ∧ St μ σ w μ' σ' w'
/-- What is asked behind a stretch of code. -/
def PostC (B : Nat) (G : World → Prop) (μ : Mu) (σ : H) (w : World) (ds : List Deferred) (s' : FSt) (σ' : H) (a' : Act) (w' : World) : Prop :=
  ∃ μ', FR μ' s' a'.tmps ∧ HR B G μ' σ' w' ∧ St μ σ w μ' σ' w' ∧ ∃ ms, a'.defers = ms ++ ds ∧ Marks w.heap.size μ' σ' w' ms ∧ (ms.map (·.target)).Nodup
structure Snd (P : Program) (B : Nat) (G : World → Prop) (R : Rn) : Prop where
  code : ∀ {c s σ e s' σ'}, R.code c s σ = some (e, s', σ') → ∀ (F : Fence) (n : Nat), Wd F → (F.round = none ∨ flat c = true) → ∀ (μ : Mu) (a : Act) (w : World), FR μ s a.tmps → HR B G μ σ w →
    ∀ Q : Exit → Act → World → Prop, (∀ a' w', PostC B G μ σ w a.defers s' σ' a' w' → Q (exitOf e) a' w') → c.wpIn F n P Q a w
  loop : ∀ {c s σ e s' σ'}, R.code (.loop c) s σ = some (e, s', σ') → ∃ m, ∀ (F : Fence) (n : Nat), Wd F → (F.round = none ∨ flat c = true) → ∀ (μ : Mu) (a : Act) (w : World), FR μ s a.tmps → HR B G μ σ w →
    ∀ Q : Exit → Act → World → Prop, (∀ a' w', PostC B G μ σ w a.defers s' σ' a' w' → Q (exitOf e) a' w') → Code.roundsIn F n P c Q m a w
  call : ∀ {f args σ v σ'}, R.call f args σ = some (v, σ') → (∃ fn, P.funcs[f]? = some fn ∧ fn.name ≠ "runtime.NumGoroutine" ∧ fn.body.isSome = true) ∧
    ∀ (F : Fence) (n : Nat), Wd F → ∀ (μ : Mu) (vs : Array Value) (w : World), VRs μ args vs.toList → HR B G μ σ w → CallsIn F n P f vs w (PostR B G μ σ w v σ')
  yld : ∀ {l args σ v σ'}, R.yld l args σ = some (v, σ') → ∀ (F : Fence) (n : Nat), Wd F → ∀ (μ : Mu) (vs : Array Value) (w : World), VRs μ args vs.toList → HR B G μ σ w → ∀ loc, μ l = some loc →
    ∃ f tmps asg body, (Instr.yield loc.b vs).run P w = .ok (.round loc.b f tmps asg body) w ∧ RoundIn F n P loc.b f tmps asg body w (PostR B G μ σ w v σ')
section
variable {P : Program} {B : Nat} {G : World → Prop} {R : Rn}

theorem eval_vr {μ : Mu} {s : FSt} {a : Act} (h : FR μ s a.tmps) : ∀ x lv, s.eval x = some lv → VR μ lv (a.eval x) := by
  intro x lv hx
  cases x with
  | tmp t =>
    obtain ⟨v, hv, hr⟩ := h.some_ t lv hx
    simp only [Act.eval, Array.getD_eq_getD_getElem?, hv, Option.getD_some]
    exact hr
  | const v => exact (ofV_vr hx).1
  | global g => cases hx
  | func f =>
    simp only [FSt.eval, Option.some.injEq] at hx
    subst hx
    exact .func (by simp) (fun i x v h => by simp at h)
theorem noDefer {o : Oper} {ρ : Operand → Option LV} {σ : H} {r : Option LV × H} (h : opL P R ρ o σ = some r) : ∀ c, o.op ≠ .defer c := by
  intro c hc
  obtain ⟨dst, op, type, pos, after, guard⟩ := o
  simp only at hc
  subst hc
  simp [opL, kindOf, opP] at h
theorem sem_at {o : Oper} (h : ∀ c, o.op ≠ .defer c) (x : Option Nat) (ρ : Operand → Value) : Oper.semAt x ρ o = execOp ρ o := by
  cases x with
  | none => simp [Oper.semAt_none]
  | some l => exact Oper.semAt_some l ρ o h
theorem args_map {ρ ρ' : Operand → Value} (xs : Array Operand) : (xs.map ρ).toList = xs.toList.map ρ := by simp
def ResR (μ : Mu) : Option LV → Value → Prop
  | none, u => u = undef
  | some x, u => VR μ x u
theorem oper_sound (hG : GOK B G) (hR : Snd P B G R) {o : Oper} {ρ : Operand → Option LV} {σ : H} {v : Option LV} {σ' : H} (hx : opL P R ρ o σ = some (v, σ')) {F : Fence} {n : Nat} (hF : Wd F) {μ : Mu} {a : Act} {w : World}
    (hρ : ∀ x lv, ρ x = some lv → VR μ lv (a.eval x)) (h : HR B G μ σ w) {next : Act → World → Prop} {Q : Exit → Act → World → Prop} (hn : ∀ μ' w' u, HR B G μ' σ' w' → St μ σ w μ' σ' w' → ResR μ' v u → next (a.put o.dst u) w') :
    o.wpIn F n P a w next Q := by
  refine ⟨fun f _ => hF.fn f, ?_⟩
  rw [sem_at (noDefer hx)]
  unfold opL at hx
  split at hx
  · obtain ⟨x, hp, he⟩ := Option.map_eq_some_iff.1 hx
    obtain ⟨rfl, rfl⟩ := Prod.mk.inj he
    obtain ⟨u, hu, hr⟩ := opP_sound hρ hp w
    rw [hu]
    exact hn μ w u h (.refl _ _ _) hr
  · obtain ⟨x, hp, he⟩ := Option.map_eq_some_iff.1 hx
    obtain ⟨rfl, rfl⟩ := Prod.mk.inj he
    obtain ⟨u, hu, hr⟩ := opR_sound h hρ hp
    rw [hu]
    exact hn μ w u h (.refl _ _ _) hr
  · have byE : opE P ρ σ o.op = some (v, σ') → o.uponIn F n P a next Q ((execOp a.eval o).run P w) := fun he => by
      obtain ⟨nx, w', μ', hrun, hnx, hh, hs⟩ := opE_sound hG h hρ he
      rw [hrun]
      cases v with
      | none =>
        cases nx <;> simp only [NextR] at hnx
        exact hn μ' w' undef hh hs rfl
      | some x =>
        cases nx <;> simp only [NextR] at hnx
        exact hn μ' w' _ hh hs hnx
    split at hx
    · rename_i c hop
      split at hx
      · rename_i g hcal
        split at hx
        · rename_i fv vs hfv hvs
          obtain ⟨⟨x, σ2⟩, hcall, he⟩ := Option.map_eq_some_iff.1 hx
          obtain ⟨rfl, rfl⟩ := Prod.mk.inj he
          have h1 := hρ _ _ hfv
          have h2 := evals_vr hρ hvs
          generalize hgv : a.eval g = gv at h1
          cases fv <;> simp only [Rn.callV] at hcall <;> try (cases hcall; done)
          · rename_i fid caps
            cases h1 with
            | func hl hc =>
              rename_i cvs
              obtain ⟨⟨fn, hfn, hname, hbody⟩, hC⟩ := hR.call hcall
              have hargs : VRs μ (vs ++ caps) ((c.args.map a.eval) ++ cvs).toList := by
                simp only [Array.toList_append, Array.toList_map]
                exact h2.append ⟨by simpa using hl, fun i x v hx hv => hc i x v hx (by simpa using hv)⟩
              have hrun : (execOp a.eval o).run P w = .ok (.enter fid ((c.args.map a.eval) ++ cvs)) w := by
                have hname' : (fn.name == "runtime.NumGoroutine") = false := by simpa using hname
                have hb' : fn.body.isNone = false := by cases hfb : fn.body <;> simp_all
                simp only [execOp, hop, resolve, hcal, hgv, Deferred.ofValue, Sem.run_bind, Sem.run_pure, Result.andThen_ok, invoke, Array.empty_append]
                simp only [callFunc, Sem.run_bind, run_program, Result.andThen_ok, hfn, hname', hb', Bool.false_eq_true, if_false, Sem.run_pure]
              rw [hrun]
              refine ⟨fun hd => (by rw [hF.depth] at hd; cases hd), CallsIn.mono (hC F (n - 1) hF μ _ w hargs h) fun e w' hp => ?_⟩
              obtain ⟨u, μ', rfl, hr, hh, hs⟩ := hp
              exact hn μ' w' u hh hs hr
          · rename_i l
            cases h1 with
            | yield hl =>
              rename_i loc
              have hargs : VRs μ vs (c.args.map a.eval).toList := by
                simp only [Array.toList_map]
                exact h2
              obtain ⟨f, tmps, asg, body, hy, hround⟩ := hR.yld hcall F (n - 1) hF μ _ w hargs h loc hl
              have hrun : (execOp a.eval o).run P w = .ok (.round loc.b f tmps asg body) w := by
                simp only [execOp, hop, resolve, hcal, hgv, Deferred.ofValue, Sem.run_bind, Sem.run_pure, Result.andThen_ok, invoke, Array.empty_append]
                exact hy
              rw [hrun]
              refine ⟨fun hd => (by rw [hF.depth] at hd; cases hd), RoundIn.mono hround fun e w' hp => ?_⟩
              obtain ⟨u, μ', rfl, hr, hh, hs⟩ := hp
              exact hn μ' w' u hh hs hr
        · cases hx
      · exact byE (hop ▸ hx)
    · exact byE hx
theorem put_res {μ : Mu} {o : Oper} {s s' : FSt} {v : Option LV} (hp : putL o s v = some s') {a : Act} {u : Value} (hf : FR μ s a.tmps) (hr : ResR μ v u) : FR μ s' (a.put o.dst u).tmps := by
  cases v with
  | none =>
    simp only [putL] at hp
    split at hp
    · rename_i hd
      obtain rfl := Option.some.inj hp
      rw [hd]
      exact hf
    · cases hp
  | some x =>
    simp only [putL] at hp
    exact hf.put hp hr a.defers
theorem guard_is {ops : Array Oper} {s : FSt} {o : Oper} {b : Bool} (h : guardL ops s o = some b) {μ : Mu} {a : Act} (hf : FR μ s a.tmps) : Region.wanted o (yielded ops a.tmps) = b := by
  unfold guardL at h
  unfold Region.wanted
  split at h
  · rename_i hg; rw [hg]; exact Option.some.inj h
  · rename_i j want hg
    rw [hg]
    simp only [yielded]
    split at h
    · rename_i d hd
      rw [hd]
      simp only [Option.bind_some]
      split at h
      · rename_i c hc
        obtain ⟨v, hv, hr⟩ := hf.some_ d _ hc
        cases hr
        rw [hv]
        obtain rfl := Option.some.inj h
        simp only
        cases c <;> cases want <;> rfl
      · cases h
      · rename_i hc
        obtain rfl := Option.some.inj h
        by_cases hd2 : d < s.n
        · rw [hf.none_ d hd2 hc]
          rfl
        · rw [Array.getElem?_eq_none (by rw [hf.size]; exact Nat.le_of_not_lt hd2)]
          rfl
    · rename_i hd
      rw [hd]
      obtain rfl := Option.some.inj h
      rfl
theorem put_defers (a : Act) (d : Option Nat) (v : Value) : (a.put d v).defers = a.defers := by cases d <;> rfl
theorem ops_sound (hG : GOK B G) (hR : Snd P B G R) {ops : Array Oper} {F : Fence} {n : Nat} (hF : Wd F) {Q : Exit → Act → World → Prop} : ∀ (l : List Oper) (s : FSt) (σ : H) (s' : FSt) (σ' : H), opsL P R ops l s σ = some (s', σ') →
    ∀ (μ : Mu) (a : Act) (w : World), FR μ s a.tmps → HR B G μ σ w → (∀ a' w', PostC B G μ σ w a.defers s' σ' a' w' → Q .normal a' w') → wpListIn F n P ops Q l a w := by
  intro l
  induction l with
  | nil =>
    intro s σ s' σ' hx μ a w hf h hq
    simp only [opsL] at hx
    obtain ⟨rfl, rfl⟩ := Prod.mk.inj (Option.some.inj hx)
    exact hq a w ⟨μ, hf, h, .refl _ _ _, [], rfl, .nil _ _ _ _, List.nodup_nil⟩
  | cons o l ih =>
    intro s σ s' σ' hx μ a w hf h hq
    simp only [opsL] at hx
    simp only [wpListIn]
    split at hx
    · rename_i hg
      rw [guard_is hg hf]
      split at hx
      · rename_i v σ1 hop
        split at hx
        · rename_i s1 hput
          simp only [if_true]
          refine oper_sound hG hR hop hF (eval_vr hf) h fun μ' w' u hh hs hr => ?_
          refine ih s1 σ1 s' σ' hx μ' (a.put o.dst u) w' (put_res hput (hf.mono hs.le) hr) hh fun a' w'' hp => hq a' w'' ?_
          obtain ⟨μ2, p1, p2, p3, ms, p4, p5, p6⟩ := hp
          exact ⟨μ2, p1, p2, hs.trans p3, ms, by rw [p4, put_defers], p5.low hs.size, p6⟩
        · cases hx
      · cases hx
    · rename_i hg
      rw [guard_is hg hf]
      split at hx
      · rename_i s1 hclr
        simp only [Bool.false_eq_true, if_false]
        refine ⟨fun f _ => hF.fn f, ih s1 σ s' σ' hx μ (a.put o.dst undef) w (hf.clr hclr a.defers) h fun a' w'' hp => hq a' w'' ?_⟩
        obtain ⟨μ2, p1, p2, p3, ms, p4, p5, p6⟩ := hp
        exact ⟨μ2, p1, p2, p3, ms, by rw [p4, put_defers], p5, p6⟩
      · cases hx
    · cases hx
end
end Go.LZ
end
