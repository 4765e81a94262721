/- Part 1 of the texts that this claim needs. No conditions. -/
import Derived.Calls
import Derived.Below
import Derived.Laws.Sem
import Derived.Laws.Cells
import Derived.Laws.World
import Derived.Laws.Strings
import Derived.Lib.Strings
import Derived.Laws.Rows
import Derived.Laws.MakeOwn
import Derived.Deep.AppendSrc
import Derived.Deep.Upon
import Derived.Lib.AppendZeros
import Derived.Laws.BytesArg
import Derived.Laws.IdiomStrings
import Derived.ChangeKeysEq
/- The abstract machine: a plain evaluator of compiled Go code on an abstract heap. No program in sight. -/
namespace Go.Proofs.Ytildhljhbbhmmaa.AM
open Go
set_option linter.all false

/-- A block of the abstract heap: its cells, how many cells an element of a slice of it has, and whether it is only read. -/
structure Blk where
  cells : List Value
  es : Nat
  ro : Bool

/-- The abstract heap. low: no block below it was touched. -/
structure AH where
  blks : List (Option Blk)
  low : Nat

namespace AH
def next (H : AH) : Nat := H.blks.length
def get (H : AH) (id : Nat) : Option Blk := (H.blks[id]?).join
def push (H : AH) (b : Blk) : AH := { H with blks := H.blks ++ [some b] }
def set (H : AH) (id : Nat) (b : Option Blk) : AH := { blks := H.blks.set id b, low := min H.low id }
/-- The heap at the head of a call. -/
def enter (H : AH) : AH := { H with low := H.next }
end AH

abbrev Fr := Nat → Value
def upd (f : Fr) (d : Nat) (v : Value) : Fr := fun t => if t = d then v else f t
def ev (f : Fr) : Operand → Value
  | .tmp t => f t
  | .const v => v
  | .global g => .pointer (some ⟨g, 0, none⟩)
  | .func g => .func (.func g) #[] #[]

/-- Values that hold no address: in one cell; in a row of cells; several of them. -/
def p1 : Value → Bool
  | .bool _ | .int _ _ | .float _ _ | .complex _ _ _ | .string _ | .nilFunc | .nilIface => true
  | .pointer none => true
  | .slice none _ _ => true
  | .map none => true
  | .chan none => true
  | .func _ a b => a.isEmpty && b.isEmpty
  | _ => false
def p2 : Value → Bool
  | .agg cs => cs.toList.all p1
  | v => p1 v
def p3 : Value → Bool
  | .tuple vs => vs.toList.all p2
  | v => p2 v
/-- What may lie in one cell. -/
def one : Value → Bool
  | .agg _ | .tuple _ => false
  | _ => true

/-- What two operands are. -/
inductive TK where
  | int | bool | str | ptr | slc | fnc | ifc
/-- Compiled operations. -/
inductive MI where
  | mov (x : Operand)
  | pick (c a b : Operand)
  | bin (tk : TK) (op : BinOp) (x y : Operand)
  | eqc (neq : Bool) (offs : List (Nat × TK)) (x y : Operand)
  | un (op : UnOp) (x : Operand)
  | conv (k : IntKind) (x : Operand)
  | strMov (x : Operand)
  | toStr (x : Operand)
  | toBytes (x : Operand)
  | alloc (zero : List Value) (es : Nat)
  | box (es : Nat) (x : Operand)
  | build (zero : List Value) (parts : List (Nat × Nat × Operand))
  | buildSlice (zero : List Value) (es len : Nat) (parts : List (Nat × Nat × Operand))
  | load (agg : Bool) (n : Nat) (a : Operand)
  | store (n : Nat) (a x : Operand)
  | storeX (n : Nat) (a x : Operand) (far : List Tmp)     -- a store into another block than these addresses'
  | nilCheck (x : Operand)
  | addOff (off : Nat) (x : Operand)
  | idxS (es : Nat) (x i : Operand)
  | idxA (len es : Nat) (x i : Operand)
  | field (agg : Bool) (off n : Nat) (x : Operand)
  | strIdx (x i : Operand)
  | arrIdx (agg : Bool) (len es : Nat) (x i : Operand)
  | sliceStr (x : Operand) (lo hi : Option Operand)
  | sliceS (es : Nat) (x : Operand) (lo hi : Option Operand)
  | sliceA (len es : Nat) (x : Operand) (lo hi : Option Operand)
  | toArr (n : Nat) (x : Operand)
  | mkIface (t : TypeId) (x : Operand)
  | mkFunc (fn : Fn) (first captured : List Operand)
  | mkSlice (zero : List Value) (es bytes : Nat) (l c : Operand)
  | extract (x : Operand) (i : Nat)
  | call (pure_ : Bool) (f : Operand) (args : List Operand)
  | append (es bytes : Nat) (s x : Operand)
  | appendZ (zero : List Value) (es bytes : Nat) (s x : Operand)
  | copy (es : Nat) (d s : Operand)
  | len (x : Operand)
  | lenStr (x : Operand)
  | lenC (n : Nat)
  | cap (x : Operand)
  | min (x : Operand) (xs : List Operand)
  | max (x : Operand) (xs : List Operand)
  | uString (x n : Operand)
  | uData (x : Operand)
  | mkMap
  | newMap     -- a map, which nobody reads
  | boxDead (x : Operand)     -- a new variable, which nobody reads
  | callL (f : Operand) (args : List Operand)     -- a call that looks at no block

structure MOp where
  dst : Option Tmp
  guard : Option (Tmp × Bool)
  old : Bool     -- it may only read blocks that are older than its region
  op : MI

inductive MCode where
  | skip
  | ops (l : List MOp)
  | opsD (l : List MOp)     -- a region of open order
  | seq (a b : MCode)
  | cond (c : Operand) (a b : MCode)
  | block (id : Nat) (a : MCode)
  | loop (a : MCode)
  | exit (id : Nat)
  | ret

inductive Ex where
  | normal
  | exit (id : Nat)
  | ret

/-! ### What the operations compute -/
def bitsK (op : BinOp) (k : IntKind) (x y : Int) : Int :=
  match op with
  | .and => k.wrap (BitVec.ofInt k.bits x &&& BitVec.ofInt k.bits y).toNat
  | .or => k.wrap (BitVec.ofInt k.bits x ||| BitVec.ofInt k.bits y).toNat
  | .xor => k.wrap (BitVec.ofInt k.bits x ^^^ BitVec.ofInt k.bits y).toNat
  | _ => k.wrap (BitVec.ofInt k.bits x &&& ~~~(BitVec.ofInt k.bits y)).toNat
def shiftK (op : BinOp) (k : IntKind) (x y : Int) : Int :=
  match op with
  | .shl => k.wrap (x * 2 ^ (Nat.min y.toNat k.bits))
  | _ => x.fdiv (2 ^ (Nat.min y.toNat k.bits))
/-- A comparison with nil. -/
def eqNil (a b : Option Addr) : Option Bool :=
  match a, b with
  | none, b => some b.isNone
  | some _, none => some false
  | _, _ => none
def eqOp (op : BinOp) (t : Option Bool) : Option Value :=
  match op, t with
  | .eql, some b => some (.bool b)
  | .neq, some b => some (.bool (!b))
  | _, _ => none
def strBin (op : BinOp) (a b : ByteArray) : Option Value :=
  match op with
  | .add => if a.size + b.size ≤ 9223372036854775807 then some (.string (a ++ b)) else none
  | .eql => some (.bool (decide (a = b)))
  | .neq => some (.bool (!decide (a = b)))
  | _ => none
def intBin (op : BinOp) (k : IntKind) (a b : Int) : Option Value :=
  match op with
  | .add => some (.int k (k.wrap (a + b)))
  | .sub => some (.int k (k.wrap (a - b)))
  | .mul => some (.int k (k.wrap (a * b)))
  | .quo => if b = 0 then none else some (.int k (k.wrap (a.tdiv b)))
  | .rem => if b = 0 then none else some (.int k (a.tmod b))
  | .eql => some (.bool (decide (a = b)))
  | .neq => some (.bool (!decide (a = b)))
  | .lss => some (.bool (decide (a < b)))
  | .leq => some (.bool (decide (a ≤ b)))
  | .gtr => some (.bool (decide (b < a)))
  | .geq => some (.bool (decide (b ≤ a)))
  | .and => some (.int k (bitsK .and k a b))
  | .or => some (.int k (bitsK .or k a b))
  | .xor => some (.int k (bitsK .xor k a b))
  | .andNot => some (.int k (bitsK .andNot k a b))
  | _ => none
def shBin (op : BinOp) (k : IntKind) (a b : Int) : Option Value := if b < 0 then none else some (.int k (shiftK op k a b))
def binV (tk : TK) (op : BinOp) (x y : Value) : Option Value :=
  match tk, x, y with
  | .int, .int k a, .int k' b =>
    match op with
    | .shl => shBin .shl k a b
    | .shr => shBin .shr k a b
    | op => if k = k' then intBin op k a b else none
  | .bool, .bool a, .bool b => eqOp op (some (a == b))
  | .str, .string a, .string b => strBin op a b
  | .ptr, .pointer a, .pointer b => eqOp op (eqNil a b)
  | .slc, .slice a _ _, .slice b _ _ => eqOp op (eqNil a b)
  | .fnc, .nilFunc, .nilFunc => eqOp op (some true)
  | .fnc, .nilFunc, .func _ _ _ => eqOp op (some false)
  | .fnc, .func _ _ _, .nilFunc => eqOp op (some false)
  | .ifc, .nilIface, .iface _ _ => eqOp op (some false)
  | .ifc, .iface _ _, .nilIface => eqOp op (some false)
  | _, _, _ => none
def unV (op : UnOp) (x : Value) : Option Value :=
  match op, x with
  | .not, .bool b => some (.bool (!b))
  | .neg, .int k n => some (.int k (k.wrap (0 - n)))
  | .xor, .int k n => some (.int k (bitsK .xor k (if k.signed then -1 else k.max) n))
  | _, _ => none
/-- Two cells that can be compared are the same. -/
def cellEq : TK → Value → Value → Option Bool
  | .int, .int k a, .int k' b => if k = k' then some (decide (a = b)) else none
  | .bool, .bool a, .bool b => some (a == b)
  | .str, .string a, .string b => some (decide (a = b))
  | _, _, _ => none
def eqAt (a b : List Value) : List (Nat × TK) → Option Bool
  | [] => some true
  | (o, k) :: r => match a[o]?, b[o]? with
    | some x, some y => (match cellEq k x y, eqAt a b r with
      | some p, some q => some (p && q)
      | _, _ => none)
    | _, _ => none
def byteOf : Value → Option UInt8
  | .int .u8 n => some (UInt8.ofNat n.toNat)
  | _ => none
def bytesOf : List Value → Option (List UInt8)
  | [] => some []
  | v :: l => match byteOf v, bytesOf l with
    | some b, some bs => some (b :: bs)
    | _, _ => none
def byteCells (s : ByteArray) : List Value := s.data.toList.map fun b => .int .u8 b.toNat
def splice : List Value → Nat → List Value → List Value
  | l, _, [] => l
  | l, off, v :: vs => splice (l.set off v) (off + 1) vs
def fillC : List Value → List (Nat × Nat × Value) → Option (List Value)
  | cs, [] => some cs
  | cs, (off, n, v) :: r => if v.cells.size = n ∧ off + n ≤ cs.length then fillC (splice cs off v.cells.toList) r else none
def ldc (H : AH) (a : Addr) (n : Nat) : Option (List Value) :=
  match H.get a.block with
  | some b => if a.off + n ≤ b.cells.length then some ((b.cells.drop a.off).take n) else none
  | none => none
def stU (H : AH) (a : Addr) (vs : List Value) : Option AH :=
  match H.get a.block with
  | some b => if b.ro = false ∧ a.off + vs.length ≤ b.cells.length then some (H.set a.block (some { b with cells := splice b.cells a.off vs })) else none
  | none => none
def stc (H : AH) (a : Addr) (vs : List Value) : Option AH := if vs.all one = true then stU H a vs else none
def addA (a : Addr) (n : Nat) : Addr := ⟨a.block, a.off + n, none⟩
def asNat (v : Value) : Option Nat :=
  match v with
  | .int _ n => if 0 ≤ n then some n.toNat else none
  | _ => none
def bound (f : Fr) (x : Option Operand) (dflt : Nat) (most : Nat) : Option Nat :=
  match x with
  | none => some dflt
  | some o => match asNat (ev f o) with
    | some n => if n ≤ most then some n else none
    | none => none
def oneOf (agg : Bool) (cs : List Value) : Option Value :=
  if agg then some (.agg cs.toArray) else
  match cs with
  | [v] => some v
  | _ => none
def rep (n : Nat) : List Value → List Value
  | [z] => List.replicate n z
  | zs => (List.replicate n zs).flatten
/-- Of an empty slice nothing is read. -/
def orZ (n : Nat) (o : Option (Nat × List Value)) : Option (Nat × List Value) :=
  match o with
  | some x => some x
  | none => if n = 0 then some (0, []) else none
/-- What an append adds: its cells. -/
def added (H : AH) (es : Nat) (v : Value) : Option (Nat × List Value) :=
  match v with
  | .slice none n _ => if n = 0 then some (0, []) else none
  | .slice (some a) n _ => orZ n (match ldc H a (n * es) with | some l => some (n, l) | none => none)
  | .string s => if es = 1 then some (s.size, byteCells s) else none
  | _ => none
def lenV : Value → Option Nat
  | .slice _ n _ => some n
  | .string s => some s.size
  | _ => none
/-- The cells of the first n elements. -/
def firstV (H : AH) (es n : Nat) : Value → Option (List Value)
  | .slice (some a) m _ => if n ≤ m then ldc H a (n * es) else none
  | .string s => if es = 1 ∧ n ≤ s.size then some ((byteCells s).take n) else none
  | _ => none
/-- Behind an append of k elements, whose cells are new. -/
def appended (H : AH) (es bytes : Nat) (s : Value) (k : Nat) (new : List Value) : Option (Value × AH) :=
  match s with
  | .slice none n c =>
    if n = 0 ∧ c = 0 then
      if k = 0 then some (.slice none 0 0, H)
      else if k * bytes ≤ 140737488355328 then some (.slice (some ⟨H.next, 0, none⟩) k k, H.push ⟨new, es, false⟩) else none
    else none
  | .slice (some a) n c =>
    match H.get a.block with
    | none => none
    | some b =>
      if b.es = es ∧ b.ro = false then
        if n + k ≤ c then
          match stU H (addA a (n * es)) new with
          | some H' => some (.slice (some a) (n + k) c, H')
          | none => none
        else match ldc H a (n * es) with
          | some old => if (n + k) * bytes ≤ 140737488355328 then some (.slice (some ⟨H.next, 0, none⟩) (n + k) (n + k), (H.set a.block none).push ⟨old ++ new, es, false⟩) else none
          | none => none
      else if k = 0 ∧ n ≤ c then some (.slice (some a) n c, H) else none
  | _ => none
def minV : Value → Value → Option Value
  | .int k x, .int _ y => some (.int k (if y < x then y else x))
  | _, _ => none
def maxV : Value → Value → Option Value
  | .int k x, .int _ y => some (.int k (if x < y then y else x))
  | _, _ => none
def foldV (g : Value → Value → Option Value) : Value → List Value → Option Value
  | v, [] => some v
  | v, w :: l => match g v w with | some u => foldV g u l | none => none

/-- These addresses lead into other blocks than this one. -/
def farB (f : Fr) (far : List Tmp) (b : Nat) : Bool := far.all fun t => match f t with | .pointer (some q) => decide (q.block ≠ b) | _ => false
/-- An operation that is no call. -/
def evM (m : MI) (f : Fr) (H : AH) : Option (Value × AH) :=
  match m with
  | .mov x => some (ev f x, H)
  | .pick c a b => match ev f c with | .bool t => some (if t = true then ev f a else ev f b, H) | _ => none
  | .bin tk op x y => match binV tk op (ev f x) (ev f y) with | some v => some (v, H) | none => none
  | .eqc neq offs x y => match ev f x, ev f y with
    | .agg a, .agg b => (match eqAt a.toList b.toList offs with | some t => some (.bool (if neq = true then !t else t), H) | none => none)
    | _, _ => none
  | .un op x => match unV op (ev f x) with | some v => some (v, H) | none => none
  | .conv k x => match ev f x with | .int _ n => some (.int k (k.wrap n), H) | _ => none
  | .strMov x => match ev f x with | .string s => some (.string s, H) | _ => none
  | .toStr x => match ev f x with
    | .slice none _ _ => some (.string ⟨#[]⟩, H)
    | .slice (some a) n _ => (match ldc H a n with
      | some l => (match bytesOf l with | some bs => some (.string ⟨bs.toArray⟩, H) | none => none)
      | none => none)
    | _ => none
  | .toBytes x => match ev f x with
    | .string s => if s.size ≤ 140737488355328 then some (.slice (some ⟨H.next, 0, none⟩) s.size s.size, H.push ⟨byteCells s, 1, false⟩) else none
    | _ => none
  | .alloc zero es => some (.pointer (some ⟨H.next, 0, none⟩), H.push ⟨zero, es, false⟩)
  | .box es x => if (ev f x).cells.toList.all one = true then some (.pointer (some ⟨H.next, 0, none⟩), H.push ⟨(ev f x).cells.toList, es, false⟩) else none
  | .build zero parts => match fillC zero (parts.map fun p => (p.1, p.2.1, ev f p.2.2)) with | some cs => some (.agg cs.toArray, H) | none => none
  | .buildSlice zero es len parts => match fillC zero (parts.map fun p => (p.1, p.2.1, ev f p.2.2)) with
    | some cs => if cs.all one = true then some (.slice (some ⟨H.next, 0, none⟩) len len, H.push ⟨cs, es, false⟩) else none
    | none => none
  | .load agg n a => match ev f a with
    | .pointer (some p) => (match ldc H p n with | some cs => (match oneOf agg cs with | some v => some (v, H) | none => none) | none => none)
    | _ => none
  | .store n a x => match ev f a with
    | .pointer (some p) => if (ev f x).cells.size = n then (match stc H p (ev f x).cells.toList with | some H' => some (undef, H') | none => none) else none
    | _ => none
  | .storeX n a x far => match ev f a with
    | .pointer (some p) => if farB f far p.block = true then (if (ev f x).cells.size = n then (match stc H p (ev f x).cells.toList with | some H' => some (undef, H') | none => none) else none) else none
    | _ => none
  | .nilCheck x => match ev f x with
    | .pointer (some p) => some (.pointer (some p), H)
    | .func (.func g) a b => some (.func (.func g) a b, H)
    | _ => none
  | .addOff off x => match ev f x with
    | .pointer (some p) => some (.pointer (some (addA p off)), H)
    | _ => none
  | .idxS es x i => match ev f x, ev f i with
    | .slice (some a) n _, .int _ j => if 0 ≤ j ∧ j < n then some (.pointer (some (addA a (j.toNat * es))), H) else none
    | _, _ => none
  | .idxA len es x i => match ev f x, ev f i with
    | .pointer (some a), .int _ j => if 0 ≤ j ∧ j < len then some (.pointer (some (addA a (j.toNat * es))), H) else none
    | _, _ => none
  | .field agg off n x => match ev f x with
    | .agg cs => if off + n ≤ cs.size then (match oneOf agg ((cs.toList.drop off).take n) with | some v => some (v, H) | none => none) else none
    | _ => none
  | .strIdx x i => match ev f x, ev f i with
    | .string s, .int _ j => if 0 ≤ j ∧ j < s.size then some (.int .u8 (s.data.toList.getD j.toNat 0).toNat, H) else none
    | _, _ => none
  | .arrIdx agg len es x i => match ev f x, ev f i with
    | .agg cs, .int _ j => if 0 ≤ j ∧ j < len ∧ j.toNat * es + es ≤ cs.size then (match oneOf agg ((cs.toList.drop (j.toNat * es)).take es) with | some v => some (v, H) | none => none) else none
    | _, _ => none
  | .sliceStr x lo hi => match ev f x with
    | .string s => (match bound f hi s.size s.size with
      | some h => (match bound f lo 0 h with | some l => some (.string (s.extract l h), H) | none => none)
      | none => none)
    | _ => none
  | .sliceS es x lo hi => match ev f x with
    | .slice a n c => (match bound f hi n c with
      | some h => (match bound f lo 0 h with
        | some l => if h ≤ c then (match a with
          | none => some (.slice none (h - l) (c - l), H)
          | some p => (match H.get p.block with
            | some b => if b.es = es then
                if l = 0 then some (.slice (some p) h c, H)
                else if l < c then some (.slice (some (addA p (l * es))) (h - l) (c - l), H)
                else if H.get 0 = none then some (.slice (some ⟨0, 0, none⟩) 0 0, H) else none
              else none
            | none => none)) else none
        | none => none)
      | none => none)
    | _ => none
  | .sliceA len es x lo hi => match ev f x with
    | .pointer (some p) => (match bound f hi len len with
      | some h => (match bound f lo 0 h with
        | some l => (match H.get p.block with
          | some b => if b.es = es ∧ p.off + len * es ≤ b.cells.length then some (.slice (some (if len = l then p else addA p (l * es))) (h - l) (len - l), H) else none
          | none => none)
        | none => none)
      | none => none)
    | _ => none
  | .toArr n x => match ev f x with
    | .slice (some a) l _ => if n ≤ l then some (.pointer (some a), H) else none
    | _ => none
  | .mkIface t x => some (.iface t (ev f x), H)
  | .mkFunc fn first captured => some (.func fn (first.map (ev f)).toArray (captured.map (ev f)).toArray, H)
  | .mkSlice zero es bytes l c => match ev f l, ev f c with
    | .int _ n, .int _ m => if 0 ≤ n ∧ n ≤ m ∧ m.toNat * bytes ≤ 140737488355328 ∧ m ≤ 9223372036854775807 then some (.slice (some ⟨H.next, 0, none⟩) n.toNat m.toNat, H.push ⟨rep m.toNat zero, es, false⟩) else none
    | _, _ => none
  | .extract x i => match ev f x with
    | .tuple vs => (match vs[i]? with | some v => some (v, H) | none => none)
    | _ => none
  | .call _ _ _ => none
  | .callL _ _ => none
  | .append es bytes s x => match added H es (ev f x) with
    | some (k, new) => appended H es bytes (ev f s) k new
    | none => none
  | .appendZ zero es bytes s x => match ev f x with
    | .int _ n => if 0 ≤ n ∧ n ≤ 140737488355328 then appended H es bytes (ev f s) n.toNat (rep n.toNat zero) else none
    | _ => none
  | .copy es d s => match ev f d, lenV (ev f s) with
    | .slice (some a) n _, some k => (match firstV H es (Nat.min k n) (ev f s) with
      | some new => (match stU H a new with | some H' => some (.int .i64 (Nat.min k n), H') | none => none)
      | none => none)
    | _, _ => none
  | .len x => match ev f x with
    | .slice _ n _ => some (.int .i64 n, H)
    | _ => none
  | .lenStr x => match ev f x with
    | .string s => some (.int .i64 s.size, H)
    | _ => none
  | .lenC n => some (.int .i64 n, H)
  | .cap x => match ev f x with
    | .slice none _ c => some (.int .i64 c, H)
    | _ => none
  | .min x xs => match foldV minV (ev f x) (xs.map (ev f)) with | some v => some (v, H) | none => none
  | .max x xs => match foldV maxV (ev f x) (xs.map (ev f)) with | some v => some (v, H) | none => none
  | .uString x n => none
  | .uData x => none
  | .mkMap => none
  | .newMap => some (.map (some 0), H)
  | .boxDead _ => if 0 < H.next ∧ (H.get 0).isNone = true then some (.pointer (some ⟨0, 0, none⟩), H) else none

/-! ### Calls -/
def callee (f : Fr) (g : Operand) (args : List Operand) : Option (FuncId × List Value) :=
  match ev f g with
  | .func (.func n) first captured => some (n, first.toList ++ args.map (ev f) ++ captured.toList)
  | _ => none
/-- The blocks of a result are moved behind the old ones. -/
def moveV (H H1 : AH) (k : Nat) : Value → Option (Value × List (Option Blk))
  | .slice (some a) n c =>
    if a.block < H.next then some (.slice (some a) n c, []) else
    match H1.get a.block with
    | some b => if b.cells.all p1 = true then some (.slice (some ⟨k, a.off, none⟩) n c, [some b]) else none
    | none => none
  | .pointer (some a) =>
    if a.block < H.next then some (.pointer (some a), []) else
    match H1.get a.block with
    | some b => if b.cells.all p1 = true then some (.pointer (some ⟨k, a.off, none⟩), [some b]) else none
    | none => none
  | v => if p2 v = true then some (v, []) else none
def back (H H1 : AH) (v : Value) : Value × AH :=
  if H1.low < H.next then (v, { H1 with low := min H.low H1.low })
  else if p3 v = true then (v, H)
  else match v with
    | .tuple vs => (match vs.toList with
      | [x, y] => (match moveV H H1 H.next x with
        | some (x', bs) => if p2 y = true then (.tuple #[x', y], { H with blks := H.blks ++ bs }) else (v, { H1 with low := H.low })
        | none => (v, { H1 with low := H.low }))
      | _ => (v, { H1 with low := H.low }))
    | v => (match moveV H H1 H.next v with
      | some (v', bs) => (v', { H with blks := H.blks ++ bs })
      | none => (v, { H1 with low := H.low }))

/-- A heap with nothing in it. -/
def AH.lone : AH := ⟨[none], 1⟩
abbrev CallH := FuncId → List Value → AH → Option (Value × AH)
def evOp (call : CallH) (m : MI) (f : Fr) (H : AH) : Option (Value × AH) :=
  match m with
  | .call pu g args => (match callee f g args with
    | some (n, vs) =>
      if pu = true then (match call n vs H.enter with
        | some (v, H') => if H'.low = H.next then some (v, { H' with low := H.low }) else none
        | none => none)
      else call n vs H
    | none => none)
  | .callL g args => (match callee f g args with
    | some (n, vs) => if vs.all p1 = true then (match call n vs AH.lone with
        | some (v, _) => if p3 v = true then some (v, H) else none
        | none => none) else none
    | none => none)
  | m => evM m f H
def blkOf : Value → List Nat
  | .pointer (some a) => [a.block]
  | .slice (some a) _ _ => [a.block]
  | _ => []
/-- The blocks that an operation reads. -/
def MI.rdBlk (m : MI) (f : Fr) : List Nat :=
  match m with
  | .load _ _ a => blkOf (ev f a)
  | .toStr x => blkOf (ev f x)
  | .sliceS _ x _ _ => blkOf (ev f x)
  | .sliceA _ _ x _ _ => blkOf (ev f x)
  | .boxDead _ => [0]
  | _ => []
def put (f : Fr) (d : Option Tmp) (v : Value) : Fr :=
  match d with
  | some d => upd f d v
  | none => f
def evG (call : CallH) (bs : Nat) (o : MOp) (f : Fr) (H : AH) : Option (Value × AH) :=
  if o.old = true then (if (o.op.rdBlk f).all (fun b => decide (b < bs)) = true then evOp call o.op f H else none) else evOp call o.op f H
/-- One operation with its guard. -/
def evV (call : CallH) (bs : Nat) (o : MOp) (f : Fr) (H : AH) : Option (Value × AH) :=
  match o.guard with
  | none => evG call bs o f H
  | some (t, want) => match f t with
    | .bool b => if b = want then evG call bs o f H else some (undef, H)
    | .tuple _ => some (undef, H)
    | _ => none
def evMOp (call : CallH) (bs : Nat) (o : MOp) (f : Fr) (H : AH) : Option (Fr × AH) :=
  match evV call bs o f H with
  | some (v, H') => some (put f o.dst v, H')
  | none => none
def evOps (call : CallH) (bs : Nat) : List MOp → Fr → AH → Option (Fr × AH)
  | [], f, H => some (f, H)
  | o :: l, f, H => match evMOp call bs o f H with
    | some (f', H') => evOps call bs l f' H'
    | none => none

def iter (b : Fr → AH → Option (Ex × Fr × AH)) : Nat → Fr → AH → Option (Ex × Fr × AH)
  | 0, _, _ => none
  | n + 1, f, H => match b f H with
    | some (.normal, f', H') => iter b n f' H'
    | r => r
def evC (call : CallH) (k : Nat) : MCode → Fr → AH → Option (Ex × Fr × AH)
  | .skip, f, H => some (.normal, f, H)
  | .ops l, f, H => match evOps call H.next l f H with | some (f', H') => some (.normal, f', H') | none => none
  | .opsD l, f, H => match evOps call H.next l f H with | some (f', H') => some (.normal, f', H') | none => none
  | .seq a b, f, H => match evC call k a f H with
    | some (.normal, f', H') => evC call k b f' H'
    | r => r
  | .cond c a b, f, H => match ev f c with
    | .bool t => if t = true then evC call k a f H else evC call k b f H
    | _ => none
  | .block id a, f, H => match evC call k a f H with
    | some (.exit i, f', H') => if i = id then some (.normal, f', H') else some (.exit i, f', H')
    | r => r
  | .loop a, f, H => iter (evC call k a) k f H
  | .exit id, f, H => some (.exit id, f, H)
  | .ret, f, H => some (.ret, f, H)

inductive MRes where
  | tmp (t : Tmp)
  | cell (a : Tmp) (agg : Bool) (n : Nat)
structure MFun where
  code : MCode
  results : List MRes
def resV (f : Fr) (H : AH) : MRes → Option Value
  | .tmp t => some (f t)
  | .cell a agg n => match f a with
    | .pointer (some p) => (match ldc H p n with | some cs => oneOf agg cs | none => none)
    | _ => none
def resL (f : Fr) (H : AH) : List MRes → Option (List Value)
  | [] => some []
  | r :: l => match resV f H r, resL f H l with
    | some v, some vs => some (v :: vs)
    | _, _ => none
def tupV : List Value → Value
  | [v] => v
  | vs => .tuple vs.toArray
def entry (args : List Value) : Fr := fun t => args.getD t undef
/-- A function: compiled, or told. -/
inductive Ent where
  | code (m : MFun)
  | nat (g : CallH → List Value → AH → Option (Value × AH))
abbrev Tbl := FuncId → Option Ent
def evF (tbl : Tbl) : Nat → FuncId → List Value → AH → Option (Value × AH)
  | 0, _, _, _ => none
  | k + 1, g, args, H => match tbl g with
    | none => none
    | some (.nat h) => h (evF tbl k) args H
    | some (.code m) => match evC (evF tbl k) (k + 1) m.code (entry args) H.enter with
      | some (.normal, f', H') => (match resL f' H' m.results with | some vs => some (back H H' (tupV vs)) | none => none)
      | some (.ret, f', H') => (match resL f' H' m.results with | some vs => some (back H H' (tupV vs)) | none => none)
      | _ => none

end Go.Proofs.Ytildhljhbbhmmaa.AM
/- The relation between the abstract heap and the model's world. -/
namespace Go.Proofs.Ytildhljhbbhmmaa.AM
open Go Go.RowKit
set_option linter.all false

/-- Where a block lies: its number, how far its first cell lies behind the row's head, how many cells the row has, how many an element has. -/
structure Loc where
  blk : Nat
  sh : Nat
  sz : Nat
  es : Nat
abbrev CMap := Nat → Option Loc

/-- An abstract value and the model's. -/
inductive VR (n : Nat) (c : CMap) : Value → Value → Prop
  | plain {v : Value} (h : p1 v = true) : VR n c v v
  | ptr {a : Addr} {l : Loc} (hn : a.block < n) (hc : c a.block = some l) (hs : a.spot = none) : VR n c (.pointer (some a)) (.pointer (some ⟨l.blk, l.sh + a.off, none⟩))
  | ptrDead {a a' : Addr} (hn : a.block < n) (hc : c a.block = none) : VR n c (.pointer (some a)) (.pointer (some a'))
  | slice {a : Addr} {l : Loc} {m k k' : Nat} (hn : a.block < n) (hc : c a.block = some l) (hs : a.spot = none) (hk : k ≤ k') (hb : l.sh + a.off + k' * l.es ≤ l.sz) : VR n c (.slice (some a) m k) (.slice (some ⟨l.blk, l.sh + a.off, none⟩) m k')
  | sliceDead {a a' : Addr} {m k k' : Nat} (hn : a.block < n) (hc : c a.block = none) : VR n c (.slice (some a) m k) (.slice (some a') m k')
  | func {fn : Fn} {f f' g g' : Array Value} (hf : f.size = f'.size) (hg : g.size = g'.size) (h1 : ∀ j, j < f.size → VR n c (f.getD j undef) (f'.getD j undef)) (h2 : ∀ j, j < g.size → VR n c (g.getD j undef) (g'.getD j undef)) : VR n c (.func fn f g) (.func fn f' g')
  | iface {t : TypeId} {v v' : Value} (h : VR n c v v') : VR n c (.iface t v) (.iface t v')
  | mapDead {a a' : Nat} : VR n c (.map (some a)) (.map (some a'))
  | agg {f f' : Array Value} (hf : f.size = f'.size) (h : ∀ j, j < f.size → VR n c (f.getD j undef) (f'.getD j undef)) : VR n c (.agg f) (.agg f')
  | tuple {f f' : Array Value} (hf : f.size = f'.size) (h : ∀ j, j < f.size → VR n c (f.getD j undef) (f'.getD j undef)) : VR n c (.tuple f) (.tuple f')

theorem VR.mono {n n' : Nat} {c c' : CMap} (hn : n ≤ n') (hc : ∀ id, id < n → c' id = c id ∨ c' id = none) {v v' : Value} (h : VR n c v v') : VR n' c' v v' := by
  induction h with
  | plain h => exact .plain h
  | @ptr a l h1 h2 h3 =>
    rcases hc _ h1 with e | e
    · exact .ptr (by omega) (by rw [e]; exact h2) h3
    · exact .ptrDead (by omega) e
  | @ptrDead a a' h1 h2 =>
    rcases hc _ h1 with e | e
    · exact .ptrDead (by omega) (by rw [e]; exact h2)
    · exact .ptrDead (by omega) e
  | @slice a l m k k' h1 h2 h3 h4 h5 =>
    rcases hc _ h1 with e | e
    · exact .slice (by omega) (by rw [e]; exact h2) h3 h4 h5
    · exact .sliceDead (by omega) e
  | @sliceDead a a' m k k' h1 h2 =>
    rcases hc _ h1 with e | e
    · exact .sliceDead (by omega) (by rw [e]; exact h2)
    · exact .sliceDead (by omega) e
  | func hf hg h1 h2 i1 i2 => exact .func hf hg i1 i2
  | iface h i => exact .iface i
  | mapDead => exact .mapDead
  | agg hf h i => exact .agg hf i
  | tuple hf h i => exact .tuple hf i

theorem p1_of_empty {f g : Array Value} {fn : Fn} (h : p1 (.func fn f g) = true) : f = #[] ∧ g = #[] := by
  simp only [p1, Bool.and_eq_true, Array.isEmpty_iff] at h; exact h
/-- What holds no address is itself. -/
theorem VR.eq1 {n : Nat} {c : CMap} {v v' : Value} (h : VR n c v v') (hp : p1 v = true) : v' = v := by
  cases h with
  | plain _ => rfl
  | ptr _ _ _ => simp [p1] at hp
  | ptrDead _ _ => simp [p1] at hp
  | slice _ _ _ _ _ => simp [p1] at hp
  | sliceDead _ _ => simp [p1] at hp
  | @func fn f f' g g' hf hg h1 h2 =>
    obtain ⟨rfl, rfl⟩ := p1_of_empty hp
    have e1 : f' = #[] := Array.eq_empty_of_size_eq_zero (by simpa using hf.symm)
    have e2 : g' = #[] := Array.eq_empty_of_size_eq_zero (by simpa using hg.symm)
    rw [e1, e2]
  | iface _ => simp [p1] at hp
  | mapDead => simp [p1] at hp
  | agg _ _ => simp [p1] at hp
  | tuple _ _ => simp [p1] at hp
theorem getD_get {l : Array Value} {j : Nat} (h : j < l.size) : l.getD j undef = l[j] := by simp [h]
theorem arr_ext {f f' : Array Value} (hf : f.size = f'.size) (h : ∀ j, j < f.size → f'.getD j undef = f.getD j undef) : f' = f := by
  apply Array.ext hf.symm
  intro i h1 h2
  have := h i h2
  rw [getD_get h2, getD_get h1] at this
  exact this
theorem all_getD {f : Array Value} {p : Value → Bool} (h : f.toList.all p = true) {j : Nat} (hj : j < f.size) : p (f.getD j undef) = true := by
  rw [getD_get hj]
  exact List.all_eq_true.1 h _ (by simp)
theorem VR.eq2 {n : Nat} {c : CMap} {v v' : Value} (h : VR n c v v') (hp : p2 v = true) : v' = v := by
  cases h with
  | plain _ => rfl
  | @agg f f' hf h => rw [arr_ext hf fun j hj => (h j hj).eq1 (all_getD hp hj)]
  | ptr h1 h2 h3 => exact (VR.ptr h1 h2 h3).eq1 hp
  | ptrDead h1 h2 => simp [p2, p1] at hp
  | slice h1 h2 h3 h4 h5 => simp [p2, p1] at hp
  | sliceDead h1 h2 => simp [p2, p1] at hp
  | func hf hg h1 h2 => exact (VR.func hf hg h1 h2).eq1 hp
  | iface _ => simp [p2, p1] at hp
  | mapDead => simp [p2, p1] at hp
  | tuple _ _ => simp [p2, p1] at hp
theorem VR.eq3 {n : Nat} {c : CMap} {v v' : Value} (h : VR n c v v') (hp : p3 v = true) : v' = v := by
  cases h with
  | plain _ => rfl
  | @tuple f f' hf h => rw [arr_ext hf fun j hj => (h j hj).eq2 (all_getD hp hj)]
  | @agg f f' hf h => exact (VR.agg hf h).eq2 hp
  | ptr h1 h2 h3 => exact (VR.ptr h1 h2 h3).eq1 hp
  | ptrDead h1 h2 => simp [p3, p2, p1] at hp
  | slice h1 h2 h3 h4 h5 => simp [p3, p2, p1] at hp
  | sliceDead h1 h2 => simp [p3, p2, p1] at hp
  | func hf hg h1 h2 => exact (VR.func hf hg h1 h2).eq1 hp
  | iface _ => simp [p3, p2, p1] at hp
  | mapDead => simp [p3, p2, p1] at hp
theorem VR.of2 {n : Nat} {c : CMap} {v : Value} (hp : p2 v = true) : VR n c v v := by
  cases v <;> first
    | exact .plain hp
    | exact .agg rfl fun j hj => .plain (all_getD hp hj)
theorem VR.of3 {n : Nat} {c : CMap} {v : Value} (hp : p3 v = true) : VR n c v v := by
  cases v <;> first
    | exact .of2 hp
    | exact .tuple rfl fun j hj => .of2 (all_getD hp hj)
theorem VR.undef {n : Nat} {c : CMap} : VR n c Go.undef Go.undef := .of3 rfl

/-- What can lie in one cell keeps that. -/
theorem VR.one {n : Nat} {c : CMap} {v v' : Value} (h : VR n c v v') (ho : AM.one v = true) : v'.oneCell' = true := by
  cases h with
  | plain h => cases v <;> first | rfl | (simp [p1] at h)
  | _ => first | rfl | (simp [AM.one] at ho)

/-- Rows of values. -/
def VRL (n : Nat) (c : CMap) (l l' : List Value) : Prop := l.length = l'.length ∧ ∀ j, j < l.length → VR n c (l.getD j Go.undef) (l'.getD j Go.undef)
theorem VRL.mono {n n' : Nat} {c c' : CMap} (hn : n ≤ n') (hc : ∀ id, id < n → c' id = c id ∨ c' id = none) {l l' : List Value} (h : VRL n c l l') : VRL n' c' l l' :=
  ⟨h.1, fun j hj => (h.2 j hj).mono hn hc⟩
theorem VRL.nil {n : Nat} {c : CMap} : VRL n c [] [] := ⟨rfl, fun j hj => by simp at hj⟩
theorem VRL.cons {n : Nat} {c : CMap} {v v' : Value} {l l' : List Value} (h : VR n c v v') (hl : VRL n c l l') : VRL n c (v :: l) (v' :: l') := by
  refine ⟨by simp [hl.1], fun j hj => ?_⟩
  cases j with
  | zero => simpa using h
  | succ j => simpa using hl.2 j (by simpa using hj)
theorem VRL.uncons {n : Nat} {c : CMap} {v : Value} {l m : List Value} (h : VRL n c (v :: l) m) : ∃ v' l', m = v' :: l' ∧ VR n c v v' ∧ VRL n c l l' := by
  cases m with
  | nil => simp [VRL] at h
  | cons v' l' =>
    refine ⟨v', l', rfl, by simpa using h.2 0 (by simp), by simpa using h.1, fun j hj => ?_⟩
    simpa using h.2 (j + 1) (by simpa using hj)
theorem VRL.nil_inv {n : Nat} {c : CMap} {m : List Value} (h : VRL n c [] m) : m = [] := by
  have := h.1; simpa using this.symm
theorem VRL.map {n : Nat} {c : CMap} {α : Type} (l : List α) {f g : α → Value} (h : ∀ x ∈ l, VR n c (f x) (g x)) : VRL n c (l.map f) (l.map g) := by
  induction l with
  | nil => exact .nil
  | cons x l ih => exact .cons (h x (by simp)) (ih fun y hy => h y (by simp [hy]))
theorem VRL.append {n : Nat} {c : CMap} {l l' m m' : List Value} (h : VRL n c l l') (k : VRL n c m m') : VRL n c (l ++ m) (l' ++ m') := by
  induction l generalizing l' with
  | nil => rw [h.nil_inv]; exact k
  | cons v l ih =>
    obtain ⟨v', l'', rfl, h1, h2⟩ := h.uncons
    exact .cons h1 (ih h2)
theorem VRL.drop {n : Nat} {c : CMap} {l l' : List Value} (h : VRL n c l l') (k : Nat) : VRL n c (l.drop k) (l'.drop k) := by
  induction k generalizing l l' with
  | zero => exact h
  | succ k ih =>
    cases l with
    | nil => rw [h.nil_inv]; exact .nil
    | cons v l => obtain ⟨v', l'', rfl, h1, h2⟩ := h.uncons; exact ih h2
theorem VRL.take {n : Nat} {c : CMap} {l l' : List Value} (h : VRL n c l l') (k : Nat) : VRL n c (l.take k) (l'.take k) := by
  induction k generalizing l l' with
  | zero => exact .nil
  | succ k ih =>
    cases l with
    | nil => rw [h.nil_inv]; exact .nil
    | cons v l => obtain ⟨v', l'', rfl, h1, h2⟩ := h.uncons; exact .cons h1 (ih h2)
theorem VRL.set {n : Nat} {c : CMap} {l l' : List Value} (h : VRL n c l l') (k : Nat) {v v' : Value} (hv : VR n c v v') : VRL n c (l.set k v) (l'.set k v') := by
  induction k generalizing l l' with
  | zero =>
    cases l with
    | nil => rw [h.nil_inv]; exact .nil
    | cons x l => obtain ⟨y, l'', rfl, h1, h2⟩ := h.uncons; exact .cons hv h2
  | succ k ih =>
    cases l with
    | nil => rw [h.nil_inv]; exact .nil
    | cons x l => obtain ⟨y, l'', rfl, h1, h2⟩ := h.uncons; exact .cons h1 (ih h2)
theorem VRL.splice {n : Nat} {c : CMap} {vs vs' : List Value} : ∀ {l l' : List Value} (off : Nat), VRL n c l l' → VRL n c vs vs' → VRL n c (AM.splice l off vs) (AM.splice l' off vs') := by
  induction vs generalizing vs' with
  | nil => intro l l' off h k; rw [k.nil_inv]; exact h
  | cons v vs ih =>
    intro l l' off h k
    obtain ⟨v', vs'', rfl, h1, h2⟩ := k.uncons
    exact ih (off + 1) (h.set off h1) h2
theorem VRL.replicate {n : Nat} {c : CMap} {v v' : Value} (h : VR n c v v') (k : Nat) : VRL n c (List.replicate k v) (List.replicate k v') := by
  induction k with
  | zero => exact .nil
  | succ k ih => exact .cons h ih
theorem VRL.refl {n : Nat} {c : CMap} {l : List Value} (h : l.all p1 = true) : VRL n c l l := by
  induction l with
  | nil => exact .nil
  | cons v l ih => simp only [List.all_cons, Bool.and_eq_true] at h; exact .cons (.plain h.1) (ih h.2)
theorem VRL.eq1 {n : Nat} {c : CMap} {l l' : List Value} (h : VRL n c l l') (hp : l.all p1 = true) : l' = l := by
  induction l generalizing l' with
  | nil => exact h.nil_inv
  | cons v l ih =>
    obtain ⟨v', l'', rfl, h1, h2⟩ := h.uncons
    simp only [List.all_cons, Bool.and_eq_true] at hp
    rw [h1.eq1 hp.1, ih h2 hp.2]
theorem VRL.one {n : Nat} {c : CMap} {l l' : List Value} (h : VRL n c l l') (hp : l.all AM.one = true) : ∀ v ∈ l', v.oneCell' = true := by
  induction l generalizing l' with
  | nil => rw [h.nil_inv]; simp
  | cons v l ih =>
    obtain ⟨v', l'', rfl, h1, h2⟩ := h.uncons
    simp only [List.all_cons, Bool.and_eq_true] at hp
    intro x hx
    rcases List.mem_cons.1 hx with rfl | hx
    · exact h1.one hp.1
    · exact ih h2 hp.2 x hx
theorem VRL.agg {n : Nat} {c : CMap} {l l' : List Value} (h : VRL n c l l') : VR n c (.agg l.toArray) (.agg l'.toArray) :=
  .agg (by simpa using h.1) fun j hj => by simpa using h.2 j (by simpa using hj)
theorem VRL.of_agg {n : Nat} {c : CMap} {f : Array Value} {v' : Value} (h : VR n c (.agg f) v') : ∃ f', v' = .agg f' ∧ VRL n c f.toList f'.toList := by
  cases h with
  | plain h => simp [p1] at h
  | @agg f f' hf h => exact ⟨f', rfl, by simpa using hf, fun j hj => by simpa using h j (by simpa using hj)⟩
theorem VRL.of_tuple {n : Nat} {c : CMap} {f : Array Value} {v' : Value} (h : VR n c (.tuple f) v') : ∃ f', v' = .tuple f' ∧ VRL n c f.toList f'.toList := by
  cases h with
  | plain h => simp [p1] at h
  | @tuple f f' hf h => exact ⟨f', rfl, by simpa using hf, fun j hj => by simpa using h j (by simpa using hj)⟩
theorem VRL.tuple {n : Nat} {c : CMap} {l l' : List Value} (h : VRL n c l l') : VR n c (.tuple l.toArray) (.tuple l'.toArray) :=
  .tuple (by simpa using h.1) fun j hj => by simpa using h.2 j (by simpa using hj)
/-- A value's cells. -/
theorem VR.cells {n : Nat} {c : CMap} {v v' : Value} (h : VR n c v v') : VRL n c v.cells.toList v'.cells.toList := by
  cases h with
  | @agg f f' hf h => exact ⟨by simpa [Value.cells] using hf, fun j hj => by simpa [Value.cells] using h j (by simpa [Value.cells] using hj)⟩
  | plain h => cases v <;> first | exact .cons (.plain h) .nil | simp [p1] at h
  | ptr h1 h2 h3 => exact .cons (.ptr h1 h2 h3) .nil
  | ptrDead h1 h2 => exact .cons (.ptrDead h1 h2) .nil
  | slice h1 h2 h3 h4 h5 => exact .cons (.slice h1 h2 h3 h4 h5) .nil
  | sliceDead h1 h2 => exact .cons (.sliceDead h1 h2) .nil
  | func hf hg h1 h2 => exact .cons (.func hf hg h1 h2) .nil
  | iface h => exact .cons (.iface h) .nil
  | mapDead => exact .cons .mapDead .nil
  | tuple hf h => exact .cons (.tuple hf h) .nil

/-! ### The heap -/
structure BlkR (N : Nat) (c : CMap) (n : Nat) (b : Blk) (l : Loc) (w : World) : Prop where
  es : l.es = b.es
  ones : b.cells.all AM.one = true
  row : ∃ (cs : Array Value) (ty : TypeId) (fz : Nat × Nat) (mid : List Value), w.heap[l.blk]? = some (.cells cs ty fz) ∧ cs.size = l.sz ∧ (b.ro = false → N ≤ l.blk ∧ ∀ j, j < l.sz → ¬ (fz.1 ≤ j ∧ j < fz.2)) ∧ l.sh + b.cells.length ≤ l.sz ∧
    (∀ j, j < b.cells.length → cs[l.sh + j]? = some (mid.getD j Go.undef)) ∧ VRL n c b.cells mid
structure Sim (N : Nat) (c : CMap) (H : AH) (w : World) : Prop where
  live : ∀ id, (H.get id).isSome = (c id).isSome
  blk : ∀ id b l, H.get id = some b → c id = some l → BlkR N c H.next b l w
  inj : ∀ id id' b l l', id ≠ id' → H.get id = some b → b.ro = false → c id = some l → c id' = some l' → l.blk ≠ l'.blk
  size : N ≤ w.heap.size
structure ExtW (N : Nat) (c : CMap) (H : AH) (w : World) (c' : CMap) (H' : AH) (w' : World) : Prop where
  nx : H.next ≤ H'.next
  dom : ∀ id, id < H.next → c' id = c id ∨ c' id = none
  low : H'.low ≤ H.low
  same : ∀ id, id < H.next → id < H'.low → c' id = c id ∧ H'.get id = H.get id ∧ ∀ l, c id = some l → w'.heap[l.blk]? = w.heap[l.blk]?
  below : Below N w w'
theorem ExtW.refl (N : Nat) (c : CMap) (H : AH) (w : World) : ExtW N c H w c H w :=
  ⟨Nat.le_refl _, fun _ _ => .inl rfl, Nat.le_refl _, fun _ _ _ => ⟨rfl, rfl, fun _ _ => rfl⟩, Below.refl _ _⟩
theorem ExtW.trans {N : Nat} {c c1 c2 : CMap} {H H1 H2 : AH} {w w1 w2 : World} (h : ExtW N c H w c1 H1 w1) (k : ExtW N c1 H1 w1 c2 H2 w2) : ExtW N c H w c2 H2 w2 where
  nx := Nat.le_trans h.nx k.nx
  dom := fun id hid => by
    rcases k.dom id (Nat.lt_of_lt_of_le hid h.nx) with e | e
    · rw [e]; exact h.dom id hid
    · exact .inr e
  low := Nat.le_trans k.low h.low
  same := fun id hid hl => by
    obtain ⟨e1, e2, e3⟩ := h.same id hid (Nat.lt_of_lt_of_le hl k.low)
    obtain ⟨f1, f2, f3⟩ := k.same id (Nat.lt_of_lt_of_le hid h.nx) hl
    exact ⟨f1.trans e1, f2.trans e2, fun l hc => (f3 l (by rw [e1]; exact hc)).trans (e3 l hc)⟩
  below := h.below.trans k.below

section heap
variable {N : Nat} {c : CMap} {H : AH} {w : World}
theorem get_lt {H : AH} {id : Nat} {b : Blk} (h : H.get id = some b) : id < H.next := by
  unfold AH.get at h
  by_cases hl : id < H.blks.length
  · exact hl
  · rw [List.getElem?_eq_none (by omega)] at h; simp at h
theorem Sim.c_lt (hs : Sim N c H w) {id : Nat} {l : Loc} (h : c id = some l) : id < H.next := by
  have := hs.live id
  rw [h] at this
  obtain ⟨b, hb⟩ := Option.isSome_iff_exists.1 this
  exact get_lt hb
theorem Sim.at_ (hs : Sim N c H w) {id : Nat} {b : Blk} (h : H.get id = some b) : ∃ l, c id = some l ∧ BlkR N c H.next b l w := by
  have := hs.live id
  rw [h] at this
  obtain ⟨l, hl⟩ := Option.isSome_iff_exists.1 this.symm
  exact ⟨l, hl, hs.blk id b l h hl⟩
@[simp] theorem next_push (H : AH) (b : Blk) : (H.push b).next = H.next + 1 := by simp [AH.push, AH.next]
@[simp] theorem next_set (H : AH) (id : Nat) (b : Option Blk) : (H.set id b).next = H.next := by simp [AH.set, AH.next]
@[simp] theorem low_push (H : AH) (b : Blk) : (H.push b).low = H.low := rfl
@[simp] theorem low_set (H : AH) (id : Nat) (b : Option Blk) : (H.set id b).low = min H.low id := rfl
theorem get_push (H : AH) (b : Blk) (id : Nat) : (H.push b).get id = if id = H.next then some b else H.get id := by
  unfold AH.get AH.push AH.next
  simp only [List.getElem?_append]
  split
  · rename_i h; rw [if_neg (by omega)]
  · rename_i h
    split
    · rename_i h2; rw [h2]; simp
    · rename_i h2
      rw [List.getElem?_eq_none (by simp; omega), List.getElem?_eq_none (by omega)]
theorem get_set (H : AH) (id : Nat) (b : Option Blk) (j : Nat) (hid : id < H.next) : (H.set id b).get j = if j = id then b else H.get j := by
  unfold AH.get AH.set
  unfold AH.next at hid
  simp only [List.getElem?_set]
  by_cases h : id = j
  · subst h; simp [hid]
  · rw [if_neg h, if_neg (by omega)]

/-- A new row is made. -/
theorem Sim.push (hs : Sim N c H w) {b : Blk} {cs : Array Value} {ty : TypeId} {fz : Nat × Nat} {rest : List Value} {mid : List Value} (hcs : cs.toList = mid ++ rest) (hm : VRL H.next c b.cells mid) (ho : b.cells.all AM.one = true) (hfz : ∀ j, j < cs.size → ¬ (fz.1 ≤ j ∧ j < fz.2)) :
    Sim N (fun id => if id = H.next then some ⟨w.heap.size, 0, cs.size, b.es⟩ else c id) (H.push b) (w.alloc (.cells cs ty fz)) ∧ ExtW N c H w (fun id => if id = H.next then some ⟨w.heap.size, 0, cs.size, b.es⟩ else c id) (H.push b) (w.alloc (.cells cs ty fz)) := by
  have hdom : ∀ id, id < H.next → (fun id => if id = H.next then some (⟨w.heap.size, 0, cs.size, b.es⟩ : Loc) else c id) id = c id ∨ (fun id => if id = H.next then some (⟨w.heap.size, 0, cs.size, b.es⟩ : Loc) else c id) id = none :=
    fun id hid => .inl (if_neg (by omega))
  have hmono : ∀ {l l' : List Value}, VRL H.next c l l' → VRL (H.push b).next (fun id => if id = H.next then some ⟨w.heap.size, 0, cs.size, b.es⟩ else c id) l l' :=
    fun h => h.mono (by simp) hdom
  have hold : ∀ (l : Loc) id b', H.get id = some b' → c id = some l → l.blk < w.heap.size := fun l id b' h1 h2 => by
    obtain ⟨cs', ty', fz', mid', h3, _⟩ := (hs.blk id b' l h1 h2).row
    exact (Array.getElem?_eq_some_iff.1 h3).1
  refine ⟨⟨fun id => ?_, fun id b' l h1 h2 => ?_, fun id id' b' l l' hne h1 hro h2 h3 => ?_, ?_⟩, ⟨by simp, hdom, Nat.le_refl _, fun id hid _ => ⟨if_neg (by omega), by rw [get_push, if_neg (by omega)], fun l hl => ?_⟩, (Below.refl N w).alloc hs.size _⟩⟩
  · rw [get_push]
    by_cases e : id = H.next
    · simp [e]
    · simp only [if_neg e]; exact hs.live id
  · rw [get_push] at h1
    by_cases e : id = H.next
    · rw [if_pos e] at h1
      simp only [if_pos e] at h2
      obtain rfl := Option.some.inj h1
      obtain rfl := Option.some.inj h2
      have hl := hm.1
      have hsz : cs.size = mid.length + rest.length := by rw [← Array.length_toList, hcs]; simp
      refine ⟨rfl, ho, cs, ty, fz, mid, by show (w.heap.push _)[w.heap.size]? = _; simp, rfl, fun _ => ⟨hs.size, hfz⟩, by simp; omega, fun j hj => ?_, hmono hm⟩
      rw [← Array.getElem?_toList, hcs, Nat.zero_add, List.getElem?_append_left (by omega)]
      simp [List.getElem?_eq_getElem (show j < mid.length by omega)]
    · rw [if_neg e] at h1
      simp only [if_neg e] at h2
      obtain ⟨cs', ty', fz', mid', k1, k2, k3, k4, k5, k6⟩ := (hs.blk id b' l h1 h2).row
      refine ⟨(hs.blk id b' l h1 h2).es, (hs.blk id b' l h1 h2).ones, cs', ty', fz', mid', ?_, k2, k3, k4, k5, hmono k6⟩
      rw [Below.heap_alloc _ _ _ (hold l id b' h1 h2)]; exact k1
  · rw [get_push] at h1
    by_cases e : id = H.next
    · simp only [if_pos e] at h2
      obtain rfl := Option.some.inj h2
      have e' : id' ≠ H.next := fun h => hne (by omega)
      simp only [if_neg e'] at h3
      have hlt := hs.c_lt h3
      have := hs.live id'
      rw [h3] at this
      obtain ⟨b2, hb2⟩ := Option.isSome_iff_exists.1 this
      have := hold l' id' b2 hb2 h3
      simp only; omega
    · rw [if_neg e] at h1
      simp only [if_neg e] at h2
      by_cases e' : id' = H.next
      · simp only [if_pos e'] at h3
        obtain rfl := Option.some.inj h3
        have := hold l id b' h1 h2
        simp only; omega
      · simp only [if_neg e'] at h3
        exact hs.inj id id' b' l l' hne h1 hro h2 h3
  · have := hs.size; simp; omega
  · have := hs.live id
    rw [hl] at this
    obtain ⟨b2, hb2⟩ := Option.isSome_iff_exists.1 this
    exact Below.heap_alloc _ _ _ (hold l id b2 hb2 hl)

/-- Two maps that say the same of each block. -/
theorem c_old (hs : Sim N c H w) {id : Nat} {l : Loc} (h : c id = some l) : l.blk < w.heap.size := by
  have := hs.live id
  rw [h] at this
  obtain ⟨b, hb⟩ := Option.isSome_iff_exists.1 this
  obtain ⟨cs, ty, fz, mid, h3, _⟩ := (hs.blk id b l hb h).row
  exact (Array.getElem?_eq_some_iff.1 h3).1
theorem splice_ones : ∀ (vs l : List Value) (off : Nat), l.all AM.one = true → vs.all AM.one = true → (splice l off vs).all AM.one = true
  | [], l, off, h, _ => h
  | v :: vs, l, off, h, k => by
    simp only [List.all_cons, Bool.and_eq_true] at k
    refine splice_ones vs _ _ ?_ k.2
    rw [List.all_eq_true] at h ⊢
    intro x hx
    rcases List.mem_or_eq_of_mem_set hx with hx | rfl
    · exact h x hx
    · exact k.1
theorem splice_length : ∀ (vs l : List Value) (off : Nat), (splice l off vs).length = l.length
  | [], l, off => rfl
  | v :: vs, l, off => by rw [splice, splice_length vs]; simp
theorem splice_get : ∀ (vs l : List Value) (off j : Nat), off + vs.length ≤ l.length → (splice l off vs)[j]? = if off ≤ j ∧ j < off + vs.length then vs[j - off]? else l[j]?
  | [], l, off, j, _ => by simp only [splice, List.length_nil]; rw [if_neg (by omega)]
  | v :: vs, l, off, j, h => by
    rw [splice, splice_get vs _ _ _ (by simp at h ⊢; omega)]
    simp only [List.length_cons] at h ⊢
    by_cases h1 : off + 1 ≤ j ∧ j < off + 1 + vs.length
    · rw [if_pos h1, if_pos (by omega)]
      obtain ⟨k, rfl⟩ : ∃ k, j = off + 1 + k := ⟨j - (off + 1), by omega⟩
      rw [show off + 1 + k - (off + 1) = k by omega, show off + 1 + k - off = k + 1 by omega]; simp
    · rw [if_neg h1, List.getElem?_set]
      by_cases h2 : off = j
      · rw [if_pos h2, if_pos (by omega), if_pos (by omega)]; subst h2; simp
      · rw [if_neg h2, if_neg (by omega)]
theorem run_storeRow (P : Program) (g o : Nat) (t : TypeId) (fz : Nat × Nat) : ∀ (vs : List Value) (i : Nat) (cur : Array Value) (w : World), w.heap[g]? = some (.cells cur t fz) → (∀ j, j < cur.size → ¬ (fz.1 ≤ j ∧ j < fz.2)) → o + i + vs.length ≤ cur.size → (∀ v ∈ vs, v.oneCell' = true) →
    ∃ w', (storeCells ⟨g, o, none⟩ vs i).run P w = .ok () w' ∧ w'.heap[g]? = some (.cells (splice cur.toList (o + i) vs).toArray t fz) ∧ (∀ k, k ≠ g → w'.heap[k]? = w.heap[k]?) ∧ w'.heap.size = w.heap.size ∧ w'.os = w.os ∧ w'.tape = w.tape ∧ w'.output = w.output
  | [], i, cur, w, hg, _, _, _ => ⟨w, rfl, by simpa [splice] using hg, fun _ _ => rfl, rfl, rfl, rfl, rfl⟩
  | v :: rest, i, cur, w, hg, hfz, hl, h1 => by
    have hi : o + i < cur.size := by simp at hl; omega
    have hadd : (⟨g, o, none⟩ : Addr).add i = ⟨g, o + i, none⟩ := by unfold Addr.add; split <;> simp_all
    have hcell : w.cell? ⟨g, o + i, none⟩ = some cur[o + i] := by simp [World.cell?, hg, hi]
    have hfro : w.frozen? ⟨g, o + i, none⟩ = false := by
      obtain ⟨lo, hi'⟩ := fz
      have := hfz _ hi
      simp only [World.frozen?, hg, Bool.and_eq_false_iff, decide_eq_false_iff_not]
      simp only at this
      omega
    have hst : (store ((⟨g, o, none⟩ : Addr).add i) v).run P w = .ok () (w.setCell ⟨g, o + i, none⟩ v) := by
      rw [hadd, run_store P w _ v _ (h1 v (by simp)), hcell]
      simp [hfro]
    have hnew : (w.setCell ⟨g, o + i, none⟩ v).heap[g]? = some (.cells (cur.setIfInBounds (o + i) v) t fz) := by
      simp only [World.setCell, Array.getElem?_modify, if_true, hg, Option.map_some]; simp
    obtain ⟨w', e1, e2, e3, e4, e5, e6, e7⟩ := run_storeRow P g o t fz rest (i + 1) (cur.setIfInBounds (o + i) v) _ hnew (by simpa using hfz) (by simp at hl ⊢; omega) (fun x hx => h1 x (by simp [hx]))
    refine ⟨w', ?_, ?_, fun k hk => (e3 k hk).trans (Below.heap_setCell _ _ _ _ (by simpa using hk)), by rw [e4]; simp, by rw [e5]; rfl, by rw [e6]; rfl, by rw [e7]; rfl⟩
    · simp only [storeCells, Sem.run_bind, hst, Result.andThen_ok, e1]
    · rw [e2]; simp [splice, Nat.add_assoc]
/-- A run of cells is written. -/
theorem Sim.store (hs : Sim N c H w) {id off : Nat} {b : Blk} {l : Loc} (hb : H.get id = some b) (hc : c id = some l) (hro : b.ro = false) {vs vs' : List Value} (hv : VRL H.next c vs vs') (hle : off + vs.length ≤ b.cells.length) (hone : vs.all AM.one = true) (P : Program) :
    ∃ w', (storeCells ⟨l.blk, l.sh + off, none⟩ vs').run P w = .ok () w' ∧ Sim N c (H.set id (some { b with cells := splice b.cells off vs })) w' ∧ ExtW N c H w c (H.set id (some { b with cells := splice b.cells off vs })) w' := by
  obtain ⟨cs, ty, fz, mid, k1, k2, k3, k4, k5, k6⟩ := (hs.blk id b l hb hc).row
  obtain ⟨hN, hfz⟩ := k3 hro
  have hlt := get_lt hb
  have h1 := hv.one hone
  obtain ⟨w', e1, e2, e3, e4, e5, e6, e7⟩ := run_storeRow P l.blk (l.sh + off) ty fz vs' 0 cs w k1 (by rw [k2]; exact hfz) (by have := hv.1; omega) h1
  refine ⟨w', e1, ⟨fun j => ?_, fun j b' l' g1 g2 => ?_, fun j j' b' l1 l2 hne g1 gro g2 g3 => ?_, by rw [e4]; exact hs.size⟩, ⟨by simp, fun _ _ => .inl rfl, Nat.min_le_left _ _, fun j hj hlow => ⟨rfl, ?_, fun l' g => ?_⟩, e5, e6, e7, by rw [e4]; exact Nat.le_refl _, fun k hk => e3 k (by omega)⟩⟩
  · rw [get_set _ _ _ _ hlt]
    split
    · rename_i e; subst e; rw [hc]; rfl
    · exact hs.live j
  · rw [get_set _ _ _ _ hlt] at g1
    split at g1
    · rename_i e
      subst e
      obtain rfl := Option.some.inj g1
      rw [hc] at g2
      obtain rfl := Option.some.inj g2
      refine ⟨(hs.blk j b l hb hc).es, splice_ones _ _ _ (hs.blk j b l hb hc).ones hone, _, ty, fz, splice mid off vs', e2, by simp [splice_length, k2], fun _ => ⟨hN, hfz⟩, by rw [splice_length]; exact k4, fun i hi => ?_, by simpa using k6.splice off hv⟩
      rw [splice_length] at hi
      have hm := k6.1
      have hv1 := hv.1
      have hcl : cs.toList.length = l.sz := by simp [k2]
      simp only [List.getElem?_toArray]
      rw [splice_get _ _ _ _ (by rw [hcl]; omega)]
      have : (splice mid off vs')[i]? = some ((splice mid off vs').getD i Go.undef) := by
        rw [List.getD_eq_getElem?_getD]
        have : i < (splice mid off vs').length := by rw [splice_length]; omega
        rw [List.getElem?_eq_getElem this]; rfl
      rw [← this, splice_get _ _ _ _ (by omega)]
      by_cases h : off ≤ i ∧ i < off + vs'.length
      · rw [if_pos h, if_pos (by omega), show l.sh + i - (l.sh + off + 0) = i - off by omega]
      · rw [if_neg h, if_neg (by omega)]
        have := k5 i hi
        rw [Array.getElem?_toList, this, List.getD_eq_getElem?_getD, List.getElem?_eq_getElem (show i < mid.length by omega)]; rfl
    · rename_i e
      obtain ⟨cs', ty', fz', mid', q1, q2, q3, q4, q5, q6⟩ := (hs.blk j b' l' g1 g2).row
      refine ⟨(hs.blk j b' l' g1 g2).es, (hs.blk j b' l' g1 g2).ones, cs', ty', fz', mid', ?_, q2, q3, q4, q5, by simpa using q6⟩
      rw [e3 _ (fun h => hs.inj id j b l l' (fun h => e h.symm) hb hro hc g2 h.symm)]; exact q1
  · rw [get_set _ _ _ _ hlt] at g1
    split at g1
    · rename_i e
      subst e
      exact hs.inj j j' b l1 l2 hne hb hro g2 g3
    · exact hs.inj j j' b' l1 l2 hne g1 gro g2 g3
  · rw [get_set _ _ _ _ hlt]
    simp only [low_set] at hlow
    rw [if_neg (by omega)]
  · simp only [low_set] at hlow
    exact e3 _ (fun h => hs.inj id j b l l' (by omega) hb hro hc g h.symm)
/-- Blocks that are let go. -/
theorem Sim.kill (hs : Sim N c H w) {id : Nat} {b : Blk} (hb : H.get id = some b) :
    Sim N (fun j => if j = id then none else c j) (H.set id none) w ∧ ExtW N c H w (fun j => if j = id then none else c j) (H.set id none) w := by
  have hlt := get_lt hb
  have hdom : ∀ j, j < H.next → (fun j => if j = id then none else c j) j = c j ∨ (fun j => if j = id then none else c j) j = none := fun j _ => by
    by_cases e : j = id
    · right; simp [e]
    · left; simp [e]
  refine ⟨⟨fun j => ?_, fun j b' l' g1 g2 => ?_, fun j j' b' l1 l2 hne g1 gro g2 g3 => ?_, hs.size⟩, ⟨by simp, hdom, Nat.min_le_left _ _, fun j hj hlow => ?_, Below.refl _ _⟩⟩
  · rw [get_set _ _ _ _ hlt]
    by_cases e : j = id
    · simp [e]
    · simp only [if_neg e]; exact hs.live j
  · rw [get_set _ _ _ _ hlt] at g1
    by_cases e : j = id
    · rw [if_pos e] at g1; exact absurd g1 (by simp)
    · rw [if_neg e] at g1
      simp only [if_neg e] at g2
      obtain ⟨cs', ty', fz', mid', q1, q2, q3, q4, q5, q6⟩ := (hs.blk j b' l' g1 g2).row
      exact ⟨(hs.blk j b' l' g1 g2).es, (hs.blk j b' l' g1 g2).ones, cs', ty', fz', mid', q1, q2, q3, q4, q5, q6.mono (by simp) hdom⟩
  · rw [get_set _ _ _ _ hlt] at g1
    by_cases e : j = id
    · rw [if_pos e] at g1; exact absurd g1 (by simp)
    · rw [if_neg e] at g1
      simp only [if_neg e] at g2
      by_cases e' : j' = id
      · simp [e'] at g3
      · simp only [if_neg e'] at g3
        exact hs.inj j j' b' l1 l2 hne g1 gro g2 g3
  · simp only [low_set] at hlow
    exact ⟨if_neg (by omega), by rw [get_set _ _ _ _ hlt, if_neg (by omega)], fun _ _ => rfl⟩
/-- A draw turns nothing. -/
theorem Sim.same (hs : Sim N c H w) {w' : World} (h : w'.heap = w.heap) : Sim N c H w' :=
  ⟨hs.live, fun id b l h1 h2 => by
    obtain ⟨cs', ty', fz', mid', q1, q2⟩ := (hs.blk id b l h1 h2).row
    exact ⟨(hs.blk id b l h1 h2).es, (hs.blk id b l h1 h2).ones, cs', ty', fz', mid', by rw [h]; exact q1, q2⟩, hs.inj, by rw [h]; exact hs.size⟩
theorem ExtW.drew (N : Nat) (c : CMap) (H : AH) (w : World) : ExtW N c H w c H w.drew :=
  ⟨Nat.le_refl _, fun _ _ => .inl rfl, Nat.le_refl _, fun _ _ _ => ⟨rfl, rfl, fun _ _ => rfl⟩, (Below.refl _ _).drew⟩
theorem all_take_drop {l : List Value} {p : Value → Bool} (h : l.all p = true) (a n : Nat) : ((l.drop a).take n).all p = true := by
  rw [List.all_eq_true] at h ⊢
  intro x hx
  exact h x (List.mem_of_mem_drop (List.mem_of_mem_take hx))
/-- Cells that are read. -/
theorem Sim.read (hs : Sim N c H w) {a : Addr} {n : Nat} {cs : List Value} (h : ldc H a n = some cs) : ∃ l cs', c a.block = some l ∧ cs.length = n ∧ cs.all AM.one = true ∧ VRL H.next c cs cs' ∧ ∀ j v, cs'[j]? = some v → w.cell? ⟨l.blk, l.sh + a.off + j, none⟩ = some v := by
  unfold ldc at h
  cases hb : H.get a.block with
  | none => rw [hb] at h; simp at h
  | some b =>
    rw [hb] at h
    simp only at h
    by_cases hle : a.off + n ≤ b.cells.length
    · rw [if_pos hle] at h
      obtain rfl := Option.some.inj h
      obtain ⟨l, hc, hr⟩ := hs.at_ hb
      obtain ⟨ar, ty, fz, mid, k1, k2, k3, k4, k5, k6⟩ := hr.row
      refine ⟨l, (mid.drop a.off).take n, hc, by simp; omega, all_take_drop hr.ones _ _, (k6.drop a.off).take n, fun j v hj => ?_⟩
      have hm := k6.1
      rw [List.getElem?_take] at hj
      split at hj
      · rw [List.getElem?_drop] at hj
        have := k5 (a.off + j) (by omega)
        simp only [World.cell?, k1, Option.isSome_none, Bool.false_eq_true, if_false]
        rw [Nat.add_assoc, this, List.getD_eq_getElem?_getD, hj]; rfl
      · simp at hj
    · rw [if_neg hle] at h; simp at h
end heap
theorem Sim.under {N : Nat} {c : CMap} {H : AH} {w w' : World} (hs : Sim N c H w) (hb : Below w.heap.size w w') : Sim N c H w' ∧ ExtW N c H w c H w' := by
  have hblk : ∀ (id : Nat) (l : Loc), c id = some l → w'.heap[l.blk]? = w.heap[l.blk]? := fun id l h => hb.block _ (c_old hs h)
  refine ⟨⟨hs.live, fun id b l h1 h2 => ?_, hs.inj, Nat.le_trans hs.size hb.size⟩, ⟨Nat.le_refl _, fun _ _ => .inl rfl, Nat.le_refl _, fun id _ _ => ⟨rfl, rfl, fun l h => hblk id l h⟩, ⟨hb.os, hb.tape, hb.output, hb.size, fun k hk => hb.block k (Nat.lt_of_lt_of_le hk hs.size)⟩⟩⟩
  obtain ⟨e1, e2, cs, ty, fz, mid, h3, h4, h5, h6, h7, h8⟩ := hs.blk id b l h1 h2
  exact ⟨e1, e2, cs, ty, fz, mid, by rw [hblk id l h2]; exact h3, h4, h5, h6, h7, h8⟩
theorem sim_lone (w : World) : Sim w.heap.size (fun _ => none) AH.lone w := by
  refine ⟨fun id => ?_, fun id b l hb hc => by simp at hc, fun id id' b l l' _ _ _ hc _ => by simp at hc, Nat.le_refl _⟩
  have : AH.lone.get id = none := by
    unfold AH.lone AH.get
    cases id with
    | zero => rfl
    | succ n => simp
  rw [this]; rfl
end Go.Proofs.Ytildhljhbbhmmaa.AM
/- Operations are compiled; what a compiled operation computes is what the model's operation does. -/
namespace Go.Proofs.Ytildhljhbbhmmaa.AM
open Go Go.RowKit
set_option linter.all false

def opdOk : Operand → Bool
  | .tmp _ => true
  | .const v => p3 v
  | .func _ => true
  | .global _ => false
def isAggT : TypeDesc → Bool
  | .struct _ | .array _ _ => true
  | _ => false
/-- How many cells an element of a slice of this variable has. -/
def esOf (P : Program) (t : TypeId) : Nat :=
  match P.underlying t with
  | some (.array _ e) => P.cellsOf e
  | _ => 1
def partsOf (P : Program) (place : Nat → Option (Nat × TypeId)) : List (Nat × Operand) → Option (List (Nat × Nat × Operand))
  | [] => some []
  | (i, x) :: r => match place i, partsOf P place r with
    | some (off, t), some l => (match P.info? t with | some ti => some ((off, ti.size, x) :: l) | none => none)
    | _, _ => none
def tkOf : TypeDesc → Option TK
  | .int _ => some .int
  | .bool => some .bool
  | .string => some .str
  | .pointer _ => some .ptr
  | .slice _ => some .slc
  | .func _ _ _ => some .fnc
  | .interface _ => some .ifc
  | _ => none
def scalarK (P : Program) (t : TypeId) : Option TK :=
  if P.cellsOf t = 1 then
  match P.underlying t with
  | some (.int _) => some .int
  | some .bool => some .bool
  | some .string => some .str
  | _ => none
  else none
def offsOf (P : Program) : List Field → Option (List (Nat × TK))
  | [] => some []
  | f :: r => if f.name = "_" then offsOf P r else
    match scalarK P f.type, offsOf P r with
    | some k, some l => some ((f.offset, k) :: l)
    | _, _ => none
def compBuiltin (P : Program) (b : Builtin) (ts : List TypeId) (xs : List Operand) : Option MI :=
  match b, ts, xs with
  | .len, [t], [x] => (match P.underlying t with
    | some .string => some (.lenStr x)
    | some (.slice _) => some (.len x)
    | some (.array n _) => some (.lenC n)
    | some (.pointer e) => (match P.underlying e with | some (.array n _) => some (.lenC n) | _ => none)
    | _ => none)
  | .cap, [t], [x] => (match P.underlying t with | some (.slice _) => some (.cap x) | _ => none)
  | .min, _, x :: xs => some (.min x xs)
  | .max, _, x :: xs => some (.max x xs)
  | .append, [t, u], [s, x] => (match P.underlying t with
    | some (.slice e) => (match P.info? e with
      | some ei =>
        if ei.size = 0 ∨ ei.bytes = 0 then none else
        (match P.underlying u with
        | some (.slice _) => (match ei.zero with | some z => if ei.size = z.cells.size then some (.append ei.size ei.bytes s x) else none | none => none)
        | some .string => (match ei.zero with | some z => if ei.size = z.cells.size then some (.append ei.size ei.bytes s x) else none | none => none)
        | _ => none)
      | none => none)
    | _ => none)
  | .copy, [t, _], [d, s] => (match P.underlying t with
    | some (.slice e) => (match P.info? e with | some ei => some (.copy ei.size d s) | none => none)
    | _ => none)
  | _, _, _ => none
/-- Variables that hold maps are not read, unless they are great. -/
def deadT (P : Program) (t : TypeId) : Bool :=
  match P.info? t with
  | some i => (match i.zero with | some z => decide (z.cells.size ≤ 10) && z.cells.toList.any (fun | .map _ => true | _ => false) | none => false)
  | none => false
def compOp (P : Program) (o : Oper) : Option MI :=
  match o.op with
  | .move x | .assign x => some (.mov x)
  | .pick c a b => some (.pick c a b)
  | .alloc t => (match P.info? t with
    | some i => (match i.zero with | some z => if z.cells.toList.all p1 = true then some (.alloc z.cells.toList (esOf P t)) else none | none => none)
    | none => none)
  | .box t x => if deadT P t = true then some (.boxDead x) else some (.box (esOf P t) x)
  | .build t parts => (match P.info? t with
    | some i => (match i.zero with
      | some z => if z.cells.toList.all p1 = true then (match P.underlying t with
        | some (.struct fs) => if fs.toList.all (fun f => (P.info? f.type).isSome) = true then (match partsOf P (fun j => (fs[j]?).map fun f => (f.offset, f.type)) parts.toList with | some l => some (.build z.cells.toList l) | none => none) else none
        | some (.array _ e) => if (P.info? e).isSome = true then (match partsOf P (fun j => some (j * P.cellsOf e, e)) parts.toList with | some l => some (.build z.cells.toList l) | none => none) else none
        | _ => none) else none
      | none => none)
    | none => none)
  | .buildSlice t n parts => (match P.underlying t with
    | some (.slice e) => (match P.info? e with
      | some i => (match i.zero with
        | some z =>
          if z.cells.toList.all p1 = true ∧ n * i.size ≤ 2 ^ 24 ∧ 0 < i.size ∧ z.cells.size = i.size then (match partsOf P (fun j => some (j * i.size, e)) parts.toList with
            | some l => some (.buildSlice (rep n z.cells.toList) i.size n l)
            | none => none) else none
        | none => none)
      | none => none)
    | _ => none)
  | .load t a => (match P.underlying t, P.info? t with
    | some d, some i => if isAggT d = true then some (.load true i.size a) else some (.load false 1 a)
    | _, _ => none)
  | .store t a x => (match P.info? t with | some i => some (.store i.size a x) | none => none)
  | .nilCheck x => some (.nilCheck x)
  | .binOp op t x y _ => (match P.underlying t with
    | some (.array n e) => if P.eqGuardType P.depth t = false ∧ (P.info? e).isSome = true then (match scalarK P e, op with
      | some k, .eql => some (.eqc false ((List.range n).map fun i => (i, k)) x y)
      | some k, .neq => some (.eqc true ((List.range n).map fun i => (i, k)) x y)
      | _, _ => none) else none
    | some (.struct fs) => if P.eqGuardType P.depth t = false ∧ P.stoodInHeld t = false then (match offsOf P fs.toList, op with
      | some l, .eql => some (.eqc false l x y)
      | some l, .neq => some (.eqc true l x y)
      | _, _ => none) else none
    | some d => (match tkOf d with | some k => some (.bin k op x y) | none => none)
    | none => none)
  | .unOp op _ x => some (.un op x)
  | .convert s d x => (match P.underlying s, P.underlying d with
    | some (.int _), some (.int k) => some (.conv k x)
    | some .string, some .string => some (.strMov x)
    | some .string, some (.slice e) => (match P.underlying e with | some (.int .u8) => some (.toBytes x) | _ => none)
    | some (.slice e), some .string => (match P.underlying e with | some (.int .u8) => some (.toStr x) | _ => none)
    | _, _ => none)
  | .makeMap _ none => some .newMap
  | .sliceToArrayPointer t x => (match P.underlying t with | some (.array n _) => some (.toArr n x) | _ => none)
  | .makeInterface t x => (match P.underlying t with | some (.interface _) => none | some _ => some (.mkIface t x) | none => none)
  | .makeFunc fn a b => some (.mkFunc fn a.toList b.toList)
  | .makeSlice t l c => (match P.underlying t with
    | some (.slice e) => (match P.info? e with
      | some i => (match i.zero with | some z => if i.size = z.cells.size ∧ 0 < i.size ∧ z.cells.toList.all p1 = true then some (.mkSlice z.cells.toList i.size i.bytes l c) else none | none => none)
      | none => none)
    | _ => none)
  | .slice t x lo hi none => (match P.underlying t with
    | some .string => some (.sliceStr x lo hi)
    | some (.slice e) => (match P.info? e with | some i => some (.sliceS i.size x lo hi) | none => none)
    | some (.array n e) => (match P.info? e with | some i => some (.sliceA n i.size x lo hi) | none => none)
    | some (.pointer q) => (match P.underlying q with
      | some (.array n e) => (match P.info? e with | some i => some (.sliceA n i.size x lo hi) | none => none)
      | _ => none)
    | _ => none)
  | .fieldAddr s x j => (match P.underlying s with
    | some (.struct fs) => (match fs[j]? with
      | some f => (match P.info? f.type with | some i => if i.size = 0 then none else some (.addOff f.offset x) | none => none)
      | none => none)
    | _ => none)
  | .field s x j => (match P.underlying s with
    | some (.struct fs) => (match fs[j]? with
      | some f => (match P.info? f.type, P.underlying f.type with
        | some i, some d => if isAggT d = true then some (.field true f.offset i.size x) else some (.field false f.offset 1 x)
        | _, _ => none)
      | none => none)
    | _ => none)
  | .indexAddr t x i => (match P.underlying t with
    | some (.slice e) => (match P.info? e with | some ei => some (.idxS ei.size x i) | none => none)
    | some (.array n e) => (match P.info? e with | some ei => some (.idxA n ei.size x i) | none => none)
    | _ => none)
  | .index t x i => (match P.underlying t with
    | some .string => some (.strIdx x i)
    | some (.array n e) => (match P.info? e, P.underlying e with
      | some ei, some d => if isAggT d = true then some (.arrIdx true n ei.size x i) else if ei.size = 1 then some (.arrIdx false n 1 x i) else none
      | _, _ => none)
    | _ => none)
  | .extract x i => some (.extract x i)
  | .call c => (match c.callee with
    | .builtin b => compBuiltin P b c.argTypes.toList c.args.toList
    | .value g => some (.call false g c.args.toList)
    | .invoke _ _ => none)
  | _ => none

section
variable {P : Program} {N : Nat} {c : CMap} {H : AH} {w : World} {f : Fr} {ρ : Operand → Value}
/-- What an operation that yields a value does. -/
def Does (P : Program) (N : Nat) (c : CMap) (H : AH) (w : World) (r : Sem Value) (v : Value) (H' : AH) : Prop :=
  ∃ v' c' w', r.run P w = .ok v' w' ∧ VR H'.next c' v v' ∧ Sim N c' H' w' ∧ ExtW N c H w c' H' w'
theorem Does.pure (hs : Sim N c H w) {r : Sem Value} {v v' : Value} (hr : r.run P w = .ok v' w) (hv : VR H.next c v v') : Does P N c H w r v H :=
  ⟨v', c, w, hr, hv, hs, .refl _ _ _ _⟩

/-! ### Inversions -/
theorem VR.bool {n : Nat} {c : CMap} {b : Bool} {v' : Value} (h : VR n c (.bool b) v') : v' = .bool b := h.eq1 rfl
theorem VR.int {n : Nat} {c : CMap} {k : IntKind} {x : Int} {v' : Value} (h : VR n c (.int k x) v') : v' = .int k x := h.eq1 rfl
theorem VR.str {n : Nat} {c : CMap} {s : ByteArray} {v' : Value} (h : VR n c (.string s) v') : v' = .string s := h.eq1 rfl
theorem VR.nilF {n : Nat} {c : CMap} {v' : Value} (h : VR n c .nilFunc v') : v' = .nilFunc := h.eq1 rfl
theorem VR.ptrI {n : Nat} {c : CMap} {a : Option Addr} {v' : Value} (h : VR n c (.pointer a) v') : ∃ a', v' = .pointer a' ∧ a'.isNone = a.isNone := by
  cases h with
  | plain h => exact ⟨a, rfl, rfl⟩
  | ptr h1 h2 h3 => exact ⟨_, rfl, rfl⟩
  | ptrDead h1 h2 => exact ⟨_, rfl, rfl⟩
theorem VR.ptrL {n : Nat} {c : CMap} {a : Addr} {l : Loc} {v' : Value} (h : VR n c (.pointer (some a)) v') (hc : c a.block = some l) : v' = .pointer (some ⟨l.blk, l.sh + a.off, none⟩) ∧ a.block < n := by
  cases h with
  | plain h => simp [p1] at h
  | ptr h1 h2 h3 => rw [hc] at h2; obtain rfl := Option.some.inj h2; exact ⟨rfl, h1⟩
  | ptrDead h1 h2 => rw [hc] at h2; simp at h2
theorem VR.ptrSpot {n : Nat} {c : CMap} {a : Addr} {l : Loc} {v' : Value} (h : VR n c (.pointer (some a)) v') (hc : c a.block = some l) : a.spot = none := by
  cases h with
  | plain h => simp [p1] at h
  | ptr h1 h2 h3 => exact h3
  | ptrDead h1 h2 => rw [hc] at h2; simp at h2
theorem VR.slcI {n : Nat} {c : CMap} {a : Option Addr} {m k : Nat} {v' : Value} (h : VR n c (.slice a m k) v') : ∃ a' k', v' = .slice a' m k' ∧ a'.isNone = a.isNone := by
  cases h with
  | plain h => exact ⟨a, k, rfl, rfl⟩
  | slice h1 h2 h3 => exact ⟨_, _, rfl, rfl⟩
  | sliceDead h1 h2 => exact ⟨_, _, rfl, rfl⟩
theorem VR.slcN {n : Nat} {c : CMap} {m k : Nat} {v' : Value} (h : VR n c (.slice none m k) v') : v' = .slice none m k := h.eq1 rfl
theorem VR.slcL {n : Nat} {c : CMap} {a : Addr} {m k : Nat} {l : Loc} {v' : Value} (h : VR n c (.slice (some a) m k) v') (hc : c a.block = some l) : ∃ k', v' = .slice (some ⟨l.blk, l.sh + a.off, none⟩) m k' ∧ a.block < n ∧ k ≤ k' ∧ l.sh + a.off + k' * l.es ≤ l.sz := by
  cases h with
  | plain h => simp [p1] at h
  | slice h1 h2 h3 h4 h5 => rw [hc] at h2; obtain rfl := Option.some.inj h2; exact ⟨_, rfl, h1, h4, h5⟩
  | sliceDead h1 h2 => rw [hc] at h2; simp at h2
theorem VR.slcSpot {n : Nat} {c : CMap} {a : Addr} {m k : Nat} {l : Loc} {v' : Value} (h : VR n c (.slice (some a) m k) v') (hc : c a.block = some l) : a.spot = none := by
  cases h with
  | plain h => simp [p1] at h
  | slice h1 h2 h3 h4 h5 => exact h3
  | sliceDead h1 h2 => rw [hc] at h2; simp at h2
theorem VR.funcI {n : Nat} {c : CMap} {fn : Fn} {a b : Array Value} {v' : Value} (h : VR n c (.func fn a b) v') : ∃ a' b', v' = .func fn a' b' ∧ VRL n c a.toList a'.toList ∧ VRL n c b.toList b'.toList := by
  cases h with
  | plain h => obtain ⟨rfl, rfl⟩ := p1_of_empty h; exact ⟨_, _, rfl, .nil, .nil⟩
  | @func fn f f' g g' hf hg h1 h2 => exact ⟨_, _, rfl, ⟨by simpa using hf, fun j hj => by simpa using h1 j (by simpa using hj)⟩, ⟨by simpa using hg, fun j hj => by simpa using h2 j (by simpa using hj)⟩⟩

theorem VR.ifcI {n : Nat} {c : CMap} {t : TypeId} {u v' : Value} (h : VR n c (.iface t u) v') : ∃ u', v' = .iface t u' ∧ VR n c u u' := by
  cases h with
  | plain h => simp [p1] at h
  | iface h => exact ⟨_, rfl, h⟩
theorem VR.nilI {n : Nat} {c : CMap} {v' : Value} (h : VR n c .nilIface v') : v' = .nilIface := h.eq1 rfl

theorem add_eq (b o n : Nat) : (⟨b, o, none⟩ : Addr).add n = ⟨b, o + n, none⟩ := by unfold Addr.add; split <;> simp_all
theorem run_underlying {t : TypeId} {d : TypeDesc} (h : P.underlying t = some d) : (underlying t).run P w = .ok d w := by simp [underlying, h]
theorem run_typeInfo {t : TypeId} {i : TypeInfo} (h : P.info? t = some i) : (typeInfo t).run P w = .ok i w := by simp [typeInfo, h]
theorem run_sizeOf {t : TypeId} {i : TypeInfo} (h : P.info? t = some i) : (sizeOf t).run P w = .ok i.size w := by simp [sizeOf, run_typeInfo h]
theorem run_zeroValue {t : TypeId} {i : TypeInfo} {z : Value} (h : P.info? t = some i) (hz : i.zero = some z) : (zeroValue t).run P w = .ok z w := by simp [zeroValue, run_typeInfo h, hz]
theorem run_isAgg {t : TypeId} {d : TypeDesc} (h : P.underlying t = some d) : (isAgg t).run P w = .ok (isAggT d) w := by
  simp only [isAgg, Sem.run_bind, run_underlying h, Result.andThen_ok]
  cases d <;> rfl
end
end Go.Proofs.Ytildhljhbbhmmaa.AM
/- What a compiled operation computes is what the model's operation does: the operations that leave the heap alone. -/
namespace Go.Proofs.Ytildhljhbbhmmaa.AM
open Go Go.RowKit
set_option linter.all false
section
variable {P : Program} {N : Nat} {c : CMap} {H : AH} {w : World} {f : Fr} {ρ : Operand → Value}

theorem guard_pass {op : BinOp} {t : TypeId} {ox oy : Operand} {a b : Value} (h1 : ∀ x y, a = .agg x → b = .agg y → False) (h2 : a = .nilIface → b = .nilIface → False) : (eqGuard op t ox oy a b).run P w = .ok () w := by
  unfold eqGuard
  generalize (!(match op with | .eql => true | .neq => true | _ => false)) = t1
  cases t1
  · rw [if_neg (by simp)]
    split
    · exact (h2 rfl rfl).elim
    · exact (h1 _ _ rfl rfl).elim
    · rfl
  · rfl
theorem depth_succ : ∃ d, Op.maxDepth = d + 1 := ⟨9999, rfl⟩
theorem run_eq_bool {t : TypeId} {a b : Bool} (hu : P.underlying t = some .bool) : (Op.equal t (.bool a) (.bool b)).run P w = .ok (a == b) w := by
  obtain ⟨d, hd⟩ := depth_succ
  unfold Op.equal
  rw [hd]
  simp [Op.equalIn, run_underlying hu]
theorem run_eq_ptr {t e : TypeId} {a b : Option Addr} {r : Bool} (hu : P.underlying t = some (.pointer e)) (h : eqNil a b = some r) : (Op.equal t (.pointer a) (.pointer b)).run P w = .ok r w := by
  obtain ⟨d, hd⟩ := depth_succ
  unfold Op.equal
  rw [hd]
  cases a <;> cases b <;> simp only [eqNil, Option.some.injEq, reduceCtorEq] at h <;> subst h <;> simp [Op.equalIn, run_underlying hu]
theorem run_eq_slc {t e : TypeId} {a b : Option Addr} {m1 k1 m2 k2 : Nat} {r : Bool} (hu : P.underlying t = some (.slice e)) (h : eqNil a b = some r) : (Op.equal t (.slice a m1 k1) (.slice b m2 k2)).run P w = .ok r w := by
  obtain ⟨d, hd⟩ := depth_succ
  unfold Op.equal
  rw [hd]
  cases a <;> cases b <;> simp only [eqNil, Option.some.injEq, reduceCtorEq] at h <;> subst h <;> simp [Op.equalIn, run_underlying hu]
theorem eqNil_congr {a b a' b' : Option Addr} (ha : a'.isNone = a.isNone) (hb : b'.isNone = b.isNone) : eqNil a' b' = eqNil a b := by
  cases a <;> cases b <;> cases a' <;> cases b' <;> simp_all [eqNil]
theorem run_eql {t : TypeId} {x y v : Value} {r : Bool} {op : BinOp} (h1 : ∀ k a k' b, x = .int k a → y = .int k' b → False) (h2 : ∀ k a k' b, x = .float k a → y = .float k' b → False) (h3 : ∀ k a b k' c d, x = .complex k a b → y = .complex k' c d → False) (h4 : ∀ a b, x = .string a → y = .string b → False) (he : (Op.equal t x y).run P w = .ok r w) (h : eqOp op (some r) = some v) : (binOp op t x y).run P w = .ok v w := by
  cases op <;> simp only [eqOp, Option.some.injEq, reduceCtorEq] at h <;> subst h
  · unfold binOp
    split <;> first | (simp [he]; done) | (exfalso; first | exact h1 _ _ _ _ rfl rfl | exact h2 _ _ _ _ rfl rfl | exact h3 _ _ _ _ _ _ rfl rfl | exact h4 _ _ rfl rfl | (simp_all; done))
  · unfold binOp
    split <;> first | (simp [he]; done) | (exfalso; first | exact h1 _ _ _ _ rfl rfl | exact h2 _ _ _ _ rfl rfl | exact h3 _ _ _ _ _ _ rfl rfl | exact h4 _ _ rfl rfl | (simp_all; done))
theorem str_beq (a b : ByteArray) : (a.toList == b.toList) = decide (a = b) := by
  rw [Lib.toList_data, Lib.toList_data]
  by_cases h : a = b
  · subst h; simp
  · have : a.data.toList ≠ b.data.toList := fun e => h (by
      cases a; cases b; simp only [ByteArray.mk.injEq]; exact Array.toList_inj.1 e)
    simp [h, show ¬ a.data = b.data from fun e => this (by rw [e])]
theorem run_intBin {op : BinOp} {t : TypeId} {k : IntKind} {a b : Int} {v : Value} (h1 : op ≠ .shl) (h2 : op ≠ .shr) (h : intBin op k a b = some v) : (binOp op t (.int k a) (.int k b)).run P w = .ok v w ∧ p1 v = true := by
  cases op <;> simp only [intBin, Option.some.injEq, reduceCtorEq, ne_eq] at h h1 h2 <;> first
    | (subst h; refine ⟨?_, rfl⟩; simp [binOp, Op.intArith, Op.intBits, Op.intCmp, bitsK]; done)
    | (subst h; refine ⟨?_, rfl⟩; simp [binOp, Op.intCmp]; rfl)
    | (split at h
       · simp at h
       · rename_i hb; obtain rfl := Option.some.inj h; refine ⟨?_, rfl⟩; simp [binOp, Op.intDiv, hb])
theorem run_bin {op : BinOp} {t : TypeId} {d : TypeDesc} {k : TK} {ox oy : Operand} {x y x' y' v : Value} {n : Nat} (hu : P.underlying t = some d) (hk : tkOf d = some k) (hx : VR n c x x') (hy : VR n c y y') (h : binV k op x y = some v) :
    (do eqGuard op t ox oy x' y'; binOp op t x' y' : Sem Value).run P w = .ok v w ∧ p1 v = true := by
  have hg : (∀ p q, x' = .agg p → y' = .agg q → False) → (x' = .nilIface → y' = .nilIface → False) → (binOp op t x' y').run P w = .ok v w → (do eqGuard op t ox oy x' y'; binOp op t x' y' : Sem Value).run P w = .ok v w := fun h1 h2 h3 => by
    simp only [Sem.run_bind, guard_pass h1 h2, Result.andThen_ok, h3]
  unfold binV at h
  split at h
  · -- whole numbers
    rename_i kx a ky b
    obtain rfl := hx.int
    obtain rfl := hy.int
    split at h
    · unfold shBin at h
      split at h
      · simp at h
      · rename_i hb
        obtain rfl := Option.some.inj h
        exact ⟨hg (by simp) (by simp) (by simp [binOp, Op.shift, hb, shiftK]), rfl⟩
    · unfold shBin at h
      split at h
      · simp at h
      · rename_i hb
        obtain rfl := Option.some.inj h
        exact ⟨hg (by simp) (by simp) (by simp [binOp, Op.shift, hb, shiftK]), rfl⟩
    · rename_i h1 h2
      split at h
      · rename_i e
        subst e
        obtain ⟨r1, r2⟩ := run_intBin (P := P) (w := w) (t := t) (fun e => h1 e) (fun e => h2 e) h
        exact ⟨hg (by simp) (by simp) r1, r2⟩
      · simp at h
  · -- bools
    rename_i a b
    obtain rfl := hx.bool
    obtain rfl := hy.bool
    have hd : d = .bool := by cases d <;> simp [tkOf] at hk; rfl
    subst hd
    exact ⟨hg (by simp) (by simp) (run_eql (by simp) (by simp) (by simp) (by simp) (run_eq_bool hu) h), by cases op <;> simp only [eqOp, Option.some.injEq, reduceCtorEq] at h <;> subst h <;> rfl⟩
  · -- strings
    rename_i a b
    obtain rfl := hx.str
    obtain rfl := hy.str
    cases op <;> simp only [strBin, reduceCtorEq, Option.some.injEq] at h <;> first
      | (subst h; refine ⟨hg (by simp) (by simp) ?_, rfl⟩; simp [binOp, Op.stringOp, str_beq]; done)
      | (split at h
         · rename_i hb
           obtain rfl := Option.some.inj h
           refine ⟨hg (by simp) (by simp) ?_, rfl⟩
           have : ¬ (((a.size + b.size : Nat) : Int) > IntKind.i64.max) := by
             have e : IntKind.i64.max = 9223372036854775807 := by decide
             rw [e]; omega
           simp only [binOp, Op.stringOp]
           rw [if_neg this]; rfl
         · simp at h)
  · -- pointers
    rename_i a b
    obtain ⟨a', rfl, ha⟩ := hx.ptrI
    obtain ⟨b', rfl, hb⟩ := hy.ptrI
    obtain ⟨e, rfl⟩ : ∃ e, d = .pointer e := by cases d <;> simp [tkOf] at hk; exact ⟨_, rfl⟩
    rw [← eqNil_congr ha hb] at h
    cases hq : eqNil a' b' with
    | none => rw [hq] at h; cases op <;> simp [eqOp] at h
    | some r =>
      rw [hq] at h
      exact ⟨hg (by simp) (by simp) (run_eql (by simp) (by simp) (by simp) (by simp) (run_eq_ptr hu hq) h), by cases op <;> simp only [eqOp, Option.some.injEq, reduceCtorEq] at h <;> subst h <;> rfl⟩
  · -- slices
    rename_i a m1 k1 b m2 k2
    obtain ⟨a', k1', rfl, ha⟩ := hx.slcI
    obtain ⟨b', k2', rfl, hb⟩ := hy.slcI
    obtain ⟨e, rfl⟩ : ∃ e, d = .slice e := by cases d <;> simp [tkOf] at hk; exact ⟨_, rfl⟩
    rw [← eqNil_congr ha hb] at h
    cases hq : eqNil a' b' with
    | none => rw [hq] at h; cases op <;> simp [eqOp] at h
    | some r =>
      rw [hq] at h
      exact ⟨hg (by simp) (by simp) (run_eql (by simp) (by simp) (by simp) (by simp) (run_eq_slc hu hq) h), by cases op <;> simp only [eqOp, Option.some.injEq, reduceCtorEq] at h <;> subst h <;> rfl⟩
  · obtain rfl := hx.nilF
    obtain rfl := hy.nilF
    obtain ⟨p1, p2, p3, rfl⟩ : ∃ p1 p2 p3, d = .func p1 p2 p3 := by cases d <;> simp [tkOf] at hk; exact ⟨_, _, _, rfl⟩
    have he : (Op.equal t .nilFunc .nilFunc).run P w = .ok true w := by
      obtain ⟨d, hd⟩ := depth_succ
      unfold Op.equal; rw [hd]; simp [Op.equalIn, run_underlying hu]
    exact ⟨hg (by simp) (by simp) (run_eql (by simp) (by simp) (by simp) (by simp) he h), by cases op <;> simp only [eqOp, Option.some.injEq, reduceCtorEq] at h <;> subst h <;> rfl⟩
  · obtain rfl := hx.nilF
    obtain ⟨a1, a2, rfl, _, _⟩ := hy.funcI
    obtain ⟨p1, p2, p3, rfl⟩ : ∃ p1 p2 p3, d = .func p1 p2 p3 := by cases d <;> simp [tkOf] at hk; exact ⟨_, _, _, rfl⟩
    have he : ∀ fn, (Op.equal t .nilFunc (.func fn a1 a2)).run P w = .ok false w := fun fn => by
      obtain ⟨d, hd⟩ := depth_succ
      unfold Op.equal; rw [hd]; simp [Op.equalIn, run_underlying hu]
    exact ⟨hg (by simp) (by simp) (run_eql (by simp) (by simp) (by simp) (by simp) (he _) h), by cases op <;> simp only [eqOp, Option.some.injEq, reduceCtorEq] at h <;> subst h <;> rfl⟩
  · obtain rfl := hy.nilF
    obtain ⟨a1, a2, rfl, _, _⟩ := hx.funcI
    obtain ⟨p1, p2, p3, rfl⟩ : ∃ p1 p2 p3, d = .func p1 p2 p3 := by cases d <;> simp [tkOf] at hk; exact ⟨_, _, _, rfl⟩
    have he : ∀ fn, (Op.equal t (.func fn a1 a2) .nilFunc).run P w = .ok false w := fun fn => by
      obtain ⟨d, hd⟩ := depth_succ
      unfold Op.equal; rw [hd]; simp [Op.equalIn, run_underlying hu]
    exact ⟨hg (by simp) (by simp) (run_eql (by simp) (by simp) (by simp) (by simp) (he _) h), by cases op <;> simp only [eqOp, Option.some.injEq, reduceCtorEq] at h <;> subst h <;> rfl⟩
  · obtain rfl := hx.nilI
    obtain ⟨u', rfl, _⟩ := hy.ifcI
    obtain ⟨ms, rfl⟩ : ∃ ms, d = .interface ms := by cases d <;> simp [tkOf] at hk; exact ⟨_, rfl⟩
    have he : ∀ t1, (Op.equal t .nilIface (.iface t1 u')).run P w = .ok false w := fun t1 => by
      obtain ⟨d, hd⟩ := depth_succ
      unfold Op.equal; rw [hd]; simp [Op.equalIn, run_underlying hu]
    exact ⟨hg (by simp) (by simp) (run_eql (by simp) (by simp) (by simp) (by simp) (he _) h), by cases op <;> simp only [eqOp, Option.some.injEq, reduceCtorEq] at h <;> subst h <;> rfl⟩
  · obtain rfl := hy.nilI
    obtain ⟨u', rfl, _⟩ := hx.ifcI
    obtain ⟨ms, rfl⟩ : ∃ ms, d = .interface ms := by cases d <;> simp [tkOf] at hk; exact ⟨_, rfl⟩
    have he : ∀ t1, (Op.equal t (.iface t1 u') .nilIface).run P w = .ok false w := fun t1 => by
      obtain ⟨d, hd⟩ := depth_succ
      unfold Op.equal; rw [hd]; simp [Op.equalIn, run_underlying hu]
    exact ⟨hg (by simp) (by simp) (run_eql (by simp) (by simp) (by simp) (by simp) (he _) h), by cases op <;> simp only [eqOp, Option.some.injEq, reduceCtorEq] at h <;> subst h <;> rfl⟩
  · simp at h
end
end Go.Proofs.Ytildhljhbbhmmaa.AM
/- More of the same: values taken apart and put together, addresses, strings. -/
namespace Go.Proofs.Ytildhljhbbhmmaa.AM
open Go Go.RowKit
set_option linter.all false
section
variable {P : Program} {N : Nat} {c : CMap} {H : AH} {w : World} {f : Fr} {ρ : Operand → Value}

theorem run_un {op : UnOp} {x x' v : Value} {n : Nat} (hx : VR n c x x') (h : unV op x = some v) : (Op.unary op x').run P w = .ok v w ∧ p1 v = true := by
  unfold unV at h
  split at h
  · obtain rfl := hx.bool; obtain rfl := Option.some.inj h; exact ⟨by simp [Op.unary], rfl⟩
  · obtain rfl := hx.int; obtain rfl := Option.some.inj h; exact ⟨by simp [Op.unary, Op.intArith], rfl⟩
  · obtain rfl := hx.int; obtain rfl := Option.some.inj h; exact ⟨by simp [Op.unary, Op.intBits, bitsK], rfl⟩
  · simp at h
theorem run_part1 {t : TypeId} {d : TypeDesc} {i : TypeInfo} (hu : P.underlying t = some d) (hi : P.info? t = some i) (ha : isAggT d = true) (cs : Array Value) (off : Nat) : (part t cs off).run P w = .ok (.agg (cs.extract off (off + i.size))) w := by
  simp [part, run_isAgg hu, ha, run_sizeOf hi]
theorem run_part0 {t : TypeId} {d : TypeDesc} (hu : P.underlying t = some d) (ha : isAggT d = false) {cs : Array Value} {off : Nat} {v : Value} (hv : cs[off]? = some v) : (part t cs off).run P w = .ok v w := by
  simp [part, run_isAgg hu, ha, hv]
theorem extract_list (cs : Array Value) (a n : Nat) : cs.extract a (a + n) = ((cs.toList.drop a).take n).toArray := by
  rw [← Array.toList_inj]; simp [Array.toList_extract, List.extract]
/-- A part of an aggregate. -/
theorem part_ok {t : TypeId} {d : TypeDesc} {i : TypeInfo} (hu : P.underlying t = some d) (hi : P.info? t = some i) {cs cs' : Array Value} (hv : VRL H.next c cs.toList cs'.toList) {off n : Nat} {agg : Bool} (hagg : (isAggT d = true ∧ agg = true ∧ n = i.size) ∨ (isAggT d = false ∧ agg = false ∧ n = 1)) (hle : off + n ≤ cs.size) {v : Value} (h : oneOf agg ((cs.toList.drop off).take n) = some v) :
    ∃ v', (part t cs' off).run P w = .ok v' w ∧ VR H.next c v v' := by
  have hsz : cs.size = cs'.size := by simpa using hv.1
  rcases hagg with ⟨ha, rfl, rfl⟩ | ⟨ha, rfl, rfl⟩
  · simp only [oneOf, if_true, Option.some.injEq] at h
    subst h
    exact ⟨_, run_part1 hu hi ha cs' off, by rw [extract_list]; exact ((hv.drop off).take _).agg⟩
  · simp only [oneOf, Bool.false_eq_true, if_false] at h
    have hlt : off < cs.toList.length := by simp; omega
    have hlt' : off < cs'.toList.length := by simp; omega
    rw [List.drop_eq_getElem_cons hlt] at h
    simp only [List.take_succ_cons, List.take_zero, Option.some.injEq] at h
    subst h
    refine ⟨cs'[off]'(by simpa using hlt'), run_part0 hu ha (by simp [show off < cs'.size by simpa using hlt']), ?_⟩
    have := hv.2 off hlt
    simpa [List.getD_eq_getElem?_getD, show off < cs.size by simpa using hlt, show off < cs'.size by simpa using hlt'] using this
theorem run_field {s : TypeId} {fs : Array Field} {j : Nat} {fd : Field} {d : TypeDesc} {i : TypeInfo} (hs : P.underlying s = some (.struct fs)) (hj : fs[j]? = some fd) (hu : P.underlying fd.type = some d) (hi : P.info? fd.type = some i) {x' : Value} {cs : Array Value} (hx : VR H.next c (.agg cs) x') {n : Nat} {agg : Bool} (hagg : (isAggT d = true ∧ agg = true ∧ n = i.size) ∨ (isAggT d = false ∧ agg = false ∧ n = 1)) (hle : fd.offset + n ≤ cs.size) {v : Value} (h : oneOf agg ((cs.toList.drop fd.offset).take n) = some v) :
    ∃ v', (Instr.field s x' j).run P w = .ok v' w ∧ VR H.next c v v' := by
  obtain ⟨cs', rfl, hv⟩ := VRL.of_agg hx
  obtain ⟨v', e, hr⟩ := part_ok (P := P) (w := w) hu hi hv hagg hle h
  exact ⟨v', by simp [Instr.field, run_underlying hs, hj, asAgg, e], hr⟩
theorem run_arrIdx {t e : TypeId} {len : Nat} {d : TypeDesc} {i : TypeInfo} (ht : P.underlying t = some (.array len e)) (hu : P.underlying e = some d) (hi : P.info? e = some i) {x' : Value} {cs : Array Value} (hx : VR H.next c (.agg cs) x') {n : Nat} {agg : Bool} (hn : n = i.size) (hagg : (isAggT d = true ∧ agg = true) ∨ (isAggT d = false ∧ agg = false ∧ n = 1)) {k : IntKind} {j : Int} (h0 : 0 ≤ j) (h1 : j < len) (hle : j.toNat * n + n ≤ cs.size) {v : Value} (h : oneOf agg ((cs.toList.drop (j.toNat * n)).take n) = some v) :
    ∃ v', (Instr.index t x' (.int k j)).run P w = .ok v' w ∧ VR H.next c v v' := by
  obtain ⟨cs', rfl, hv⟩ := VRL.of_agg hx
  obtain ⟨v', he, hr⟩ := part_ok (P := P) (w := w) (t := e) (off := j.toNat * n) hu hi hv (by rcases hagg with ⟨a, b⟩ | ⟨a, b, cc⟩; exact .inl ⟨a, b, hn⟩; exact .inr ⟨a, b, cc⟩) hle h
  exact ⟨v', by simp [Instr.index, run_underlying ht, asIntOf, h0, h1, run_sizeOf hi, ← hn, he], hr⟩
theorem run_strIdx {t : TypeId} (ht : P.underlying t = some .string) {s : ByteArray} {k : IntKind} {j : Int} (h0 : 0 ≤ j) (h1 : j < s.size) : (Instr.index t (.string s) (.int k j)).run P w = .ok (.int .u8 (s.data.toList.getD j.toNat 0).toNat) w := by
  have hlt : j.toNat < s.size := by omega
  have e : s[j.toNat]? = some (s.data.toList.getD j.toNat 0) := by
    rw [getElem?_pos s j.toNat hlt]
    have : j.toNat < s.data.size := hlt
    rw [List.getD_eq_getElem?_getD, Array.getElem?_toList, Array.getElem?_eq_getElem this]; rfl
  simp [Instr.index, run_underlying ht, asIntOf, h0, e]
theorem asNat_some {v : Value} {n : Nat} (h : asNat v = some n) : ∃ k j, v = .int k j ∧ 0 ≤ j ∧ j.toNat = n := by
  unfold asNat at h
  split at h
  · rename_i k j
    split at h
    · rename_i h0; exact ⟨k, j, rfl, h0, Option.some.inj h⟩
    · simp at h
  · simp at h
theorem bound_ok {x : Option Operand} {d m n : Nat} (hE : ∀ o, x = some o → VR H.next c (ev f o) (ρ o)) (h : bound f x d m = some n) {g : Option Value → Sem Nat} (hg1 : ∀ k j, 0 ≤ j → j.toNat ≤ m → (g (some (.int k j))).run P w = .ok j.toNat w) (hg0 : (g none).run P w = .ok d w) : (g (x.map ρ)).run P w = .ok n w := by
  unfold bound at h
  cases x with
  | none => simp only [Option.some.injEq] at h; subst h; exact hg0
  | some o =>
    simp only at h
    cases hq : asNat (ev f o) with
    | none => rw [hq] at h; simp at h
    | some k =>
      rw [hq] at h
      simp only at h
      split at h
      · rename_i hle
        obtain rfl := Option.some.inj h
        obtain ⟨kd, j, e1, e2, e3⟩ := asNat_some hq
        have := hE o rfl
        rw [e1] at this
        rw [Option.map_some, this.int, ← e3]
        exact hg1 kd j e2 (by omega)
      · simp at h
theorem bound_le {x : Option Operand} {d m n : Nat} (h : bound f x d m = some n) (hd : d ≤ m) : n ≤ m := by
  unfold bound at h
  split at h
  · obtain rfl := Option.some.inj h; exact hd
  · split at h
    · split at h
      · obtain rfl := Option.some.inj h; assumption
      · simp at h
    · simp at h
theorem run_bound (k : IntKind) (j : Int) (m : Nat) (code : BoundsCode) (h0 : 0 ≤ j) (hm : j.toNat ≤ m) : (Instr.sliceBound (.int k j) m code).run P w = .ok j.toNat w := by
  simp [Instr.sliceBound, asIntOf, h0, show j ≤ (m : Int) by omega]
theorem run_bounds {lo hi : Option Operand} {len cap l h cap' : Nat} {b : Bool} (hL : ∀ o, lo = some o → VR H.next c (ev f o) (ρ o)) (hH : ∀ o, hi = some o → VR H.next c (ev f o) (ρ o)) (h1 : bound f hi len cap = some h) (h2 : bound f lo 0 h = some l) (hc : cap ≤ cap') :
    (Instr.sliceBounds b len cap' (lo.map ρ) (hi.map ρ) none).run P w = .ok (l, h, cap') w := by
  have e1 := bound_ok (P := P) (w := w) hH h1 (g := fun o => match o with | some v => Instr.sliceBound v cap' (if b then .sliceAcap else .sliceAlen) | none => pure len) (fun k j a b' => run_bound k j cap' _ a (by omega)) (by simp)
  have e2 := bound_ok (P := P) (w := w) hL h2 (g := fun o => match o with | some v => Instr.sliceBound v h .sliceB | none => pure 0) (fun k j a b' => run_bound k j h _ a b') (by simp)
  unfold Instr.sliceBounds
  cases hi with
  | none =>
    cases lo with
    | none => simp at e1 e2 ⊢; exact ⟨e2.symm ▸ rfl, e1⟩
    | some y => simp at e1 e2 ⊢; subst e1; simp [e2]
  | some x =>
    cases lo with
    | none => simp at e1 e2 ⊢; simp [e1, e2]
    | some y => simp at e1 e2 ⊢; simp [e1, e2]
theorem run_min {x y x' y' v : Value} {n : Nat} (hx : VR n c x x') (hy : VR n c y y') (h : minV x y = some v) : (Builtin.min2 x' y').run P w = .ok v w ∧ p1 v = true := by
  unfold minV at h
  split at h
  · obtain rfl := hx.int; obtain rfl := hy.int; obtain rfl := Option.some.inj h; exact ⟨by simp [Builtin.min2], rfl⟩
  · simp at h
theorem run_max {x y x' y' v : Value} {n : Nat} (hx : VR n c x x') (hy : VR n c y y') (h : maxV x y = some v) : (Builtin.max2 x' y').run P w = .ok v w ∧ p1 v = true := by
  unfold maxV at h
  split at h
  · obtain rfl := hx.int; obtain rfl := hy.int; obtain rfl := Option.some.inj h; exact ⟨by simp [Builtin.max2], rfl⟩
  · simp at h
theorem run_fold {g : Value → Value → Option Value} {s : Value → Value → Sem Value} {n : Nat} (hg : ∀ x y x' y' v, VR n c x x' → VR n c y y' → g x y = some v → (s x' y').run P w = .ok v w ∧ p1 v = true) :
    ∀ (l l' : List Value) (x x' v : Value), VR n c x x' → VRL n c l l' → foldV g x l = some v → ∃ v', (l'.foldlM s x').run P w = .ok v' w ∧ VR n c v v'
  | [], l', x, x', v, hx, hl, h => by
    rw [hl.nil_inv]
    simp only [foldV, Option.some.injEq] at h
    subst h
    exact ⟨x', by simp, hx⟩
  | y :: l, l', x, x', v, hx, hl, h => by
    obtain ⟨y', l'', rfl, h1, h2⟩ := hl.uncons
    simp only [foldV] at h
    cases hq : g x y with
    | none => rw [hq] at h; simp at h
    | some u =>
      rw [hq] at h
      obtain ⟨r1, r2⟩ := hg x y x' y' u hx h1 hq
      obtain ⟨v', r3, r4⟩ := run_fold hg l l'' u u v (.plain r2) h2 h
      exact ⟨v', by simp [List.foldlM_cons, r1, r3], r4⟩
end
end Go.Proofs.Ytildhljhbbhmmaa.AM
/- More of the same: what is built, what is loaded, stored, made. -/
namespace Go.Proofs.Ytildhljhbbhmmaa.AM
open Go Go.RowKit
set_option linter.all false
section
variable {P : Program} {N : Nat} {c : CMap} {H : AH} {w : World} {f : Fr} {ρ : Operand → Value}

/-! ### Aggregates that are built -/
theorem fold_splice : ∀ (vs : List Value) (off k : Nat) (cs : Array Value), ((vs.zipIdx k).foldl (fun cs (x : Value × Nat) => cs.setIfInBounds (off + x.2) x.1) cs).toList = splice cs.toList (off + k) vs
  | [], off, k, cs => rfl
  | v :: vs, off, k, cs => by
    simp only [List.zipIdx_cons, List.foldl_cons]
    rw [fold_splice vs off (k + 1) _]
    simp [splice, Nat.add_assoc]
theorem fill_ok (place : Nat → Option (Nat × Nat)) : ∀ (ps : List (Nat × Value)) (qs : List (Nat × Nat × Value)) (cs cs' : Array Value) (r : List Value), 
    ps.length = qs.length → (∀ (j i : Nat) (v : Value), ps[j]? = some (i, v) → ∃ (off n : Nat) (u : Value), qs[j]? = some (off, n, u) ∧ place i = some (off, n) ∧ VR H.next c u v) → VRL H.next c cs.toList cs'.toList → fillC cs.toList qs = some r →
    ∃ r' : Array Value, Instr.fill place cs' ps = some r' ∧ VRL H.next c r r'.toList
  | [], qs, cs, cs', r, hlen, _, hv, h => by
    obtain rfl : qs = [] := List.eq_nil_of_length_eq_zero hlen.symm
    simp only [fillC, Option.some.injEq] at h
    subst h
    exact ⟨cs', rfl, hv⟩
  | (i, v) :: ps, qs, cs, cs', r, hlen, hp, hv, h => by
    obtain ⟨off, n, u, hq, hpl, hr⟩ := hp 0 i v rfl
    cases qs with
    | nil => simp at hq
    | cons q qs =>
      simp only [List.getElem?_cons_zero, Option.some.injEq] at hq
      subst hq
      simp only [fillC] at h
      split at h
      · rename_i hcond
        have hcu := hr.cells
        have hsz : v.cells.size = n := by have := hcu.1; simp at this; omega
        have hcs : cs'.size = cs.size := by have := hv.1; simpa using this.symm
        have hstep : VRL H.next c (splice cs.toList off u.cells.toList) (v.cells.zipIdx.foldl (fun cs (x, j) => cs.setIfInBounds (off + j) x) cs').toList := by
          have e := fold_splice v.cells.toList off 0 cs'
          have e2 : (v.cells.zipIdx.foldl (fun cs (x : Value × Nat) => cs.setIfInBounds (off + x.2) x.1) cs').toList = splice cs'.toList off v.cells.toList := by
            rw [Nat.add_zero] at e; rw [← e, ← Array.foldl_toList]; simp
          exact e2 ▸ hv.splice off hcu
        have ht : (splice cs.toList off u.cells.toList) = ((splice cs.toList off u.cells.toList).toArray).toList := by simp
        rw [ht] at h hstep
        obtain ⟨r', e1, e2⟩ := fill_ok place ps qs _ _ r (by simpa using hlen) (fun j i' v' hj => by simpa using hp (j + 1) i' v' (by simpa using hj)) hstep h
        refine ⟨r', ?_, e2⟩
        simp only [Instr.fill, hpl]
        have hc2 := hcond.2
        simp only [Array.length_toList] at hc2
        rw [if_neg (by simp [hsz]; omega)]
        exact e1
      · simp at h
theorem parts_ok {place : Nat → Option (Nat × TypeId)} (hE : ∀ x, opdOk x = true → VR H.next c (ev f x) (ρ x)) : ∀ (ps : List (Nat × Operand)) (l : List (Nat × Nat × Operand)), partsOf P place ps = some l → (∀ p ∈ ps, opdOk p.2 = true) →
    ps.length = l.length ∧ ∀ (j i : Nat) (x : Operand), ps[j]? = some (i, x) → ∃ (off n : Nat) (t : TypeId) (ti : TypeInfo), l[j]? = some (off, n, x) ∧ place i = some (off, t) ∧ P.info? t = some ti ∧ n = ti.size ∧ VR H.next c (ev f x) (ρ x)
  | [], l, h, _ => by simp only [partsOf, Option.some.injEq] at h; subst h; exact ⟨rfl, fun j i x hj => by simp at hj⟩
  | (i, x) :: ps, l, h, ho => by
    simp only [partsOf] at h
    split at h
    · rename_i off t l' hp hl
      split at h
      · rename_i ti hti
        obtain rfl := Option.some.inj h
        obtain ⟨h1, h2⟩ := parts_ok hE ps l' hl (fun p hp' => ho p (by simp [hp']))
        refine ⟨by simpa using h1, fun j i' x' hj => ?_⟩
        cases j with
        | zero =>
          simp only [List.getElem?_cons_zero, Option.some.injEq, Prod.mk.injEq] at hj
          obtain ⟨rfl, rfl⟩ := hj
          exact ⟨off, ti.size, t, ti, rfl, hp, hti, rfl, hE _ (ho (i, x) (by simp))⟩
        | succ j => simpa using h2 j i' x' (by simpa using hj)
      · simp at h
    · simp at h
theorem fill_of {place : Nat → Option (Nat × TypeId)} {place' : Nat → Option (Nat × Nat)} (hE : ∀ x, opdOk x = true → VR H.next c (ev f x) (ρ x)) {ps : Array (Nat × Operand)} {l : List (Nat × Nat × Operand)} (hl : partsOf P place ps.toList = some l) (ho : ∀ p ∈ ps.toList, opdOk p.2 = true) (hpl : ∀ i off t ti, place i = some (off, t) → P.info? t = some ti → place' i = some (off, ti.size)) {cs cs' : Array Value} (hv : VRL H.next c cs.toList cs'.toList) {r : List Value} (h : fillC cs.toList (l.map fun p => (p.1, p.2.1, ev f p.2.2)) = some r) :
    ∃ r' : Array Value, Instr.fill place' cs' (ps.map fun (i, x) => (i, ρ x)).toList = some r' ∧ VRL H.next c r r'.toList := by
  obtain ⟨h1, h2⟩ := parts_ok (P := P) hE ps.toList l hl ho
  refine fill_ok place' _ _ cs cs' r (by simpa using h1) (fun j i v hj => ?_) hv h
  simp only [Array.toList_map, List.getElem?_map, Option.map_eq_some_iff, Prod.exists, Prod.mk.injEq] at hj
  obtain ⟨i0, x, e1, rfl, rfl⟩ := hj
  obtain ⟨off, n, t, ti, e2, e3, e4, e5, e6⟩ := h2 j i0 x e1
  exact ⟨off, n, ev f x, by simp [e2], by rw [e5]; exact hpl _ _ _ _ e3 e4, e6⟩
end
end Go.Proofs.Ytildhljhbbhmmaa.AM
/- More of the same: memory. -/
namespace Go.Proofs.Ytildhljhbbhmmaa.AM
open Go Go.RowKit
set_option linter.all false
section
variable {P : Program} {N : Nat} {c : CMap} {H : AH} {w : World} {f : Fr} {ρ : Operand → Value}

theorem run_cells {a : Addr} {l : Loc} {cs : List Value} {n : Nat} (hn : cs.length = n) (h : ∀ j v, cs[j]? = some v → w.cell? ⟨l.blk, l.sh + a.off + j, none⟩ = some v) : (loadCells ⟨l.blk, l.sh + a.off, none⟩ n).run P w = .ok cs.toArray w := by
  subst hn
  exact run_loadCells_list (P := P) w _ cs fun j v hj => by rw [add_eq]; exact h j v hj
theorem load_ok (hs : Sim N c H w) {t : TypeId} {d : TypeDesc} {i : TypeInfo} (hu : P.underlying t = some d) (hi : P.info? t = some i) {a : Addr} {v' : Value} (ha : VR H.next c (.pointer (some a)) v') {agg : Bool} {n : Nat} (hagg : (isAggT d = true ∧ agg = true ∧ n = i.size) ∨ (isAggT d = false ∧ agg = false ∧ n = 1)) {cs : List Value} (hl : ldc H a n = some cs) {v : Value} (h : oneOf agg cs = some v) :
    Does P N c H w (Instr.loadAt t v') v H := by
  obtain ⟨l, cs', hc, hlen, _, hv, hr⟩ := hs.read hl
  obtain ⟨rfl, _⟩ := ha.ptrL hc
  have hn' : cs'.length = n := by rw [← hv.1]; exact hlen
  rcases hagg with ⟨h1, rfl, rfl⟩ | ⟨h1, rfl, rfl⟩
  · simp only [oneOf, if_true, Option.some.injEq] at h
    subst h
    exact .pure hs (v' := .agg cs'.toArray) (by simp [Instr.loadAt, Instr.sureAddr, loadVar, run_isAgg hu, h1, run_sizeOf hi, run_cells hn' hr]) hv.agg
  · simp only [oneOf, Bool.false_eq_true, if_false] at h
    split at h
    · rename_i x
      obtain rfl := Option.some.inj h
      obtain ⟨x', l', rfl, hx, hl'⟩ := hv.uncons
      exact .pure hs (v' := x') (by
        have := hr 0 x' rfl
        rw [Nat.add_zero] at this
        simp [Instr.loadAt, Instr.sureAddr, loadVar, run_isAgg hu, h1, this]) hx
    · simp at h
theorem load_ok' (hs : Sim N c H w) {t : TypeId} {d : TypeDesc} {i : TypeInfo} (hu : P.underlying t = some d) (hi : P.info? t = some i) {a : Addr} {v' : Value} (ha : VR H.next c (.pointer (some a)) v') {agg : Bool} {n : Nat} (hagg : (isAggT d = true ∧ agg = true ∧ n = i.size) ∨ (isAggT d = false ∧ agg = false ∧ n = 1)) {cs : List Value} (hl : ldc H a n = some cs) {v : Value} (h : oneOf agg cs = some v) :
    ∃ v2, (Instr.loadAt t v').run P w = .ok v2 w ∧ VR H.next c v v2 := by
  obtain ⟨l, cs', hc, hlen, _, hv, hr⟩ := hs.read hl
  obtain ⟨rfl, _⟩ := ha.ptrL hc
  have hn' : cs'.length = n := by rw [← hv.1]; exact hlen
  rcases hagg with ⟨h1, rfl, rfl⟩ | ⟨h1, rfl, rfl⟩
  · simp only [oneOf, if_true, Option.some.injEq] at h
    subst h
    exact ⟨.agg cs'.toArray, by simp [Instr.loadAt, Instr.sureAddr, loadVar, run_isAgg hu, h1, run_sizeOf hi, run_cells hn' hr], hv.agg⟩
  · simp only [oneOf, Bool.false_eq_true, if_false] at h
    split at h
    · rename_i x
      obtain rfl := Option.some.inj h
      obtain ⟨x', l', rfl, hx, hl'⟩ := hv.uncons
      exact ⟨x', by
        have := hr 0 x' rfl
        rw [Nat.add_zero] at this
        simp [Instr.loadAt, Instr.sureAddr, loadVar, run_isAgg hu, h1, this], hx⟩
    · simp at h
theorem store_ok (hs : Sim N c H w) {t : TypeId} {i : TypeInfo} (hi : P.info? t = some i) {a : Addr} {v' x x' : Value} (ha : VR H.next c (.pointer (some a)) v') (hx : VR H.next c x x') (hn : x.cells.size = i.size) {H' : AH} (h : stc H a x.cells.toList = some H') :
    ∃ w', (Instr.storeAt t v' x').run P w = .ok () w' ∧ Sim N c H' w' ∧ ExtW N c H w c H' w' := by
  unfold stc at h
  split at h
  case isFalse => simp at h
  rename_i hone
  unfold stU at h
  cases hb : H.get a.block with
  | none => rw [hb] at h; simp at h
  | some b =>
    rw [hb] at h
    simp only at h
    split at h
    · rename_i hcond
      obtain ⟨hro, hle⟩ := hcond
      obtain rfl := Option.some.inj h
      obtain ⟨l, hc, hr⟩ := hs.at_ hb
      obtain ⟨rfl, _⟩ := ha.ptrL hc
      have hcx := hx.cells
      obtain ⟨w', e1, e2, e3⟩ := hs.store hb hc hro hcx hle hone P
      have hsz : x'.cells.size = i.size := by have := hcx.1; simp at this; omega
      exact ⟨w', by simp [Instr.storeAt, Instr.sureAddr, storeVar, run_sizeOf hi, hsz, e1], e2, e3⟩
    · simp at h
theorem p1_one {l : List Value} (h : l.all p1 = true) : l.all one = true := by
  rw [List.all_eq_true] at h ⊢
  intro x hx
  have := h x hx
  cases x <;> first | rfl | (simp [p1] at this)
/-- A new row, all of whose cells are told. -/
theorem new_ok (hs : Sim N c H w) {b : Blk} {cs : Array Value} {ty : TypeId} (hv : VRL H.next c b.cells cs.toList) (ho : b.cells.all one = true) : ∃ c', Sim N c' (H.push b) (w.alloc (.cells cs ty)) ∧ ExtW N c H w c' (H.push b) (w.alloc (.cells cs ty)) ∧ c' H.next = some ⟨w.heap.size, 0, cs.size, b.es⟩ ∧ VR (H.push b).next c' (.pointer (some ⟨H.next, 0, none⟩)) (.pointer (some ⟨w.heap.size, 0, none⟩)) := by
  obtain ⟨h1, h2⟩ := hs.push (b := b) (cs := cs) (ty := ty) (fz := (0, 0)) (rest := []) (by simp) hv ho (by simp)
  refine ⟨_, h1, h2, if_pos rfl, ?_⟩
  exact VR.ptr (a := ⟨H.next, 0, none⟩) (l := ⟨w.heap.size, 0, cs.size, b.es⟩) (by simp) (if_pos rfl) rfl
theorem alloc_ok (hs : Sim N c H w) {t : TypeId} {i : TypeInfo} {z : Value} (hi : P.info? t = some i) (hz : i.zero = some z) (hp : z.cells.toList.all p1 = true) (es : Nat) :
    Does P N c H w (Instr.alloc t true (.tuple #[])) (.pointer (some ⟨H.next, 0, none⟩)) (H.push ⟨z.cells.toList, es, false⟩) := by
  obtain ⟨c', h1, h2, _, h3⟩ := new_ok hs (b := ⟨z.cells.toList, es, false⟩) (cs := z.cells) (ty := t) (.refl hp) (p1_one hp)
  exact ⟨_, c', _, by simp [Instr.alloc, run_zeroValue hi hz, newVar, newRow], h3, h1, h2⟩
theorem box_ok (hs : Sim N c H w) {t : TypeId} {x x' : Value} (hx : VR H.next c x x') (hone : x.cells.toList.all one = true) (es : Nat) :
    Does P N c H w (Instr.box t x') (.pointer (some ⟨H.next, 0, none⟩)) (H.push ⟨x.cells.toList, es, false⟩) := by
  obtain ⟨c', h1, h2, _, h3⟩ := new_ok hs (b := ⟨x.cells.toList, es, false⟩) (cs := x'.cells) (ty := t) hx.cells hone
  exact ⟨_, c', _, by simp [Instr.box, newVar, newRow], h3, h1, h2⟩
/-- The slice of a new row. -/
theorem new_slice (hs : Sim N c H w) {b : Blk} {cs : Array Value} {ty : TypeId} {fz : Nat × Nat} {rest mid : List Value} (hcs : cs.toList = mid ++ rest) (hv : VRL H.next c b.cells mid) (ho : b.cells.all one = true) (hfz : ∀ j, j < cs.size → ¬ (fz.1 ≤ j ∧ j < fz.2)) {n k k' : Nat} (hk : k ≤ k') (hkk : k' * b.es ≤ cs.size) :
    ∃ c', Sim N c' (H.push b) (w.alloc (.cells cs ty fz)) ∧ ExtW N c H w c' (H.push b) (w.alloc (.cells cs ty fz)) ∧ VR (H.push b).next c' (.slice (some ⟨H.next, 0, none⟩) n k) (.slice (some ⟨w.heap.size, 0, none⟩) n k') := by
  obtain ⟨h1, h2⟩ := hs.push (b := b) (cs := cs) (ty := ty) (fz := fz) (rest := rest) hcs hv ho hfz
  refine ⟨_, h1, h2, ?_⟩
  exact VR.slice (a := ⟨H.next, 0, none⟩) (l := ⟨w.heap.size, 0, cs.size, b.es⟩) (by simp) (if_pos rfl) rfl hk (by simp; exact hkk)
/-- A thing that nobody reads is made. -/
theorem Sim.alloc (hs : Sim N c H w) (o : Obj) : Sim N c H (w.alloc o) ∧ ExtW N c H w c H (w.alloc o) := by
  have hold : ∀ (l : Loc) id b', H.get id = some b' → c id = some l → l.blk < w.heap.size := fun l id b' h1 h2 => by
    obtain ⟨cs', ty', fz', mid', h3, _⟩ := (hs.blk id b' l h1 h2).row
    exact (Array.getElem?_eq_some_iff.1 h3).1
  refine ⟨⟨hs.live, fun id b l h1 h2 => ?_, hs.inj, by show N ≤ (w.heap.push o).size; simp; have := hs.size; omega⟩, ⟨Nat.le_refl _, fun _ _ => .inl rfl, Nat.le_refl _, fun id hid _ => ⟨rfl, rfl, fun l hl => ?_⟩, (Below.refl N w).alloc hs.size _⟩⟩
  · obtain ⟨cs', ty', fz', mid', k1, k2, k3, k4, k5, k6⟩ := (hs.blk id b l h1 h2).row
    exact ⟨(hs.blk id b l h1 h2).es, (hs.blk id b l h1 h2).ones, cs', ty', fz', mid', by rw [Below.heap_alloc _ _ _ (hold l id b h1 h2)]; exact k1, k2, k3, k4, k5, k6⟩
  · have := hs.live id
    rw [hl] at this
    obtain ⟨b, hb⟩ := Option.isSome_iff_exists.1 this
    exact Below.heap_alloc _ _ _ (hold l id b hb hl)
theorem range_flatten (z : Array Value) : ∀ n, 0 < z.size → ((Array.range (n * z.size)).map (fun i => z[i % z.size]!)).toList = (List.replicate n z.toList).flatten := by
  intro n hz
  apply List.ext_getElem?
  intro j
  simp only [Array.toList_map, Array.toList_range, List.getElem?_map]
  by_cases hj : j < n * z.size
  · rw [List.getElem?_range hj]
    have e : ((List.replicate n z.toList).flatten)[j]? = z.toList[j % z.size]? := by
      induction n generalizing j with
      | zero => simp at hj
      | succ n ih =>
        rw [List.replicate_succ, List.flatten_cons]
        by_cases h : j < z.size
        · rw [List.getElem?_append_left (by simpa using h), Nat.mod_eq_of_lt h]
        · rw [List.getElem?_append_right (by simp; omega), ih _ (by simp [Nat.succ_mul] at hj ⊢; omega)]
          simp only [Array.length_toList]
          rw [← Nat.mod_eq_sub_mod (by omega)]
    rw [e]
    have := Nat.mod_lt j hz
    simp [this, getElem!_pos]
  · rw [List.getElem?_eq_none (by simp; omega), List.getElem?_eq_none (by simp; omega)]; rfl
theorem rep_eq (n : Nat) (z : List Value) : rep n z = (List.replicate n z).flatten := by
  unfold rep
  split
  · rename_i z
    induction n with
    | zero => rfl
    | succ n ih => rw [List.replicate_succ, List.replicate_succ, List.flatten_cons, ih]; rfl
  · rfl
theorem rep_p1 {n : Nat} {z : List Value} (h : z.all p1 = true) : (rep n z).all p1 = true := by
  rw [rep_eq]
  induction n with
  | zero => rfl
  | succ n ih => rw [List.replicate_succ, List.flatten_cons, List.all_append, h, ih]; rfl
theorem rep_length (n : Nat) (z : List Value) : (rep n z).length = n * z.length := by
  rw [rep_eq]; simp
theorem made_list (z : Array Value) (n : Nat) (h : 0 < z.size) : (madeCells z (n * z.size)).toList = rep n z.toList := by
  rw [rep_eq]; exact range_flatten z n h
theorem mkSlice_ok (hs : Sim N c H w) {t e : TypeId} {i : TypeInfo} {z : Value} (ht : P.underlying t = some (.slice e)) (hi : P.info? e = some i) (hz : i.zero = some z) (hsz : i.size = z.cells.size) (h1 : 0 < i.size) (hp : z.cells.toList.all p1 = true) {k k2 : IntKind} {n m : Int} (h0 : 0 ≤ n) (hnm : n ≤ m) (hb : m.toNat * i.bytes ≤ 140737488355328) (hm : m ≤ 9223372036854775807) :
    Does P N c H w (Instr.makeSlice t (.int k n) (.int k2 m)) (.slice (some ⟨H.next, 0, none⟩) n.toNat m.toNat) (H.push ⟨rep m.toNat z.cells.toList, i.size, false⟩) := by
  have hbig : (i.bytes : Int) * m ≤ 281474976710656 := by
    obtain ⟨q, rfl⟩ := Int.eq_ofNat_of_zero_le (show 0 ≤ m by omega)
    simp only [Int.toNat_natCast] at hb
    have h3 : ((i.bytes * q : Nat) : Int) = (i.bytes : Int) * (q : Int) := Int.natCast_mul _ _
    rw [Nat.mul_comm] at hb
    rw [← h3]
    generalize i.bytes * q = y at hb
    omega
  have hr := run_make (P := P) w t e i z ht hi hz k k2 n m h0 hnm hbig hm
  obtain ⟨c', g1, g2, g3⟩ := new_slice hs (b := ⟨rep m.toNat z.cells.toList, i.size, false⟩) (cs := madeCells z.cells (m.toNat * i.size)) (ty := e) (fz := (0, 0)) (rest := []) (mid := rep m.toNat z.cells.toList) (by rw [hsz, made_list _ _ (by omega)]; simp) (.refl (rep_p1 hp)) (p1_one (rep_p1 hp)) (by simp) (n := n.toNat) (k := m.toNat) (k' := m.toNat) (Nat.le_refl _) (by rw [size_madeCells]; exact Nat.le_refl _)
  exact ⟨_, c', _, hr, g3, g1, g2⟩
end
end Go.Proofs.Ytildhljhbbhmmaa.AM
/- More of the same: append, copy, strings and bytes. -/
namespace Go.Proofs.Ytildhljhbbhmmaa.AM
open Go Go.RowKit
set_option linter.all false
section
variable {P : Program} {N : Nat} {c : CMap} {H : AH} {w : World} {f : Fr} {ρ : Operand → Value}

/-- A block that no live number leads to is taken in under a new number, some of its cells being written. -/
theorem Sim.adopt (hs : Sim N c H w) {g sh : Nat} {b : Blk} {cs : Array Value} {ty : TypeId} {fz : Nat × Nat} {w' : World} (hfree : ∀ id l, c id = some l → l.blk ≠ g) (hN : N ≤ g) (hg : w'.heap[g]? = some (.cells cs ty fz)) (hfz : ∀ j, j < cs.size → ¬ (fz.1 ≤ j ∧ j < fz.2)) (hoth : ∀ k, k ≠ g → w'.heap[k]? = w.heap[k]?) (hsz : w'.heap.size = w.heap.size) (hb : Below N w w') {mid : List Value} (hone : b.cells.all one = true) (hle : sh + b.cells.length ≤ cs.size) (hcs : ∀ j, j < b.cells.length → cs[sh + j]? = some (mid.getD j Go.undef)) (hm : VRL H.next c b.cells mid) :
    Sim N (fun id => if id = H.next then some ⟨g, sh, cs.size, b.es⟩ else c id) (H.push b) w' ∧ ExtW N c H w (fun id => if id = H.next then some ⟨g, sh, cs.size, b.es⟩ else c id) (H.push b) w' := by
  have hdom : ∀ id, id < H.next → (fun id => if id = H.next then some (⟨g, sh, cs.size, b.es⟩ : Loc) else c id) id = c id ∨ (fun id => if id = H.next then some (⟨g, sh, cs.size, b.es⟩ : Loc) else c id) id = none :=
    fun id hid => .inl (if_neg (by omega))
  have hmono : ∀ {l l' : List Value}, VRL H.next c l l' → VRL (H.push b).next (fun id => if id = H.next then some ⟨g, sh, cs.size, b.es⟩ else c id) l l' :=
    fun h => h.mono (by simp) hdom
  refine ⟨⟨fun id => ?_, fun id b' l h1 h2 => ?_, fun id id' b' l l' hne h1 hro h2 h3 => ?_, by rw [hsz]; exact hs.size⟩, ⟨by simp, hdom, Nat.le_refl _, fun id hid _ => ⟨if_neg (by omega), by rw [get_push, if_neg (by omega)], fun l hl => hoth _ (hfree id l hl)⟩, hb⟩⟩
  · rw [get_push]
    by_cases e : id = H.next
    · simp [e]
    · simp only [if_neg e]; exact hs.live id
  · rw [get_push] at h1
    by_cases e : id = H.next
    · rw [if_pos e] at h1
      simp only [if_pos e] at h2
      obtain rfl := Option.some.inj h1
      obtain rfl := Option.some.inj h2
      exact ⟨rfl, hone, cs, ty, fz, mid, hg, rfl, fun _ => ⟨hN, hfz⟩, hle, hcs, hmono hm⟩
    · rw [if_neg e] at h1
      simp only [if_neg e] at h2
      obtain ⟨cs', ty', fz', mid', k1, k2, k3, k4, k5, k6⟩ := (hs.blk id b' l h1 h2).row
      exact ⟨(hs.blk id b' l h1 h2).es, (hs.blk id b' l h1 h2).ones, cs', ty', fz', mid', (hoth _ (hfree id l h2)).trans k1, k2, k3, k4, k5, hmono k6⟩
  · rw [get_push] at h1
    by_cases e : id = H.next
    · simp only [if_pos e] at h2
      obtain rfl := Option.some.inj h2
      have e' : id' ≠ H.next := fun h => hne (by omega)
      simp only [if_neg e'] at h3
      exact fun h => hfree id' l' h3 h.symm
    · rw [if_neg e] at h1
      simp only [if_neg e] at h2
      by_cases e' : id' = H.next
      · simp only [if_pos e'] at h3
        obtain rfl := Option.some.inj h3
        exact hfree id l h2
      · simp only [if_neg e'] at h3
        exact hs.inj id id' b' l l' hne h1 hro h2 h3
/-- Cells are written behind a slice's end, and the longer slice has a number of its own. -/
theorem Sim.regrow (hs : Sim N c H w) {id off m : Nat} {b : Blk} {l : Loc} (hb : H.get id = some b) (hc : c id = some l) (hro : b.ro = false) {old new new' : List Value} (hold : ldc H ⟨id, off, none⟩ m = some old) (hnew : VRL H.next c new new') (hone : new.all one = true) (hfit : l.sh + off + m + new.length ≤ l.sz) (P : Program) :
    ∃ w' c', (storeCells ⟨l.blk, l.sh + off + m, none⟩ new').run P w = .ok () w' ∧ Sim N c' ((H.set id none).push ⟨old ++ new, b.es, false⟩) w' ∧ ExtW N c H w c' ((H.set id none).push ⟨old ++ new, b.es, false⟩) w' ∧ c' H.next = some ⟨l.blk, l.sh + off, l.sz, b.es⟩ := by
  obtain ⟨l2, old', hc2, hlen, hoo, hv, hr⟩ := hs.read hold
  simp only at hc2
  rw [hc] at hc2
  obtain rfl := Option.some.inj hc2
  obtain ⟨cs, ty, fz, mid, k1, k2, k3, k4, k5, k6⟩ := (hs.blk id b l hb hc).row
  obtain ⟨hN, hfz⟩ := k3 hro
  have hone' := hnew.one hone
  have hnl := hnew.1
  obtain ⟨w', e1, e2, e3, e4, e5, e6, e7⟩ := run_storeRow P l.blk (l.sh + off + m) ty fz new' 0 cs w k1 (by rw [k2]; exact hfz) (by omega) hone'
  obtain ⟨s1, x1⟩ := hs.kill hb
  have hsize : (splice cs.toList (l.sh + off + m + 0) new').toArray.size = l.sz := by simp [splice_length, k2]
  have hol : old'.length = m := by rw [← hv.1]; exact hlen
  have had := s1.adopt (g := l.blk) (sh := l.sh + off) (b := ⟨old ++ new, b.es, false⟩) (cs := (splice cs.toList (l.sh + off + m + 0) new').toArray) (ty := ty) (fz := fz) (w' := w') (mid := old' ++ new')
    (fun j l' hj => by
      by_cases e : j = id
      · simp [e] at hj
      · simp only [if_neg e] at hj
        exact fun h => hs.inj id j b l l' (fun h => e h.symm) hb hro hc hj h.symm)
    hN e2 (by rw [hsize]; exact hfz) e3 e4 ⟨e5, e6, e7, by omega, fun k hk => e3 k (by omega)⟩
    (by rw [List.all_append, hoo, hone]; rfl) (by rw [hsize]; simp; omega)
    (fun j hj => by
      simp only [List.length_append] at hj
      have hlc : cs.toList.length = l.sz := by simp [k2]
      simp only [List.getElem?_toArray]
      rw [splice_get _ _ _ _ (by omega), List.getD_eq_getElem?_getD]
      by_cases hjm : j < m
      · rw [if_neg (by omega), List.getElem?_append_left (by omega)]
        have := hr j old'[j] (List.getElem?_eq_getElem (by omega))
        simp only [World.cell?, k1, Option.isSome_none, Bool.false_eq_true, if_false] at this
        rw [Array.getElem?_toList, this, List.getElem?_eq_getElem (by omega)]; rfl
      · rw [if_pos (by omega), List.getElem?_append_right (by omega), show l.sh + off + j - (l.sh + off + m + 0) = j - old'.length by omega, List.getElem?_eq_getElem (by omega)]; rfl)
    ((hv.append hnew).mono (by simp) x1.dom)
  obtain ⟨s2, x2⟩ := had
  refine ⟨w', _, e1, s2, x1.trans x2, ?_⟩
  simp only [next_set, if_true]
  rw [hsize]
/-- What is appended. -/
theorem added_ok (hs : Sim N c H w) {e : TypeId} {x x' : Value} (hx : VR H.next c x x') {es k : Nat} {new : List Value} (h : added H es x = some (k, new)) {tx : TypeId} (hk : (∃ e', P.underlying tx = some (.slice e')) ∨ P.underlying tx = some .string) :
    ∃ new', Src P es tx x' k new' w ∧ VRL H.next c new new' ∧ new.all one = true ∧ new.length = k * es := by
  unfold added at h
  split at h
  · rename_i n cp
    split at h
    · rename_i h0
      subst h0
      simp only [Option.some.injEq, Prod.mk.injEq] at h
      obtain ⟨rfl, rfl⟩ := h
      rw [hx.slcN]
      rcases hk with ⟨e', hk⟩ | hk
      · exact ⟨[], Src.ofNil w hk cp, .nil, rfl, by simp⟩
      · refine ⟨[], ⟨.inr hk, fun _ => rfl, ?_, ?_, by simp, fun _ h => by cases h⟩, .nil, rfl, by simp⟩ <;> rfl
    · simp at h
  · rename_i a n cp
    unfold orZ at h
    split at h
    · rename_i y hy
      simp only [Option.some.injEq] at h
      subst h
      split at hy
      case h_2 => simp at hy
      rename_i l hl
      simp only [Option.some.injEq, Prod.mk.injEq] at hy
      obtain ⟨rfl, rfl⟩ := hy
      obtain ⟨lc, cs', hc, hlen, hone, hv, hr⟩ := hs.read hl
      obtain ⟨k', rfl, _, _, _⟩ := hx.slcL hc
      have hl' : cs'.length = n * es := by rw [← hv.1]; exact hlen
      have hnews : ∀ j u, cs'[j]? = some u → w.cell? ((⟨lc.blk, lc.sh + a.off, none⟩ : Addr).add j) = some u := fun j u hj => by rw [add_eq]; exact hr j u hj
      rcases hk with ⟨e', hk⟩ | hk
      · exact ⟨cs', Src.ofSlice w hk _ n k' cs' hl' hnews (hv.one hone), hv, hone, hlen⟩
      · exact ⟨cs', ⟨.inr hk, fun _ => rfl, run_firstCells_some w es n _ n k' cs' hl' hnews, run_firstCells_some w.drew es n _ n k' cs' hl' (by simpa using hnews), hl', hv.one hone⟩, hv, hone, hlen⟩
    · split at h
      case isFalse => simp at h
      rename_i h0
      subst h0
      simp only [Option.some.injEq, Prod.mk.injEq] at h
      obtain ⟨rfl, rfl⟩ := h
      obtain ⟨a'', k', rfl⟩ : ∃ a'' k', x' = .slice (some a'') 0 k' := by
        cases hx with
        | plain hp => simp [p1] at hp
        | slice _ _ _ _ _ => exact ⟨_, _, rfl⟩
        | sliceDead _ _ => exact ⟨_, _, rfl⟩
      rcases hk with ⟨e', hk⟩ | hk
      · exact ⟨[], Src.ofSlice w hk a'' 0 k' [] (by simp) (fun j u hj => by simp at hj) (by simp), .nil, rfl, by simp⟩
      · exact ⟨[], ⟨.inr hk, fun _ => rfl, run_firstCells_some w es 0 a'' 0 k' [] (by simp) (fun j u hj => by simp at hj), run_firstCells_some w.drew es 0 a'' 0 k' [] (by simp) (fun j u hj => by simp at hj), by simp, by simp⟩, .nil, rfl, by simp⟩
  · rename_i s
    split at h
    · rename_i h1
      subst h1
      simp only [Option.some.injEq, Prod.mk.injEq] at h
      obtain ⟨rfl, rfl⟩ := h
      rw [hx.str]
      have hall1 : (byteCells s).all p1 = true := by
        rw [List.all_eq_true]
        intro x hx
        obtain ⟨b, _, rfl⟩ := List.mem_map.1 hx
        rfl
      have hlen : (byteCells s).length = s.size := Go.byteCells_length s
      have hall := p1_one hall1
      have hall' : ∀ u ∈ byteCells s, u.oneCell' = true := by
        intro x hx
        obtain ⟨b, _, rfl⟩ := List.mem_map.1 hx
        rfl
      exact ⟨_, ⟨hk, fun _ => rfl, firstCells_string s w, firstCells_string s w.drew, by rw [Nat.mul_one]; exact hlen, hall'⟩, .refl hall1, hall, by rw [hlen, Nat.mul_one]⟩
    · simp at h
  · simp at h
theorem stU_inv {H H' : AH} {a : Addr} {vs : List Value} (h : stU H a vs = some H') : ∃ b, H.get a.block = some b ∧ b.ro = false ∧ a.off + vs.length ≤ b.cells.length ∧ H' = H.set a.block (some { b with cells := splice b.cells a.off vs }) := by
  unfold stU at h
  cases hb : H.get a.block with
  | none => rw [hb] at h; simp at h
  | some b =>
    rw [hb] at h
    simp only at h
    split at h
    · rename_i hc; exact ⟨b, rfl, hc.1, hc.2, (Option.some.inj h).symm⟩
    · simp at h
/-- A row that has grown. -/
theorem grown_ok {r : Sem Value} {e : TypeId} {z : Value} {need cap0 n0 : Nat} {b : Blk} {all' : List Value} (hs : Sim N c H w) (hr : r.run P w = .ok (.slice (some ⟨w.heap.size, 0, none⟩) n0 (grownCap w n0 cap0 e)) (w.drew.alloc (.cells (all'.toArray ++ Builtin.zeroCells z.cells (grownCap w n0 cap0 e - n0)) e))) (hzs : b.es = z.cells.size) (hs0 : 0 < b.es) (hnew : VRL H.next c b.cells all') (hone : b.cells.all one = true) (hlen : b.cells.length = n0 * b.es) (hn : n0 = need) :
    Does P N c H w r (.slice (some ⟨H.next, 0, none⟩) need need) (H.push b) := by
  subst hn
  have hge := grownCap_ge w n0 cap0 e
  have hd : Sim N c H w.drew := hs.same rfl
  have hsz : (Builtin.zeroCells z.cells (grownCap w n0 cap0 e - n0)).size = (grownCap w n0 cap0 e - n0) * z.cells.size := by simp [Builtin.zeroCells]
  obtain ⟨c', h1, h2, h3⟩ := new_slice hd (b := b) (cs := all'.toArray ++ Builtin.zeroCells z.cells (grownCap w n0 cap0 e - n0)) (ty := e) (fz := (0, 0)) (rest := (Builtin.zeroCells z.cells (grownCap w n0 cap0 e - n0)).toList) (mid := all') (by simp) hnew hone (by simp) (n := n0) (k := n0) (k' := grownCap w n0 cap0 e) hge (by
    rw [Array.size_append, hsz, ← hzs, List.size_toArray, ← hnew.1, hlen, ← Nat.add_mul]
    exact Nat.mul_le_mul_right _ (by omega))
  exact ⟨_, c', _, hr, h3, h1, (ExtW.drew N c H w).trans h2⟩
/-- append. -/
theorem append_ok (hs : Sim N c H w) {t tx ty e : TypeId} {i : TypeInfo} {z : Value} (ht : P.underlying t = some (.slice e)) (hi : P.info? e = some i) (hz : i.zero = some z) (hzs : i.size = z.cells.size) (hs0 : 0 < i.size) {s s' x' : Value} (hv : VR H.next c s s') {k : Nat} {new new' : List Value} (hS : Src P i.size tx x' k new' w) (hnew : VRL H.next c new new') (hone : new.all one = true) (hlen : new.length = k * i.size) {v : Value} {H' : AH} (h : appended H i.size i.bytes s k new = some (v, H')) (hb0 : 0 < i.bytes) :
    Does P N c H w (Builtin.append_ #[t, tx] ty #[s', x']) v H' := by
  unfold appended at h
  split at h
  · rename_i n cp
    rw [hv.slcN]
    split at h
    · rename_i hcond
      obtain ⟨rfl, rfl⟩ := hcond
      split at h
      · rename_i hk0
        subst hk0
        simp only [Option.some.injEq, Prod.mk.injEq] at h
        obtain ⟨rfl, rfl⟩ := h
        have hnil : new' = [] := by
          have := hnew.1
          rw [hlen, Nat.zero_mul] at this
          exact List.eq_nil_of_length_eq_zero this.symm
        subst hnil
        exact .pure hs (run_append_nothing w t tx ty e i ht hi none 0 0 (Nat.le_refl _) x' hS) (.plain rfl)
      · split at h
        · rename_i hk0 hkb
          simp only [Option.some.injEq, Prod.mk.injEq] at h
          obtain ⟨rfl, rfl⟩ := h
          have hkp : k ≤ 140737488355328 := Nat.le_trans (Nat.le_mul_of_pos_right _ hb0) hkb
          have hr := run_append_grow_src w t tx ty e i z ht hi hz none 0 0 [] (run_firstCells_none w.drew i.size 0 0 0) x' k new' hS (by omega) (by omega) (by rw [Nat.zero_add]; exact growslice_fits (by omega) hkb)
          exact grown_ok (b := ⟨new, i.size, false⟩) (all' := new') hs (by simpa using hr) hzs hs0 hnew hone (by simpa using hlen) (by simp)
        · simp at h
    · simp at h
  · rename_i a n cp
    split at h
    · simp at h
    · rename_i b hb
      obtain ⟨l, hc, hbr⟩ := hs.at_ hb
      obtain ⟨k', rfl, ha, hk1, hk2⟩ := hv.slcL hc
      have hbl := hbr.es
      split at h
      · rename_i hcond
        obtain ⟨hes, hro⟩ := hcond
        rw [hbl, hes] at hk2
        split at h
        · -- in place
          rename_i hroom
          cases hst : stU H (addA a (n * i.size)) new with
          | none => rw [hst] at h; simp at h
          | some H2 =>
            rw [hst] at h
            simp only [Option.some.injEq, Prod.mk.injEq] at h
            obtain ⟨rfl, rfl⟩ := h
            obtain ⟨b2, hb2, hro2, hle2, rfl⟩ := stU_inv hst
            have hb2' : H.get a.block = some b2 := hb2
            rw [hb] at hb2'
            obtain rfl := Option.some.inj hb2'
            obtain ⟨w', e1, e2, e3⟩ := hs.store (off := a.off + n * i.size) hb hc hro hnew hle2 hone P
            refine ⟨.slice (some ⟨l.blk, l.sh + a.off, none⟩) (n + k) k', c, w', ?_, ?_, e2, e3⟩
            · rw [← Nat.add_assoc] at e1
              rcases hS.kind with ⟨e', hk⟩ | hk <;> simp [Builtin.append_, run_underlying ht, run_underlying hk, sizeOf, typeInfo, hi, hS.len, show n + k ≤ k' by omega, hS.cells, add_eq, e1]
            · exact VR.slice (by simp; exact ha) hc (hv.slcSpot hc) (by omega) (by rw [hbl, hes]; exact hk2)
        · rename_i hroom
          cases hld : ldc H a (n * i.size) with
          | none => rw [hld] at h; simp at h
          | some old =>
            rw [hld] at h
            simp only at h
            split at h
            · rename_i hkb
              simp only [Option.some.injEq, Prod.mk.injEq] at h
              obtain ⟨rfl, rfl⟩ := h
              have hspot := hv.slcSpot hc
              by_cases hfit : n + k ≤ k'
              · -- there is room all the same
                obtain ⟨w', c', e1, e2, e3, e4⟩ := hs.regrow (off := a.off) (m := n * i.size) hb hc hro (old := old) (by rw [← hld]; congr 1; cases a; simp_all) hnew hone (by rw [hlen]; have : (n + k) * i.size ≤ k' * i.size := Nat.mul_le_mul_right _ hfit; rw [Nat.add_mul] at this; omega) P
                refine ⟨.slice (some ⟨l.blk, l.sh + a.off, none⟩) (n + k) k', c', w', ?_, ?_, by rw [hes] at e2; exact e2, by rw [hes] at e3; exact e3⟩
                · rcases hS.kind with ⟨e', hk⟩ | hk <;> simp [Builtin.append_, run_underlying ht, run_underlying hk, sizeOf, typeInfo, hi, hS.len, hfit, hS.cells, add_eq, e1]
                · exact VR.slice (a := ⟨H.next, 0, none⟩) (l := ⟨l.blk, l.sh + a.off, l.sz, b.es⟩) (by simp) e4 rfl hfit (by simp only [Nat.add_zero]; rw [hes]; exact hk2)
              · obtain ⟨l2, old', hc2, hol, hoo, hov, hor⟩ := hs.read hld
                rw [hc] at hc2
                obtain rfl := Option.some.inj hc2
                have hol' : old'.length = n * i.size := by rw [← hov.1]; exact hol
                have hold : (Builtin.firstCells i.size n (.slice (some ⟨l.blk, l.sh + a.off, none⟩) n k')).run P w.drew = .ok old'.toArray w.drew :=
                  run_firstCells_some w.drew i.size n _ n k' old' hol' (fun j u hj => by rw [add_eq]; simpa using hor j u hj)
                have hkp : n + k ≤ 140737488355328 := Nat.le_trans (Nat.le_mul_of_pos_right _ hb0) hkb
                have hr := run_append_grow_src w t tx ty e i z ht hi hz (some ⟨l.blk, l.sh + a.off, none⟩) n k' old' hold x' k new' hS (by omega) (by omega) (growslice_fits (by omega) hkb)
                obtain ⟨s1, x1⟩ := hs.kill hb
                obtain ⟨v2, c2, w2, g1, g2, g3, g4⟩ := grown_ok (H := H.set a.block none) (b := ⟨old ++ new, i.size, false⟩) s1 hr hzs hs0 ((hov.append hnew).mono (by simp) x1.dom) (by rw [List.all_append, hoo, hone]; rfl) (by rw [List.length_append, hol, hlen, Nat.add_mul]) rfl
                exact ⟨v2, c2, w2, g1, by simpa using g2, g3, x1.trans g4⟩
            · simp at h
      · split at h
        · rename_i hcond
          obtain ⟨rfl, hle⟩ := hcond
          simp only [Option.some.injEq, Prod.mk.injEq] at h
          obtain ⟨rfl, rfl⟩ := h
          have hnil : new' = [] := by
            have := hnew.1
            rw [hlen, Nat.zero_mul] at this
            exact List.eq_nil_of_length_eq_zero this.symm
          subst hnil
          exact .pure hs (run_append_nothing w t tx ty e i ht hi _ n k' (by omega) x' hS) hv
        · simp at h
  · simp at h
end
end Go.Proofs.Ytildhljhbbhmmaa.AM
/- More of the same: copy, strings and bytes, literals of slices, arrays that are compared. -/
namespace Go.Proofs.Ytildhljhbbhmmaa.AM
open Go Go.RowKit
set_option linter.all false
section
variable {P : Program} {N : Nat} {c : CMap} {H : AH} {w : World} {f : Fr} {ρ : Operand → Value}

theorem firstV_ok (hs : Sim N c H w) {x x' : Value} (hx : VR H.next c x x') {es n : Nat} {new : List Value} (h : firstV H es n x = some new) :
    ∃ new', (Builtin.firstCells es n x').run P w = .ok new'.toArray w ∧ VRL H.next c new new' ∧ new.all one = true := by
  unfold firstV at h
  split at h
  · rename_i a m cp
    split at h
    · rename_i hnm
      obtain ⟨lc, cs', hc, hlen, hone, hv, hr⟩ := hs.read h
      obtain ⟨k', rfl, _, _, _⟩ := hx.slcL hc
      exact ⟨cs', run_firstCells_some w es n _ m k' cs' (by rw [← hv.1]; exact hlen) (fun j u hj => by rw [add_eq]; exact hr j u hj), hv, hone⟩
    · simp at h
  · rename_i s
    split at h
    · rename_i hc
      obtain ⟨rfl, hn⟩ := hc
      obtain rfl := Option.some.inj h
      rw [hx.str]
      have hall1 : (byteCells s).all p1 = true := by
        rw [List.all_eq_true]
        intro x hx
        obtain ⟨b, _, rfl⟩ := List.mem_map.1 hx
        rfl
      have hp : ((byteCells s).take n).all p1 = true := by
        rw [List.all_eq_true] at hall1 ⊢
        exact fun x hx => hall1 x (List.mem_of_mem_take hx)
      refine ⟨(byteCells s).take n, ?_, .refl hp, p1_one hp⟩
      simp only [Builtin.firstCells]
      refine congrArg (fun z => Result.ok z w) ?_
      apply Array.ext'
      simp [byteCells, Lib.extract_data, List.map_take]
    · simp at h
  · simp at h
theorem lenV_ok {x x' : Value} {n k : Nat} (hx : VR n c x x') (h : lenV x = some k) : (Builtin.lenOf x').run P w = .ok k w := by
  unfold lenV at h
  split at h
  · obtain rfl := Option.some.inj h
    obtain ⟨a', k', rfl, _⟩ := hx.slcI
    rfl
  · obtain rfl := Option.some.inj h
    rw [hx.str]; rfl
  · simp at h
theorem copy_ok (hs : Sim N c H w) {t tx ty e : TypeId} {i : TypeInfo} (ht : P.underlying t = some (.slice e)) (hi : P.info? e = some i) {a : Addr} {n cp : Nat} {d' x x' : Value} (hd : VR H.next c (.slice (some a) n cp) d') (hx : VR H.next c x x') {k : Nat} (hk : lenV x = some k) {new : List Value} (hnew : firstV H i.size (Nat.min k n) x = some new) {H' : AH} (h : stU H a new = some H') :
    Does P N c H w (Builtin.copy_ #[t, tx] ty #[d', x']) (.int .i64 (Nat.min k n)) H' := by
  obtain ⟨new', e1, e2, e3⟩ := firstV_ok (P := P) hs hx hnew
  obtain ⟨b, hb, hro, hle, rfl⟩ := stU_inv h
  obtain ⟨l, hc, hbr⟩ := hs.at_ hb
  obtain ⟨k', rfl, _, _, _⟩ := hd.slcL hc
  obtain ⟨w', g1, g2, g3⟩ := hs.store hb hc hro e2 hle e3 P
  exact ⟨.int .i64 (Nat.min k n), c, w', by simp [Builtin.copy_, run_underlying ht, lenV_ok hx hk, run_sizeOf hi, e1, g1, goInt], .plain rfl, g2, g3⟩
theorem bytesOf_some : ∀ {l : List Value} {bs : List UInt8}, bytesOf l = some bs → ∃ xs : List Int, l = xs.map (Value.int .u8) ∧ bs = xs.map fun n => UInt8.ofNat n.toNat
  | [], bs, h => by simp only [bytesOf, Option.some.injEq] at h; subst h; exact ⟨[], rfl, rfl⟩
  | v :: l, bs, h => by
    simp only [bytesOf] at h
    split at h
    · rename_i b bs' h1 h2
      obtain rfl := Option.some.inj h
      obtain ⟨xs, rfl, rfl⟩ := bytesOf_some h2
      unfold byteOf at h1
      split at h1
      · rename_i n
        obtain rfl := Option.some.inj h1
        exact ⟨n :: xs, rfl, rfl⟩
      · simp at h1
    · simp at h
theorem toStr_ok (hs : Sim N c H w) {src dst e : TypeId} (h1 : P.underlying src = some (.slice e)) (h2 : P.underlying e = some (.int .u8)) (h3 : P.underlying dst = some .string) {a : Addr} {n cp : Nat} {x' : Value} (hx : VR H.next c (.slice (some a) n cp) x') {l : List Value} (hl : ldc H a n = some l) {bs : List UInt8} (hb : bytesOf l = some bs) :
    Does P N c H w (convert src dst x') (.string ⟨bs.toArray⟩) H := by
  obtain ⟨xs, rfl, rfl⟩ := bytesOf_some hb
  obtain ⟨lc, cs', hc, hlen, hone, hv, hr⟩ := hs.read hl
  obtain ⟨k', rfl, _, _, _⟩ := hx.slcL hc
  have hp : (xs.map (Value.int .u8)).all p1 = true := by
    rw [List.all_eq_true]
    intro x hx
    obtain ⟨b, _, rfl⟩ := List.mem_map.1 hx
    rfl
  have := hv.eq1 hp
  subst this
  refine .pure hs (run_convert_bytes_arg w src e h1 h2 lc.blk (lc.sh + a.off) n k' xs (by simpa using hlen) (fun j hj => ?_) dst h3) (.plain rfl)
  have hj' : j < xs.length := by simp at hlen; omega
  exact hr j _ (by simp [List.getD_eq_getElem?_getD, hj'])
theorem toBytes_ok (hs : Sim N c H w) {src dst e : TypeId} (h1 : P.underlying src = some .string) (h2 : P.underlying dst = some (.slice e)) (h3 : P.underlying e = some (.int .u8)) (s : ByteArray) :
    Does P N c H w (convert src dst (.string s)) (.slice (some ⟨H.next, 0, none⟩) s.size s.size) (H.push ⟨byteCells s, 1, false⟩) := by
  have hd : Sim N c H w.drew := hs.same rfl
  have hge := grownCap_ge w s.size 0 e
  have hall1 : (byteCells s).all p1 = true := by
    rw [List.all_eq_true]
    intro x hx
    obtain ⟨b, _, rfl⟩ := List.mem_map.1 hx
    rfl
  have hrow : (bytesRow s (grownCap w s.size 0 e)).toList = byteCells s ++ List.replicate (grownCap w s.size 0 e - s.size) (.int .u8 0) := by
    simp [bytesRow, byteCells]
  have hsz : (bytesRow s (grownCap w s.size 0 e)).size = grownCap w s.size 0 e := by
    have := congrArg List.length hrow
    have hl : (byteCells s).length = s.size := Go.byteCells_length s
    simp only [Array.length_toList, List.length_append, List.length_replicate] at this
    omega
  obtain ⟨c', g1, g2, g3⟩ := new_slice hd (b := ⟨byteCells s, 1, false⟩) (cs := bytesRow s (grownCap w s.size 0 e)) (ty := e) (fz := ((bytesRow s (grownCap w s.size 0 e)).size, (bytesRow s (grownCap w s.size 0 e)).size + 1)) (rest := _) (mid := byteCells s) hrow (.refl hall1) (p1_one hall1) (fun j hj => by omega) (n := s.size) (k := s.size) (k' := grownCap w s.size 0 e) hge (by rw [hsz]; simp)
  exact ⟨_, c', _, run_bytes_of_string w src dst e s h1 h2 h3, g3, g1, (ExtW.drew N c H w).trans g2⟩
theorem buildSlice_ok (hs : Sim N c H w) (hE : ∀ x, opdOk x = true → VR H.next c (ev f x) (ρ x)) {t e : TypeId} {i : TypeInfo} {z : Value} (ht : P.underlying t = some (.slice e)) (hi : P.info? e = some i) (hz : i.zero = some z) (hp : z.cells.toList.all p1 = true) {n : Nat} (hn : n * i.size ≤ 2 ^ 24) (hs0 : 0 < i.size) (hzs : z.cells.size = i.size) {parts : Array (Nat × Operand)} {l : List (Nat × Nat × Operand)} (hl : partsOf P (fun j => some (j * i.size, e)) parts.toList = some l) (ho : ∀ p ∈ parts.toList, opdOk p.2 = true) {cs : List Value} (h : fillC (rep n z.cells.toList) (l.map fun p => (p.1, p.2.1, ev f p.2.2)) = some cs) (hone : cs.all one = true) :
    Does P N c H w (Instr.buildSlice t n (parts.map fun (i, x) => (i, ρ x))) (.slice (some ⟨H.next, 0, none⟩) n n) (H.push ⟨cs, i.size, false⟩) := by
  have hmade := made_list z.cells n (by omega)
  rw [hzs] at hmade
  obtain ⟨r', e1, e2⟩ := fill_of (P := P) (H := H) (c := c) (place' := fun j => some (j * i.size, i.size)) (cs := (rep n z.cells.toList).toArray) (cs' := madeCells z.cells (n * i.size)) hE hl ho (fun j off t ti h1 h2 => by
    simp only [Option.some.injEq, Prod.mk.injEq] at h1
    obtain ⟨rfl, rfl⟩ := h1
    rw [hi] at h2
    obtain rfl := Option.some.inj h2
    rfl) (by rw [hmade]; simpa using VRL.refl (rep_p1 hp)) (by simpa using h)
  have hlen : cs.length = n * i.size := by
    have : ∀ (ps : List (Nat × Nat × Value)) (cs r : List Value), fillC cs ps = some r → r.length = cs.length := by
      intro ps
      induction ps with
      | nil => intro cs r h; simp only [fillC, Option.some.injEq] at h; rw [h]
      | cons q ps ih =>
        intro cs r h
        simp only [fillC] at h
        split at h
        · rw [ih _ _ h, splice_length]
        · simp at h
    rw [this _ _ _ h, rep_length]; simp [hzs]
  obtain ⟨c', g1, g2, g3⟩ := new_slice hs (b := ⟨cs, i.size, false⟩) (cs := r') (ty := e) (fz := (0, 0)) (rest := []) (mid := r'.toList) (by simp) e2 hone (by simp) (n := n) (k := n) (k' := n) (Nat.le_refl _) (by
    have := e2.1
    simp only [Array.length_toList] at this
    rw [← this, hlen]; exact Nat.le_refl _)
  refine ⟨_, c', _, ?_, g3, g1, g2⟩
  have hne : ¬ (n * i.size > 2 ^ 24) := by omega
  by_cases h0 : n * i.size = 0
  · have hm : madeCells z.cells (n * i.size) = (Array.range (n * i.size)).map ((#[] : Array Value)[· % (#[] : Array Value).size]!) := by
      rw [h0]
      apply Array.ext (by simp [madeCells])
      intro i h1 h2
      simp [madeCells] at h1
    rw [hm] at e1
    simp only [Instr.buildSlice, Sem.run_bind, run_underlying ht, Result.andThen_ok, run_sizeOf hi, Sem.run_ite, if_neg hne, if_pos h0, Sem.run_pure, newRow, run_newObj]
    rw [e1]; rfl
  · simp only [Instr.buildSlice, Sem.run_bind, run_underlying ht, Result.andThen_ok, run_sizeOf hi, Sem.run_ite, if_neg hne, if_neg h0, Sem.run_pure, run_zeroValue hi hz, newRow, run_newObj]
    unfold madeCells at e1
    rw [e1]; rfl
theorem cellEq_ok {t : TypeId} {k : TK} (hk : scalarK P t = some k) {d : Nat} {x y x' y' : Value} {n : Nat} (hx : VR n c x x') (hy : VR n c y y') {r : Bool} (h : cellEq k x y = some r) : (Op.equalIn (d + 1) t x' y').run P w = .ok r w := by
  unfold scalarK at hk
  split at hk
  · split at hk
    · rename_i kk hu
      obtain rfl := Option.some.inj hk
      cases x <;> cases y <;> simp only [cellEq, reduceCtorEq] at h
      split at h
      · rename_i e; subst e; obtain rfl := Option.some.inj h; rw [hx.int, hy.int, run_equalIn_int w d t _ _ _ _ hu]; rfl
      · simp at h
    · rename_i hu
      obtain rfl := Option.some.inj hk
      cases x <;> cases y <;> simp only [cellEq, reduceCtorEq] at h
      obtain rfl := Option.some.inj h
      rw [hx.bool, hy.bool]; exact run_equalIn_bool' w d t _ _ hu
    · rename_i hu
      obtain rfl := Option.some.inj hk
      cases x <;> cases y <;> simp only [cellEq, reduceCtorEq] at h
      obtain rfl := Option.some.inj h
      rw [hx.str, hy.str, run_equalIn_string w d t _ _ hu, str_beq]
    · simp at hk
  · simp at hk
theorem scalar_part {t : TypeId} {k : TK} (hk : scalarK P t = some k) {cs : Array Value} {o : Nat} {v : Value} (h : cs[o]? = some v) : (part t cs o).run P w = .ok v w := by
  unfold scalarK at hk
  split at hk
  · split at hk <;> first
      | (rename_i u hu; exact run_part0 hu rfl h)
      | (rename_i hu; exact run_part0 hu rfl h)
      | simp at hk
  · simp at hk
theorem VRL.get {n : Nat} {l l' : List Value} (h : VRL n c l l') {j : Nat} {v : Value} (hj : l[j]? = some v) : ∃ v', l'[j]? = some v' ∧ VR n c v v' := by
  have hlt : j < l.length := by
    rcases Nat.lt_or_ge j l.length with h | h
    · exact h
    · rw [List.getElem?_eq_none h] at hj; simp at hj
  have hlt' : j < l'.length := by rw [← h.1]; exact hlt
  refine ⟨l'[j], List.getElem?_eq_getElem hlt', ?_⟩
  have := h.2 j hlt
  rw [List.getD_eq_getElem?_getD, List.getD_eq_getElem?_getD, hj, List.getElem?_eq_getElem hlt'] at this
  exact this
theorem eqItems_ok {e : TypeId} {k : TK} (hk : scalarK P e = some k) {n : Nat} {a b a' b' : Array Value} (ha : VRL n c a.toList a'.toList) (hb : VRL n c b.toList b'.toList) (d : Nat) : ∀ (is : List Nat) (r : Bool), eqAt a.toList b.toList (is.map fun i => (i, k)) = some r → (Op.eqItems (d + 1) e 1 a' b' is).run P w = .ok r w
  | [], r, h => by simp only [List.map_nil, eqAt, Option.some.injEq] at h; subst h; simp [Op.eqItems]
  | i :: is, r, h => by
    simp only [List.map_cons, eqAt] at h
    split at h
    · rename_i x y hx hy
      split at h
      · rename_i p q hp hq
        obtain rfl := Option.some.inj h
        obtain ⟨x', hx', rx⟩ := ha.get hx
        obtain ⟨y', hy', ry⟩ := hb.get hy
        have ih := eqItems_ok hk ha hb d is q hq
        have e1 := scalar_part (P := P) (w := w) hk (show a'[i]? = some x' by rw [← Array.getElem?_toList]; exact hx')
        have e2 := scalar_part (P := P) (w := w) hk (show b'[i]? = some y' by rw [← Array.getElem?_toList]; exact hy')
        have e3 := cellEq_ok (P := P) (w := w) hk (d := d) rx ry hp
        cases p <;> simp [Op.eqItems, e1, e2, e3, ih]
      · simp at h
    · simp at h
theorem eqFields_ok {n : Nat} {a b a' b' : Array Value} (ha : VRL n c a.toList a'.toList) (hb : VRL n c b.toList b'.toList) (d : Nat) : ∀ (fs : List Field) (l : List (Nat × TK)) (r : Bool), offsOf P fs = some l → eqAt a.toList b.toList l = some r → (Op.eqFields (d + 1) a' b' fs).run P w = .ok r w
  | [], l, r, hl, h => by
    simp only [offsOf, Option.some.injEq] at hl
    subst hl
    simp only [eqAt, Option.some.injEq] at h
    subst h
    simp [Op.eqFields]
  | fd :: fs, l, r, hl, h => by
    simp only [offsOf] at hl
    split at hl
    · rename_i hn
      have ih := eqFields_ok ha hb d fs l r hl h
      simp [Op.eqFields, hn, ih]
    · rename_i hn
      split at hl
      · rename_i k l' hk hl'
        obtain rfl := Option.some.inj hl
        simp only [eqAt] at h
        split at h
        · rename_i x y hx hy
          split at h
          · rename_i p q hp hq
            obtain rfl := Option.some.inj h
            obtain ⟨x', hx', rx⟩ := ha.get hx
            obtain ⟨y', hy', ry⟩ := hb.get hy
            have ih := eqFields_ok ha hb d fs l' q hl' hq
            have e1 := scalar_part (P := P) (w := w) hk (show a'[fd.offset]? = some x' by rw [← Array.getElem?_toList]; exact hx')
            have e2 := scalar_part (P := P) (w := w) hk (show b'[fd.offset]? = some y' by rw [← Array.getElem?_toList]; exact hy')
            have e3 := cellEq_ok (P := P) (w := w) hk (d := d) rx ry hp
            cases p <;> simp [Op.eqFields, hn, e1, e2, e3, ih]
          · simp at h
        · simp at h
      · simp at hl
theorem eqAgg_ok {t : TypeId} {d : TypeDesc} (hu : P.underlying t = some d) {l : List (Nat × TK)} (hd : (∃ n e k, d = .array n e ∧ (P.info? e).isSome = true ∧ scalarK P e = some k ∧ l = (List.range n).map fun i => (i, k)) ∨ (∃ fs, d = .struct fs ∧ P.stoodInHeld t = false ∧ offsOf P fs.toList = some l)) {n : Nat} {a b : Array Value} {x' y' : Value} (hx : VR n c (.agg a) x') (hy : VR n c (.agg b) y') {r : Bool} (h : eqAt a.toList b.toList l = some r) : (Op.equal t x' y').run P w = .ok r w := by
  obtain ⟨a', rfl, ha⟩ := VRL.of_agg hx
  obtain ⟨b', rfl, hb⟩ := VRL.of_agg hy
  obtain ⟨d2, hd2⟩ : ∃ d, Op.maxDepth = (d + 1) + 1 := ⟨9998, rfl⟩
  unfold Op.equal
  rw [hd2]
  rcases hd with ⟨m, e, k, rfl, hi, hk, rfl⟩ | ⟨fs, rfl, hp, hl⟩
  · obtain ⟨i, hi⟩ := Option.isSome_iff_exists.1 hi
    rw [run_equalIn_array w (d2 + 1) a' b' hu hi]
    have h1 : P.cellsOf e = 1 := by
      unfold scalarK at hk
      split at hk
      · assumption
      · simp at hk
    rw [h1]
    exact eqItems_ok hk ha hb d2 _ _ h
  · have hf : P.fieldsOf t = fs := by simp [Program.fieldsOf, hu]
    rw [run_equalIn_struct w (d2 + 1) t a' b' (by rw [hf]; exact hu) hp, hf]
    exact eqFields_ok ha hb d2 _ _ _ hl h
end
end Go.Proofs.Ytildhljhbbhmmaa.AM
/- All operations that are no calls. -/
namespace Go.Proofs.Ytildhljhbbhmmaa.AM
open Go Go.RowKit
set_option linter.all false
section
variable {P : Program} {N : Nat} {c : CMap} {H : AH} {w : World} {f : Fr} {ρ : Operand → Value}

def DoesN (P : Program) (N : Nat) (c : CMap) (H : AH) (w : World) (r : Sem Next) (v : Value) (H' : AH) : Prop :=
  ∃ nx v' c' w', r.run P w = .ok nx w' ∧ (nx = .value v' ∨ (nx = .skip ∧ v' = Go.undef)) ∧ VR H'.next c' v v' ∧ Sim N c' H' w' ∧ ExtW N c H w c' H' w'
theorem Does.val {r : Sem Value} {v : Value} {H' : AH} (h : Does P N c H w r v H') : DoesN P N c H w (do Pure.pure (Next.value (← r))) v H' := by
  obtain ⟨v', c', w', h1, h2, h3, h4⟩ := h
  exact ⟨.value v', v', c', w', by simp [h1], .inl rfl, h2, h3, h4⟩
theorem Does.run1 (hs : Sim N c H w) {r : Sem Value} {v : Value} (h : r.run P w = .ok v w ∧ p1 v = true) : Does P N c H w r v H := .pure hs h.1 (.plain h.2)
theorem VR.addA {n : Nat} {c : CMap} {a : Addr} {v' : Value} (h : VR n c (.pointer (some a)) v') (k : Nat) : ∃ a', v' = .pointer (some a') ∧ VR n c (.pointer (some (addA a k))) (.pointer (some (a'.add k))) := by
  cases h with
  | plain h => simp [p1] at h
  | ptr h1 h2 h3 => exact ⟨_, rfl, by rw [add_eq, Nat.add_assoc]; exact VR.ptr (a := AM.addA a k) h1 h2 rfl⟩
  | ptrDead h1 h2 => exact ⟨_, rfl, .ptrDead h1 h2⟩
theorem VR.slcA {n : Nat} {c : CMap} {a : Addr} {m k : Nat} {v' : Value} (h : VR n c (.slice (some a) m k) v') (j : Nat) : ∃ a' k', v' = .slice (some a') m k' ∧ VR n c (.pointer (some (AM.addA a j))) (.pointer (some (a'.add j))) := by
  cases h with
  | plain h => simp [p1] at h
  | slice h1 h2 h3 h4 h5 => exact ⟨_, _, rfl, by rw [add_eq, Nat.add_assoc]; exact VR.ptr (a := AM.addA a j) h1 h2 rfl⟩
  | sliceDead h1 h2 => exact ⟨_, _, rfl, .ptrDead h1 h2⟩
theorem VR.slcP {n : Nat} {c : CMap} {a : Addr} {m k : Nat} {v' : Value} (h : VR n c (.slice (some a) m k) v') : ∃ a' k', v' = .slice (some a') m k' ∧ VR n c (.pointer (some a)) (.pointer (some a')) := by
  cases h with
  | plain h => simp [p1] at h
  | slice h1 h2 h3 h4 h5 => exact ⟨_, _, rfl, .ptr h1 h2 h3⟩
  | sliceDead h1 h2 => exact ⟨_, _, rfl, .ptrDead h1 h2⟩
theorem opd_map {x : Option Operand} (h : ∀ o ∈ x.toArray.toList, opdOk o = true) (hE : ∀ o, opdOk o = true → VR H.next c (ev f o) (ρ o)) : ∀ o, x = some o → VR H.next c (ev f o) (ρ o) := by
  intro o e
  subst e
  exact hE o (h o (by simp))

theorem arr1 {α : Type} {xs : Array α} {x : α} (h : xs.toList = [x]) : xs = #[x] := by rw [← Array.toList_inj, h]
theorem arr2 {α : Type} {xs : Array α} {x y : α} (h : xs.toList = [x, y]) : xs = #[x, y] := by rw [← Array.toList_inj, h]
theorem builtin_ok (hs : Sim N c H w) (hE : ∀ x, opdOk x = true → VR H.next c (ev f x) (ρ x)) {b : Builtin} {ts : Array TypeId} {xs : Array Operand} {ty : TypeId} {cs : Array Bool} {m : MI} (hc : compBuiltin P b ts.toList xs.toList = some m) (ho : ∀ x ∈ xs.toList, opdOk x = true) {v : Value} {H' : AH} (he : evM m f H = some (v, H')) :
    DoesN P N c H w (builtin b ts ty cs (xs.map ρ)) v H' := by
  unfold compBuiltin at hc
  split at hc
  · -- len
    rename_i t x e1 e2
    have hx := hE x (ho x (by rw [e2]; simp))
    obtain rfl := arr1 e1
    obtain rfl := arr1 e2
    refine Does.val (r := Builtin.len_ #[t] ty (#[x].map ρ)) ?_
    split at hc
    · rename_i hu
      obtain rfl := Option.some.inj hc
      simp only [evM] at he
      split at he
      · rename_i s hv
        rw [hv] at hx
        simp only [Option.some.injEq, Prod.mk.injEq] at he
        obtain ⟨rfl, rfl⟩ := he
        exact .pure hs (by simp [Builtin.len_, run_underlying hu, hx.str, goInt]) (.plain rfl)
      · simp at he
    · rename_i e hu
      obtain rfl := Option.some.inj hc
      simp only [evM] at he
      split at he
      · rename_i a n cp hv
        rw [hv] at hx
        obtain ⟨a', k', e3, _⟩ := hx.slcI
        simp only [Option.some.injEq, Prod.mk.injEq] at he
        obtain ⟨rfl, rfl⟩ := he
        exact .pure hs (by simp [Builtin.len_, run_underlying hu, e3, goInt]) (.plain rfl)
      · simp at he
    · rename_i n e hu
      obtain rfl := Option.some.inj hc
      simp only [evM, Option.some.injEq, Prod.mk.injEq] at he
      obtain ⟨rfl, rfl⟩ := he
      exact .pure hs (by simp [Builtin.len_, run_underlying hu, goInt]) (.plain rfl)
    · rename_i e hu
      split at hc
      · rename_i n e2 hu2
        obtain rfl := Option.some.inj hc
        simp only [evM, Option.some.injEq, Prod.mk.injEq] at he
        obtain ⟨rfl, rfl⟩ := he
        exact .pure hs (by simp [Builtin.len_, run_underlying hu, run_underlying hu2, goInt]) (.plain rfl)
      · simp at hc
    · simp at hc
  · -- cap
    rename_i t x e1 e2
    have hx := hE x (ho x (by rw [e2]; simp))
    obtain rfl := arr1 e1
    obtain rfl := arr1 e2
    refine Does.val (r := Builtin.cap_ #[t] ty (#[x].map ρ)) ?_
    split at hc
    · rename_i e hu
      obtain rfl := Option.some.inj hc
      simp only [evM] at he
      split at he
      · rename_i n cp hv
        rw [hv] at hx
        simp only [Option.some.injEq, Prod.mk.injEq] at he
        obtain ⟨rfl, rfl⟩ := he
        exact .pure hs (by simp [Builtin.cap_, run_underlying hu, hx.slcN, goInt]) (.plain rfl)
      · simp at he
    · simp at hc
  · -- min
    rename_i x xs' e2
    obtain rfl := Option.some.inj hc
    have hx := hE x (ho x (by rw [e2]; simp))
    have hl : VRL H.next c (xs'.map (ev f)) (xs'.map ρ) := VRL.map xs' fun y hy => hE y (ho y (by rw [e2]; simp [hy]))
    refine Does.val (r := Builtin.min_ ts ty (xs.map ρ)) ?_
    simp only [evM] at he
    split at he
    · rename_i u hq
      simp only [Option.some.injEq, Prod.mk.injEq] at he
      obtain ⟨rfl, rfl⟩ := he
      obtain ⟨v', r1, r2⟩ := run_fold (P := P) (w := w) (s := Builtin.min2) (fun x y x' y' v hx hy h => run_min hx hy h) _ _ _ _ _ hx hl hq
      exact .pure hs (v' := v') (by simp [Builtin.min_, e2, r1]) r2
    · simp at he
  · -- max
    rename_i x xs' e2
    obtain rfl := Option.some.inj hc
    have hx := hE x (ho x (by rw [e2]; simp))
    have hl : VRL H.next c (xs'.map (ev f)) (xs'.map ρ) := VRL.map xs' fun y hy => hE y (ho y (by rw [e2]; simp [hy]))
    refine Does.val (r := Builtin.max_ ts ty (xs.map ρ)) ?_
    simp only [evM] at he
    split at he
    · rename_i u hq
      simp only [Option.some.injEq, Prod.mk.injEq] at he
      obtain ⟨rfl, rfl⟩ := he
      obtain ⟨v', r1, r2⟩ := run_fold (P := P) (w := w) (s := Builtin.max2) (fun x y x' y' v hx hy h => run_max hx hy h) _ _ _ _ _ hx hl hq
      exact .pure hs (v' := v') (by simp [Builtin.max_, e2, r1]) r2
    · simp at he
  · -- append
    rename_i t u s x e1 e2
    obtain rfl := arr2 e1
    obtain rfl := arr2 e2
    have hs' := hE s (ho s (by simp))
    have hx := hE x (ho x (by simp))
    refine Does.val (r := Builtin.append_ #[t, u] ty (#[s, x].map ρ)) ?_
    rw [show (#[s, x].map ρ) = #[ρ s, ρ x] from by simp]
    split at hc
    · rename_i e hu
      split at hc
      · rename_i ei hi
        split at hc
        · simp at hc
        · rename_i hsz
          split at hc
          · rename_i e' hku
            split at hc
            · rename_i z hz
              split at hc
              · rename_i hzs
                obtain rfl := Option.some.inj hc
                simp only [evM] at he
                split at he
                · rename_i k new hadd
                  obtain ⟨new', g1, g2, g3, g4⟩ := added_ok (P := P) (tx := u) (e := e) hs hx hadd (.inl ⟨e', hku⟩)
                  exact append_ok hs hu hi hz hzs (by omega) hs' g1 g2 g3 g4 he (by omega)
                · simp at he
              · simp at hc
            · simp at hc
          · rename_i hku
            split at hc
            · rename_i z hz
              split at hc
              · rename_i hzs
                obtain rfl := Option.some.inj hc
                simp only [evM] at he
                split at he
                · rename_i k new hadd
                  obtain ⟨new', g1, g2, g3, g4⟩ := added_ok (P := P) (tx := u) (e := e) hs hx hadd (.inr hku)
                  exact append_ok hs hu hi hz hzs (by omega) hs' g1 g2 g3 g4 he (by omega)
                · simp at he
              · simp at hc
            · simp at hc
          · simp at hc
      · simp at hc
    · simp at hc
  · -- copy
    rename_i t u d s e1 e2
    obtain rfl := arr2 e1
    obtain rfl := arr2 e2
    have hd := hE d (ho d (by simp))
    have hx := hE s (ho s (by simp))
    refine Does.val (r := Builtin.copy_ #[t, u] ty (#[d, s].map ρ)) ?_
    rw [show (#[d, s].map ρ) = #[ρ d, ρ s] from by simp]
    split at hc
    · rename_i e hu
      split at hc
      · rename_i ei hi
        obtain rfl := Option.some.inj hc
        simp only [evM] at he
        split at he
        · rename_i a n cp k hdv hk
          split at he
          · rename_i new hnew
            split at he
            · rename_i H2 hst
              simp only [Option.some.injEq, Prod.mk.injEq] at he
              obtain ⟨rfl, rfl⟩ := he
              rw [hdv] at hd
              exact copy_ok hs hu hi hd hx hk hnew hst
            · simp at he
          · simp at he
        · simp at he
      · simp at hc
    · simp at hc
  · simp at hc
theorem run_places : ∀ (fs : List Field), (∀ f ∈ fs, (P.info? f.type).isSome = true) → (fs.mapM (fun f => (do Pure.pure (f.offset, ← sizeOf f.type) : Sem (Nat × Nat)))).run P w = .ok (fs.map fun f => (f.offset, P.cellsOf f.type)) w
  | [], _ => by simp
  | f :: fs, h => by
    obtain ⟨i, hi⟩ := Option.isSome_iff_exists.1 (h f (by simp))
    have ih := run_places fs (fun g hg => h g (by simp [hg]))
    have e : P.cellsOf f.type = i.size := by simp [Program.cellsOf, hi]
    rw [List.mapM_cons]
    simp only [Sem.run_bind, run_sizeOf hi, Result.andThen_ok, Sem.run_pure, ih, List.map_cons, e]
theorem run_placesA (fs : Array Field) (h : fs.toList.all (fun f => (P.info? f.type).isSome) = true) : (fs.mapM (fun f => (do Pure.pure (f.offset, ← sizeOf f.type) : Sem (Nat × Nat)))).run P w = .ok (fs.toList.map fun f => (f.offset, P.cellsOf f.type)).toArray w := by
  rw [Array.mapM_eq_mapM_toList, Sem.run_map, run_places (P := P) (w := w) fs.toList (List.all_eq_true.1 h)]
  rfl
theorem all_ops {o : Op} (ho : o.operands.toList.all opdOk = true) {x : Operand} (hx : x ∈ o.operands.toList) : opdOk x = true := List.all_eq_true.1 ho x hx
theorem op_ok (hs : Sim N c H w) (hE : ∀ x, opdOk x = true → VR H.next c (ev f x) (ρ x)) {o : Oper} {m : MI} (hc : compOp P o = some m) (ho : o.op.operands.toList.all opdOk = true) (hm : ∀ p g a, m ≠ .call p g a) {v : Value} {H' : AH} (he : evM m f H = some (v, H')) : DoesN P N c H w (execOp ρ o) v H' := by
  unfold compOp at hc
  split at hc
  · -- move
    rename_i x hop
    obtain rfl := Option.some.inj hc
    simp only [evM, Option.some.injEq, Prod.mk.injEq] at he
    obtain ⟨rfl, rfl⟩ := he
    rw [hop] at ho
    have hx := hE x (all_ops ho (by simp [Op.operands]))
    exact ⟨_, _, c, w, by simp [execOp, hop], .inl rfl, hx, hs, .refl _ _ _ _⟩
  · rename_i x hop
    obtain rfl := Option.some.inj hc
    simp only [evM, Option.some.injEq, Prod.mk.injEq] at he
    obtain ⟨rfl, rfl⟩ := he
    rw [hop] at ho
    have hx := hE x (all_ops ho (by simp [Op.operands]))
    exact ⟨_, _, c, w, by simp [execOp, hop], .inl rfl, hx, hs, .refl _ _ _ _⟩
  · -- pick
    rename_i x a b hop
    obtain rfl := Option.some.inj hc
    simp only [evM] at he
    split at he
    · rename_i t hv
      simp only [Option.some.injEq, Prod.mk.injEq] at he
      obtain ⟨rfl, rfl⟩ := he
      rw [hop] at ho
      have hx := hE x (all_ops ho (by simp [Op.operands]))
      have ha := hE a (all_ops ho (by simp [Op.operands]))
      have hb := hE b (all_ops ho (by simp [Op.operands]))
      rw [hv] at hx
      refine ⟨.value (if t = true then ρ a else ρ b), _, c, w, by simp [execOp, hop, hx.bool, asBool], .inl rfl, ?_, hs, .refl _ _ _ _⟩
      cases t
      · exact hb
      · exact ha
    · simp at he
  · -- alloc
    rename_i t hop
    split at hc
    · rename_i i hi
      split at hc
      · rename_i z hz
        split at hc
        · rename_i hp
          obtain rfl := Option.some.inj hc
          simp only [evM, Option.some.injEq, Prod.mk.injEq] at he
          obtain ⟨rfl, rfl⟩ := he
          have := (alloc_ok hs hi hz hp (esOf P t)).val
          simpa only [execOp, hop] using this
        · simp at hc
      · simp at hc
    · simp at hc
  · -- box
    rename_i t x hop
    rw [hop] at ho
    have hx := hE x (all_ops ho (by simp [Op.operands]))
    split at hc
    · obtain rfl := Option.some.inj hc
      simp only [evM] at he
      split at he
      · rename_i hd
        simp only [Option.some.injEq, Prod.mk.injEq] at he
        obtain ⟨rfl, rfl⟩ := he
        have hc0 : c 0 = none := by
          have := hs.live 0
          cases h0 : c 0 with
          | none => rfl
          | some l => rw [h0] at this; rw [Option.isNone_iff_eq_none.1 hd.2] at this; simp at this
        obtain ⟨h1, h2⟩ := hs.alloc (.cells (ρ x).cells t (0, 0))
        have : Does P N c H w (Instr.box t (ρ x)) (.pointer (some ⟨0, 0, none⟩)) H := ⟨.pointer (some ⟨w.heap.size, 0, none⟩), c, w.alloc (.cells (ρ x).cells t (0, 0)), by simp [Instr.box, newVar, newRow], .ptrDead hd.1 hc0, h1, h2⟩
        simpa only [execOp, hop] using this.val
      · simp at he
    obtain rfl := Option.some.inj hc
    simp only [evM] at he
    split at he
    · rename_i hone
      simp only [Option.some.injEq, Prod.mk.injEq] at he
      obtain ⟨rfl, rfl⟩ := he
      have := (box_ok (P := P) (t := t) hs hx hone (esOf P t)).val
      simpa only [execOp, hop] using this
    · simp at he
  · -- build
    rename_i t parts hop
    rw [hop] at ho
    have hpo : ∀ p ∈ parts.toList, opdOk p.2 = true := fun p hp => all_ops ho (by simp only [Op.operands, List.toList_toArray, List.mem_map]; exact ⟨p, hp, rfl⟩)
    split at hc
    · rename_i i hi
      split at hc
      · rename_i z hz
        split at hc
        · rename_i hp
          split at hc
          · -- a struct
            rename_i fs hu
            split at hc
            · rename_i hfs
              split at hc
              · rename_i l hl
                obtain rfl := Option.some.inj hc
                simp only [evM] at he
                split at he
                · rename_i cs hfc
                  simp only [Option.some.injEq, Prod.mk.injEq] at he
                  obtain ⟨rfl, rfl⟩ := he
                  have hr := run_placesA (P := P) (w := w) fs hfs
                  have hpl : ∀ (j off : Nat) (t : TypeId) (ti : TypeInfo), ((fs[j]?).map fun f => (f.offset, f.type)) = some (off, t) → P.info? t = some ti → (fs.toList.map fun f => (f.offset, P.cellsOf f.type)).toArray[j]? = some (off, ti.size) := fun j off t ti h1 h2 => by
                    obtain ⟨fd, h3, h4⟩ := Option.map_eq_some_iff.1 h1
                    simp only [Prod.mk.injEq] at h4
                    obtain ⟨rfl, rfl⟩ := h4
                    simp [h3, Program.cellsOf, h2]
                  obtain ⟨r', e1, e2⟩ := fill_of (P := P) (H := H) (c := c) (place' := fun j => (fs.toList.map fun f => (f.offset, P.cellsOf f.type)).toArray[j]?) (cs := z.cells) (cs' := z.cells) hE hl hpo hpl (.refl hp) hfc
                  have hdo : Does P N c H w (Instr.build t (parts.map fun (i, x) => (i, ρ x))) (.agg cs.toArray) H := .pure hs (v' := .agg r') (by
                    simp only [Instr.build, Sem.run_bind, run_zeroValue hi hz, Result.andThen_ok, run_underlying hu, hr]
                    rw [e1]; rfl) (by simpa using e2.agg)
                  simpa only [execOp, hop] using hdo.val
                · simp at he
              · simp at hc
            · simp at hc
          · rename_i n e hu
            split at hc
            case isFalse => simp at hc
            rename_i hei0
            obtain ⟨ei, hei⟩ := Option.isSome_iff_exists.1 hei0
            split at hc
            · rename_i l hl
              obtain rfl := Option.some.inj hc
              simp only [evM] at he
              split at he
              · rename_i cs hfc
                simp only [Option.some.injEq, Prod.mk.injEq] at he
                obtain ⟨rfl, rfl⟩ := he
                · obtain ⟨r', e1, e2⟩ := fill_of (P := P) (H := H) (c := c) (place' := fun j => some (j * ei.size, ei.size)) (cs := z.cells) (cs' := z.cells) hE hl hpo (fun j off t ti h1 h2 => by
                    simp only [Option.some.injEq, Prod.mk.injEq] at h1
                    obtain ⟨rfl, rfl⟩ := h1
                    rw [hei] at h2
                    obtain rfl := Option.some.inj h2
                    simp [Program.cellsOf, hei]) (.refl hp) hfc
                  have hdo : Does P N c H w (Instr.build t (parts.map fun (i, x) => (i, ρ x))) (.agg cs.toArray) H := .pure hs (v' := .agg r') (by
                    simp only [Instr.build, Sem.run_bind, run_zeroValue hi hz, Result.andThen_ok, run_underlying hu, run_sizeOf hei]
                    rw [e1]; rfl) (by simpa using e2.agg)
                  simpa only [execOp, hop] using hdo.val
              · simp at he
            · simp at hc
          · simp at hc
        · simp at hc
      · simp at hc
    · simp at hc
  · -- buildSlice
    rename_i t n parts hop
    rw [hop] at ho
    have hpo : ∀ p ∈ parts.toList, opdOk p.2 = true := fun p hp => all_ops ho (by simp only [Op.operands, List.toList_toArray, List.mem_map]; exact ⟨p, hp, rfl⟩)
    split at hc
    · rename_i e hu
      split at hc
      · rename_i i hi
        split at hc
        · rename_i z hz
          split at hc
          · rename_i hcond
            obtain ⟨hp, hn, hs0, hzs⟩ := hcond
            split at hc
            · rename_i l hl
              obtain rfl := Option.some.inj hc
              simp only [evM] at he
              split at he
              · rename_i cs hfc
                split at he
                · rename_i hone
                  simp only [Option.some.injEq, Prod.mk.injEq] at he
                  obtain ⟨rfl, rfl⟩ := he
                  have := (buildSlice_ok (P := P) hs hE hu hi hz hp hn hs0 hzs hl hpo hfc hone).val
                  simpa only [execOp, hop] using this
                · simp at he
              · simp at he
            · simp at hc
          · simp at hc
        · simp at hc
      · simp at hc
    · simp at hc
  · -- load
    rename_i t a hop
    rw [hop] at ho
    have hx := hE a (all_ops ho (by simp [Op.operands]))
    split at hc
    · rename_i d i hu hi
      have key : ∀ agg n, m = .load agg n a → ((isAggT d = true ∧ agg = true ∧ n = i.size) ∨ (isAggT d = false ∧ agg = false ∧ n = 1)) → DoesN P N c H w (execOp ρ o) v H' := fun agg n hm' hagg => by
        subst hm'
        simp only [evM] at he
        split at he
        · rename_i p hp
          rw [hp] at hx
          split at he
          · rename_i cs hl
            split at he
            · rename_i v0 hv0
              simp only [Option.some.injEq, Prod.mk.injEq] at he
              obtain ⟨rfl, rfl⟩ := he
              have := (load_ok hs hu hi hx hagg hl hv0).val
              simpa only [execOp, hop] using this
            · simp at he
          · simp at he
        · simp at he
      split at hc
      · rename_i hg; exact key _ _ (Option.some.inj hc).symm (.inl ⟨hg, rfl, rfl⟩)
      · rename_i hg; exact key _ _ (Option.some.inj hc).symm (.inr ⟨by simpa using hg, rfl, rfl⟩)
    · simp at hc
  · -- store
    rename_i t a x hop
    rw [hop] at ho
    have ha := hE a (all_ops ho (by simp [Op.operands]))
    have hx := hE x (all_ops ho (by simp [Op.operands]))
    split at hc
    · rename_i i hi
      obtain rfl := Option.some.inj hc
      simp only [evM] at he
      split at he
      · rename_i p hp
        rw [hp] at ha
        split at he
        · rename_i hn
          split at he
          · rename_i H2 hst
            simp only [Option.some.injEq, Prod.mk.injEq] at he
            obtain ⟨rfl, rfl⟩ := he
            obtain ⟨w', e1, e2, e3⟩ := store_ok (P := P) hs hi ha hx hn hst
            exact ⟨.skip, Go.undef, c, w', by simp [execOp, hop, e1], .inr ⟨rfl, rfl⟩, .undef, e2, e3⟩
          · simp at he
        · simp at he
      · simp at he
    · simp at hc
  · -- nilCheck
    rename_i x hop
    rw [hop] at ho
    have hx := hE x (all_ops ho (by simp [Op.operands]))
    obtain rfl := Option.some.inj hc
    simp only [evM] at he
    split at he
    · rename_i p hp
      rw [hp] at hx
      simp only [Option.some.injEq, Prod.mk.injEq] at he
      obtain ⟨rfl, rfl⟩ := he
      obtain ⟨a', e1, e2⟩ := hx.ptrI
      obtain ⟨p', rfl⟩ : ∃ p', a' = some p' := by cases a' with | none => simp at e2 | some q => exact ⟨q, rfl⟩
      exact ⟨.value (.pointer (some p')), _, c, w, by simp [execOp, hop, e1], .inl rfl, by rw [← e1]; exact hx, hs, .refl _ _ _ _⟩
    · rename_i g a b hg
      rw [hg] at hx
      simp only [Option.some.injEq, Prod.mk.injEq] at he
      obtain ⟨rfl, rfl⟩ := he
      obtain ⟨a', b', e1, _, _⟩ := hx.funcI
      exact ⟨.value (.func (.func g) a' b'), _, c, w, by simp [execOp, hop, e1], .inl rfl, by rw [← e1]; exact hx, hs, .refl _ _ _ _⟩
    · simp at he
  · -- binOp
    rename_i op t x y yt hop
    rw [hop] at ho
    have hx := hE x (all_ops ho (by simp [Op.operands]))
    have hy := hE y (all_ops ho (by simp [Op.operands]))
    have keyE : ∀ (neq : Bool) (l : List (Nat × TK)) (d : TypeDesc), P.underlying t = some d → m = .eqc neq l x y → op = (if neq = true then .neq else .eql) → P.eqGuardType P.depth t = false → ((∃ n e k, d = .array n e ∧ (P.info? e).isSome = true ∧ scalarK P e = some k ∧ l = (List.range n).map fun i => (i, k)) ∨ (∃ fs, d = .struct fs ∧ P.stoodInHeld t = false ∧ offsOf P fs.toList = some l)) → DoesN P N c H w (execOp ρ o) v H' := fun neq l d hu hm' hop' hg hd => by
      subst hm'
      simp only [evM] at he
      split at he
      · rename_i a b ha hb
        rw [ha] at hx
        rw [hb] at hy
        split at he
        · rename_i r hr
          simp only [Option.some.injEq, Prod.mk.injEq] at he
          obtain ⟨rfl, rfl⟩ := he
          have he2 := eqAgg_ok (P := P) (w := w) hu hd hx hy hr
          obtain ⟨a', e1, _⟩ := VRL.of_agg hx
          obtain ⟨b', e2, _⟩ := VRL.of_agg hy
          rw [e1, e2] at he2
          refine ⟨.value (.bool (if neq = true then !r else r)), _, c, w, ?_, .inl rfl, .plain rfl, hs, .refl _ _ _ _⟩
          have hgd := run_eqGuard_agg (P := P) w op t x y a' b' hg
          have hb2 : (binOp op t (.agg a') (.agg b')).run P w = .ok (.bool (if neq = true then !r else r)) w := by
            refine run_eql (by simp) (by simp) (by simp) (by simp) he2 ?_
            cases neq <;> simp [hop', eqOp]
          simp [execOp, hop, e1, e2, hgd, hb2]
        · simp at he
      · simp at he
    split at hc
    · rename_i n e hu
      split at hc
      · rename_i hcond
        split at hc
        · rename_i k hk hopp
          exact keyE false _ _ hu (Option.some.inj hc).symm (by simp) hcond.1 (.inl ⟨n, e, _, rfl, hcond.2, hopp, rfl⟩)
        · rename_i k hk hopp
          exact keyE true _ _ hu (Option.some.inj hc).symm (by simp) hcond.1 (.inl ⟨n, e, _, rfl, hcond.2, hopp, rfl⟩)
        · simp at hc
      · simp at hc
    · rename_i fs hu
      split at hc
      · rename_i hcond
        split at hc
        · rename_i l hk hopp
          exact keyE false _ _ hu (Option.some.inj hc).symm (by simp) hcond.1 (.inr ⟨fs, rfl, hcond.2, hopp⟩)
        · rename_i l hk hopp
          exact keyE true _ _ hu (Option.some.inj hc).symm (by simp) hcond.1 (.inr ⟨fs, rfl, hcond.2, hopp⟩)
        · simp at hc
      · simp at hc
    · rename_i d hu
      split at hc
      · rename_i k hk
        obtain rfl := Option.some.inj hc
        simp only [evM] at he
        split at he
        · rename_i u hq
          simp only [Option.some.injEq, Prod.mk.injEq] at he
          obtain ⟨rfl, rfl⟩ := he
          have := (Does.run1 hs (run_bin (P := P) (w := w) (ox := x) (oy := y) (op := op) hu hk hx hy hq)).val
          simpa only [execOp, hop] using this
        · simp at he
      · simp at hc
    · simp at hc
  · -- unOp
    rename_i op t x hop
    rw [hop] at ho
    have hx := hE x (all_ops ho (by simp [Op.operands]))
    obtain rfl := Option.some.inj hc
    simp only [evM] at he
    split at he
    · rename_i u hq
      simp only [Option.some.injEq, Prod.mk.injEq] at he
      obtain ⟨rfl, rfl⟩ := he
      have := (Does.run1 hs (run_un (P := P) (w := w) hx hq)).val
      simpa only [execOp, hop] using this
    · simp at he
  · -- convert
    rename_i s d x hop
    rw [hop] at ho
    have hx := hE x (all_ops ho (by simp [Op.operands]))
    split at hc
    · rename_i k1 k hu1 hu2
      obtain rfl := Option.some.inj hc
      simp only [evM] at he
      split at he
      · rename_i k0 n hv
        rw [hv] at hx
        simp only [Option.some.injEq, Prod.mk.injEq] at he
        obtain ⟨rfl, rfl⟩ := he
        have : Does P N c H w (convert s d (ρ x)) (.int k (k.wrap n)) H := .pure hs (by simp [convert, run_underlying hu1, run_underlying hu2, hx.int, Conv.intToInt]) (.plain rfl)
        simpa only [execOp, hop] using this.val
      · simp at he
    · rename_i hu1 hu2
      obtain rfl := Option.some.inj hc
      simp only [evM] at he
      split at he
      · rename_i s0 hv
        rw [hv] at hx
        simp only [Option.some.injEq, Prod.mk.injEq] at he
        obtain ⟨rfl, rfl⟩ := he
        have : Does P N c H w (convert s d (ρ x)) (.string s0) H := .pure hs (by simp [convert, run_underlying hu1, run_underlying hu2, hx.str]) (.plain rfl)
        simpa only [execOp, hop] using this.val
      · simp at he
    · rename_i e hu1 hu2
      split at hc
      · rename_i hu3
        obtain rfl := Option.some.inj hc
        simp only [evM] at he
        split at he
        · rename_i s0 hv
          rw [hv] at hx
          split at he
          · simp only [Option.some.injEq, Prod.mk.injEq] at he
            obtain ⟨rfl, rfl⟩ := he
            have := toBytes_ok (P := P) hs hu1 hu2 hu3 s0
            rw [← hx.str] at this
            simpa only [execOp, hop] using this.val
          · simp at he
        · simp at he
      · simp at hc
    · rename_i e hu1 hu2
      split at hc
      · rename_i hu3
        obtain rfl := Option.some.inj hc
        simp only [evM] at he
        split at he
        · rename_i n cp hv
          rw [hv] at hx
          simp only [Option.some.injEq, Prod.mk.injEq] at he
          obtain ⟨rfl, rfl⟩ := he
          have : Does P N c H w (convert s d (ρ x)) (.string ⟨#[]⟩) H := .pure hs (by rw [hx.slcN]; exact run_convert_bytes_nil w s e hu1 hu3 n cp d hu2) (.plain rfl)
          simpa only [execOp, hop] using this.val
        · rename_i a n cp hv
          rw [hv] at hx
          split at he
          · rename_i l hl
            split at he
            · rename_i bs hb
              simp only [Option.some.injEq, Prod.mk.injEq] at he
              obtain ⟨rfl, rfl⟩ := he
              have := toStr_ok (P := P) (dst := d) hs hu1 hu3 hu2 hx hl hb
              simpa only [execOp, hop] using this.val
            · simp at he
          · simp at he
        · simp at he
      · simp at hc
    · simp at hc
  · -- makeMap
    rename_i t hop
    obtain rfl := Option.some.inj hc
    simp only [evM, Option.some.injEq, Prod.mk.injEq] at he
    obtain ⟨rfl, rfl⟩ := he
    obtain ⟨h1, h2⟩ := hs.alloc (.map #[] 0)
    have hrun : (Instr.makeMap t none).run P w = .ok (.map (some w.heap.size)) (w.alloc (.map #[] 0)) := by simp [Instr.makeMap, newObj]; rfl
    have : Does P N c H w (Instr.makeMap t none) (.map (some 0)) H := ⟨_, c, _, hrun, .mapDead, h1, h2⟩
    simpa only [execOp, hop, Option.map_none] using this.val
  · -- sliceToArrayPointer
    rename_i t x hop
    rw [hop] at ho
    have hx := hE x (all_ops ho (by simp [Op.operands]))
    split at hc
    · rename_i n e hu
      obtain rfl := Option.some.inj hc
      simp only [evM] at he
      split at he
      · rename_i a l cp hv
        rw [hv] at hx
        split at he
        · rename_i hle
          simp only [Option.some.injEq, Prod.mk.injEq] at he
          obtain ⟨rfl, rfl⟩ := he
          obtain ⟨a', k', e1, e2⟩ := hx.slcP
          have : Does P N c H w (Instr.arrayAt t (ρ x)) (.pointer (some a)) H := .pure hs (by simp [Instr.arrayAt, run_underlying hu, e1, show ¬ l < n by omega]) e2
          simpa only [execOp, hop] using this.val
        · simp at he
      · simp at he
    · simp at hc
  · -- makeInterface
    rename_i t x hop
    rw [hop] at ho
    have hx := hE x (all_ops ho (by simp [Op.operands]))
    split at hc
    · simp at hc
    · rename_i d hd hu
      obtain rfl := Option.some.inj hc
      simp only [evM, Option.some.injEq, Prod.mk.injEq] at he
      obtain ⟨rfl, rfl⟩ := he
      have : Does P N c H w (Instr.makeInterface t (ρ x)) (.iface t (ev f x)) H := .pure hs (by
        simp only [Instr.makeInterface, Sem.run_bind, run_underlying hu, Result.andThen_ok]
        cases d <;> first | rfl | (exact (hd _ rfl).elim)) (.iface hx)
      simpa only [execOp, hop] using this.val
    · simp at hc
  · -- makeFunc
    rename_i fn a b hop
    rw [hop] at ho
    obtain rfl := Option.some.inj hc
    simp only [evM, Option.some.injEq, Prod.mk.injEq] at he
    obtain ⟨rfl, rfl⟩ := he
    have hl1 : VRL H.next c (a.toList.map (ev f)) (a.toList.map ρ) := VRL.map _ fun y hy => hE y (all_ops ho (by simp only [Op.operands, Array.toList_append, List.mem_append]; exact .inl hy))
    have hl2 : VRL H.next c (b.toList.map (ev f)) (b.toList.map ρ) := VRL.map _ fun y hy => hE y (all_ops ho (by simp only [Op.operands, Array.toList_append, List.mem_append]; exact .inr hy))
    have : Does P N c H w (Instr.makeFunc fn (a.map ρ) (b.map ρ)) (.func fn (a.toList.map (ev f)).toArray (b.toList.map (ev f)).toArray) H := .pure hs (v' := .func fn (a.map ρ) (b.map ρ)) rfl (.func (by simp) (by simp) (fun j hj => by have := hl1.2 j (by simpa using hj); simpa using this) (fun j hj => by have := hl2.2 j (by simpa using hj); simpa using this))
    simpa only [execOp, hop] using this.val
  · -- makeSlice
    rename_i t l cp hop
    rw [hop] at ho
    have hx := hE l (all_ops ho (by simp [Op.operands]))
    have hy := hE cp (all_ops ho (by simp [Op.operands]))
    split at hc
    · rename_i e hu
      split at hc
      · rename_i i hi
        split at hc
        · rename_i z hz
          split at hc
          · rename_i hcond
            obtain rfl := Option.some.inj hc
            simp only [evM] at he
            split at he
            · rename_i k1 n k2 m0 h1 h2
              rw [h1] at hx
              rw [h2] at hy
              split at he
              · rename_i hb
                simp only [Option.some.injEq, Prod.mk.injEq] at he
                obtain ⟨rfl, rfl⟩ := he
                have := mkSlice_ok (P := P) (k := k1) (k2 := k2) hs hu hi hz hcond.1 hcond.2.1 hcond.2.2 hb.1 hb.2.1 hb.2.2.1 hb.2.2.2
                rw [← hx.int, ← hy.int] at this
                simpa only [execOp, hop] using this.val
              · simp at he
            · simp at he
          · simp at hc
        · simp at hc
      · simp at hc
    · simp at hc
  · -- slice
    rename_i t x lo hi hop
    rw [hop] at ho
    have hx := hE x (all_ops ho (by simp [Op.operands]))
    have hlo := opd_map (x := lo) (fun o' h => all_ops ho (by simp only [Op.operands, Array.toList_append, List.mem_append]; exact .inl (.inl (.inr h)))) hE
    have hhi := opd_map (x := hi) (fun o' h => all_ops ho (by simp only [Op.operands, Array.toList_append, List.mem_append]; exact .inl (.inr h))) hE
    have hval : ∀ {v0 : Value} {H0 : AH}, Does P N c H w (Instr.sliceAt t (ρ x) (lo.map ρ) (hi.map ρ) none) v0 H0 → DoesN P N c H w (execOp ρ o) v0 H0 := fun h => by
      have := h.val
      simpa only [execOp, hop, Option.map_none] using this
    have keyA : ∀ (n : Nat) (e : TypeId) (ei : TypeInfo), P.info? e = some ei → (∀ (a' : Addr) (l h : Nat), (Instr.sliceBounds false n n (lo.map ρ) (hi.map ρ) none).run P w = .ok (l, h, n) w → (Instr.sliceAt t (.pointer (some a')) (lo.map ρ) (hi.map ρ) none).run P w = .ok (.slice (some (if n = l then a' else a'.add (l * ei.size))) (h - l) (n - l)) w) → evM (.sliceA n ei.size x lo hi) f H = some (v, H') → Does P N c H w (Instr.sliceAt t (ρ x) (lo.map ρ) (hi.map ρ) none) v H' := fun n e ei hei hrun he => by
      simp only [evM] at he
      split at he
      · rename_i p hv
        rw [hv] at hx
        split at he
        · rename_i h hh
          split at he
          · rename_i l hl
            split at he
            · rename_i b hb0
              split at he
              · rename_i hcond
                simp only [Option.some.injEq, Prod.mk.injEq] at he
                obtain ⟨rfl, rfl⟩ := he
                obtain ⟨lc, hc0, hbr⟩ := hs.at_ hb0
                obtain ⟨e1, h1⟩ := hx.ptrL hc0
                have hb := run_bounds (P := P) (w := w) (b := false) hlo hhi hh hl (Nat.le_refl n)
                have hln : l ≤ n := Nat.le_trans (bound_le hl (Nat.zero_le _)) (bound_le hh (Nat.le_refl _))
                obtain ⟨cs, ty, fz, mid, k1, k2, k3, k4, k5, k6⟩ := hbr.row
                have hspot : p.spot = none := hx.ptrSpot hc0
                rw [e1]
                refine .pure hs (hrun _ l h hb) ?_
                split
                · rename_i hnl
                  exact VR.slice (l := lc) h1 hc0 hspot (Nat.le_refl _) (by rw [hnl]; simp; omega)
                · rw [add_eq]
                  have := VR.slice (n := H.next) (c := c) (a := addA p (l * ei.size)) (l := lc) (m := h - l) (k := n - l) (k' := n - l) h1 hc0 rfl (Nat.le_refl _) (by
                    simp only [addA]
                    rw [hbr.es, hcond.1]
                    have : (n - l) * ei.size + l * ei.size = n * ei.size := by rw [← Nat.add_mul]; congr 1; omega
                    omega)
                  rwa [show lc.sh + (addA p (l * ei.size)).off = lc.sh + p.off + l * ei.size by simp only [addA]; omega] at this
              · simp at he
            · simp at he
          · simp at he
        · simp at he
      · simp at he
    split at hc
    · rename_i hu
      obtain rfl := Option.some.inj hc
      simp only [evM] at he
      split at he
      · rename_i s0 hv
        rw [hv] at hx
        split at he
        · rename_i h hh
          split at he
          · rename_i l hl
            simp only [Option.some.injEq, Prod.mk.injEq] at he
            obtain ⟨rfl, rfl⟩ := he
            have hb := run_bounds (P := P) (w := w) (b := false) hlo hhi hh hl (Nat.le_refl _)
            exact hval (.pure hs (by simp [Instr.sliceAt, Instr.slice, run_underlying hu, hx.str, hb]) (.plain rfl))
          · simp at he
        · simp at he
      · simp at he
    · rename_i e hu
      split at hc
      · rename_i ei hei
        obtain rfl := Option.some.inj hc
        simp only [evM] at he
        split at he
        · rename_i a n cp hv
          rw [hv] at hx
          split at he
          · rename_i h hh
            split at he
            · rename_i l hl
              have hhc := bound_le hh
              split at he
              case isFalse => simp at he
              rename_i hhc2
              have hlh := bound_le hl (Nat.zero_le _)
              split at he
              · simp only [Option.some.injEq, Prod.mk.injEq] at he
                obtain ⟨rfl, rfl⟩ := he
                have hb := run_bounds (P := P) (w := w) (b := true) hlo hhi hh hl (Nat.le_refl cp)
                refine hval (.pure hs (v' := .slice none (h - l) (cp - l)) ?_ (.plain rfl))
                simp [Instr.sliceAt, Instr.slice, run_underlying hu, hx.slcN, hb, run_sizeOf hei]
              · rename_i p
                split at he
                · rename_i b hb0
                  split at he
                  · rename_i hes
                    obtain ⟨lc, hc0, hbr⟩ := hs.at_ hb0
                    obtain ⟨k', e1, h1, h2, h3⟩ := hx.slcL hc0
                    have hspot := hx.slcSpot hc0
                    have hb := run_bounds (P := P) (w := w) (b := true) hlo hhi hh hl h2
                    have hrun : (Instr.sliceAt t (ρ x) (lo.map ρ) (hi.map ρ) none).run P w = .ok (.slice (if k' = l then some ⟨lc.blk, lc.sh + p.off, none⟩ else some ((⟨lc.blk, lc.sh + p.off, none⟩ : Addr).add (l * ei.size))) (h - l) (k' - l)) w := by
                      simp [Instr.sliceAt, Instr.slice, run_underlying hu, e1, hb, run_sizeOf hei]
                    split at he
                    · rename_i hl0
                      subst hl0
                      simp only [Option.some.injEq, Prod.mk.injEq] at he
                      obtain ⟨rfl, rfl⟩ := he
                      refine hval (.pure hs hrun ?_)
                      have : (if k' = 0 then some (⟨lc.blk, lc.sh + p.off, none⟩ : Addr) else some ((⟨lc.blk, lc.sh + p.off, none⟩ : Addr).add (0 * ei.size))) = some ⟨lc.blk, lc.sh + p.off, none⟩ := by
                        rw [Nat.zero_mul, add_eq, Nat.add_zero]; split <;> rfl
                      rw [this]
                      exact VR.slice h1 hc0 hspot h2 h3
                    · rename_i hl0
                      split at he
                      · rename_i hlc
                        simp only [Option.some.injEq, Prod.mk.injEq] at he
                        obtain ⟨rfl, rfl⟩ := he
                        refine hval (.pure hs hrun ?_)
                        rw [if_neg (by omega), add_eq]
                        have := VR.slice (n := H.next) (c := c) (a := addA p (l * ei.size)) (l := lc) (m := h - l) (k := cp - l) (k' := k' - l) h1 hc0 rfl (by omega) (by
                          simp only [addA]
                          rw [hbr.es, hes] at h3 ⊢
                          have : (k' - l) * ei.size + l * ei.size = k' * ei.size := by rw [← Nat.add_mul]; congr 1; omega
                          omega)
                        rwa [show lc.sh + (addA p (l * ei.size)).off = lc.sh + p.off + l * ei.size by simp only [addA]; omega] at this
                      · rename_i hlc
                        split at he
                        · rename_i hg0
                          simp only [Option.some.injEq, Prod.mk.injEq] at he
                          obtain ⟨rfl, rfl⟩ := he
                          have hd : c 0 = none := by
                            have := hs.live 0
                            rw [hg0] at this
                            cases hq : c 0 with
                            | none => rfl
                            | some l0 => rw [hq] at this; simp at this
                          refine hval (.pure hs hrun ?_)
                          rw [show h - l = 0 by omega]
                          split
                          · exact VR.sliceDead (by simp only []; omega) hd
                          · exact VR.sliceDead (by simp only []; omega) hd
                        · simp at he
                  · simp at he
                · simp at he
            · simp at he
          · simp at he
        · simp at he
      · simp at hc
    · rename_i n e hu
      split at hc
      · rename_i ei hei
        obtain rfl := Option.some.inj hc
        exact hval (keyA n e ei hei (fun a' l h hb => by simp [Instr.sliceAt, run_underlying hu, Instr.sureAddr, hb, run_sizeOf hei]) he)
      · simp at hc
    · rename_i q hu
      split at hc
      · rename_i n e hu2
        split at hc
        · rename_i ei hei
          obtain rfl := Option.some.inj hc
          exact hval (keyA n e ei hei (fun a' l h hb => by simp [Instr.sliceAt, Instr.slice, run_underlying hu, run_underlying hu2, asAddr, hb, run_sizeOf hei]) he)
        · simp at hc
      · simp at hc
    · simp at hc
  · -- fieldAddr
    rename_i t x j hop
    rw [hop] at ho
    have hx := hE x (all_ops ho (by simp [Op.operands]))
    split at hc
    · rename_i fs hu
      split at hc
      · rename_i fd hj
        split at hc
        · rename_i i hi
          split at hc
          · simp at hc
          · rename_i hsz
            obtain rfl := Option.some.inj hc
            simp only [evM] at he
            split at he
            · rename_i p hv
              rw [hv] at hx
              simp only [Option.some.injEq, Prod.mk.injEq] at he
              obtain ⟨rfl, rfl⟩ := he
              obtain ⟨a', e1, e2⟩ := hx.addA fd.offset
              have : Does P N c H w (Instr.fieldAt t (ρ x) j) (.pointer (some (addA p fd.offset))) H := .pure hs (by simp [Instr.fieldAt, run_underlying hu, hj, e1, Instr.sureAddr, fieldPlace, run_sizeOf hi, hsz]) e2
              simpa only [execOp, hop] using this.val
            · simp at he
        · simp at hc
      · simp at hc
    · simp at hc
  · -- field
    rename_i t x j hop
    rw [hop] at ho
    have hx := hE x (all_ops ho (by simp [Op.operands]))
    split at hc
    · rename_i fs hu
      split at hc
      · rename_i fd hj
        split at hc
        · rename_i i d hi hd
          have key : ∀ agg n, m = .field agg fd.offset n x → ((isAggT d = true ∧ agg = true ∧ n = i.size) ∨ (isAggT d = false ∧ agg = false ∧ n = 1)) → DoesN P N c H w (execOp ρ o) v H' := fun agg n hm' hagg => by
            subst hm'
            simp only [evM] at he
            split at he
            · rename_i cs hv
              rw [hv] at hx
              split at he
              · rename_i hle
                split at he
                · rename_i v0 hv0
                  simp only [Option.some.injEq, Prod.mk.injEq] at he
                  obtain ⟨rfl, rfl⟩ := he
                  obtain ⟨v', e1, e2⟩ := run_field (P := P) (w := w) hu hj hd hi hx hagg hle hv0
                  have : Does P N c H w (Instr.field t (ρ x) j) v0 H := .pure hs e1 e2
                  simpa only [execOp, hop] using this.val
                · simp at he
              · simp at he
            · simp at he
          split at hc
          · rename_i hg; exact key _ _ (Option.some.inj hc).symm (.inl ⟨hg, rfl, rfl⟩)
          · rename_i hg; exact key _ _ (Option.some.inj hc).symm (.inr ⟨by simpa using hg, rfl, rfl⟩)
        · simp at hc
      · simp at hc
    · simp at hc
  · -- indexAddr
    rename_i t x i hop
    rw [hop] at ho
    have hx := hE x (all_ops ho (by simp [Op.operands]))
    have hi := hE i (all_ops ho (by simp [Op.operands]))
    split at hc
    · rename_i e hu
      split at hc
      · rename_i ei hei
        obtain rfl := Option.some.inj hc
        simp only [evM] at he
        split at he
        · rename_i a n cp k j hv hw
          rw [hv] at hx
          rw [hw] at hi
          split at he
          · rename_i hb
            simp only [Option.some.injEq, Prod.mk.injEq] at he
            obtain ⟨rfl, rfl⟩ := he
            obtain ⟨a', k', e1, e2⟩ := hx.slcA (j.toNat * ei.size)
            have : Does P N c H w (Instr.indexAt t (ρ x) (ρ i)) (.pointer (some (addA a (j.toNat * ei.size)))) H := .pure hs (by simp [Instr.indexAt, hi.int, asIntOf, run_underlying hu, e1, hb.1, hb.2, run_sizeOf hei]) e2
            simpa only [execOp, hop] using this.val
          · simp at he
        · simp at he
      · simp at hc
    · rename_i n e hu
      split at hc
      · rename_i ei hei
        obtain rfl := Option.some.inj hc
        simp only [evM] at he
        split at he
        · rename_i a k j hv hw
          rw [hv] at hx
          rw [hw] at hi
          split at he
          · rename_i hb
            simp only [Option.some.injEq, Prod.mk.injEq] at he
            obtain ⟨rfl, rfl⟩ := he
            obtain ⟨a', e1, e2⟩ := hx.addA (j.toNat * ei.size)
            have : Does P N c H w (Instr.indexAt t (ρ x) (ρ i)) (.pointer (some (addA a (j.toNat * ei.size)))) H := .pure hs (by simp [Instr.indexAt, hi.int, asIntOf, run_underlying hu, e1, Instr.sureAddr, hb.1, hb.2, run_sizeOf hei]) e2
            simpa only [execOp, hop] using this.val
          · simp at he
        · simp at he
      · simp at hc
    · simp at hc
  · -- index
    rename_i t x i hop
    rw [hop] at ho
    have hx := hE x (all_ops ho (by simp [Op.operands]))
    have hi := hE i (all_ops ho (by simp [Op.operands]))
    split at hc
    · rename_i hu
      obtain rfl := Option.some.inj hc
      simp only [evM] at he
      split at he
      · rename_i s0 k j hv hw
        rw [hv] at hx
        rw [hw] at hi
        split at he
        · rename_i hb
          simp only [Option.some.injEq, Prod.mk.injEq] at he
          obtain ⟨rfl, rfl⟩ := he
          have : Does P N c H w (Instr.index t (ρ x) (ρ i)) (.int .u8 (s0.data.toList.getD j.toNat 0).toNat) H := .pure hs (by rw [hx.str, hi.int]; exact run_strIdx hu hb.1 hb.2) (.plain rfl)
          simpa only [execOp, hop] using this.val
        · simp at he
      · simp at he
    · rename_i n e hu
      split at hc
      · rename_i ei d hei hd
        have key : ∀ agg n2, m = .arrIdx agg n n2 x i → n2 = ei.size → ((isAggT d = true ∧ agg = true) ∨ (isAggT d = false ∧ agg = false ∧ n2 = 1)) → DoesN P N c H w (execOp ρ o) v H' := fun agg n2 hm' hn2 hagg => by
          subst hm'
          simp only [evM] at he
          split at he
          · rename_i cs k j hv hw
            rw [hv] at hx
            rw [hw] at hi
            split at he
            · rename_i hb
              split at he
              · rename_i v0 hv0
                simp only [Option.some.injEq, Prod.mk.injEq] at he
                obtain ⟨rfl, rfl⟩ := he
                obtain ⟨v', e1, e2⟩ := run_arrIdx (P := P) (w := w) (k := k) hu hd hei hx hn2 hagg hb.1 hb.2.1 hb.2.2 hv0
                rw [← hi.int] at e1
                have : Does P N c H w (Instr.index t (ρ x) (ρ i)) v0 H := .pure hs e1 e2
                simpa only [execOp, hop] using this.val
              · simp at he
            · simp at he
          · simp at he
        split at hc
        · rename_i hg; exact key _ _ (Option.some.inj hc).symm rfl (.inl ⟨hg, rfl⟩)
        · rename_i hg
          split at hc
          · rename_i h1; exact key _ _ (Option.some.inj hc).symm h1.symm (.inr ⟨by simpa using hg, rfl, rfl⟩)
          · simp at hc
      · simp at hc
    · simp at hc
  · -- extract
    rename_i x i hop
    rw [hop] at ho
    have hx := hE x (all_ops ho (by simp [Op.operands]))
    obtain rfl := Option.some.inj hc
    simp only [evM] at he
    split at he
    · rename_i vs hv
      rw [hv] at hx
      split at he
      · rename_i v0 hv0
        simp only [Option.some.injEq, Prod.mk.injEq] at he
        obtain ⟨rfl, rfl⟩ := he
        obtain ⟨vs', e1, e2⟩ := VRL.of_tuple hx
        obtain ⟨v', e3, e4⟩ := e2.get (j := i) (v := v0) (by simpa using hv0)
        have : Does P N c H w (Instr.extract (ρ x) i) v0 H := .pure hs (v' := v') (by
          rw [Array.getElem?_toList] at e3
          simp [Instr.extract, e1, e3]) e4
        simpa only [execOp, hop] using this.val
      · simp at he
    · simp at he
  · -- call
    rename_i cl hop
    rw [hop] at ho
    split at hc
    · rename_i b hcal
      obtain ⟨csts, hres⟩ : ∃ cs, (resolve ρ cl o.type) = Pure.pure { target := .builtin b cl.argTypes o.type cs, args := cl.args.map ρ } := ⟨_, by unfold resolve; rw [hcal]⟩
      have := builtin_ok (P := P) (ty := o.type) (cs := csts) hs hE hc (fun x hx => all_ops ho (by simp only [Op.operands, Call.operands, Array.toList_append, List.mem_append]; exact .inr hx)) he
      obtain ⟨nx, v', c', w', h1, h2⟩ := this
      exact ⟨nx, v', c', w', by simp [execOp, hop, hres, invoke, h1], h2⟩
    · obtain rfl := Option.some.inj hc
      exact (hm _ _ _ rfl).elim
    · simp at hc
  · simp at hc
end
end Go.Proofs.Ytildhljhbbhmmaa.AM
/- Compiled operations that are not ordered can be taken in either order. No program in sight. -/
namespace Go.Proofs.Ytildhljhbbhmmaa.AM
open Go
set_option linter.all false

/-- What lies below is kept. -/
structure Ext (H H' : AH) : Prop where
  nx : H.next ≤ H'.next
  low : H'.low ≤ H.low
  same : ∀ id, id < H.next → id < H'.low → H'.get id = H.get id
/-- All that was there is kept. -/
structure Same (H H' : AH) : Prop where
  nx : H.next ≤ H'.next
  low : H'.low = H.low
  same : ∀ id, id < H.next → H'.get id = H.get id
theorem Ext.refl (H : AH) : Ext H H := ⟨Nat.le_refl _, Nat.le_refl _, fun _ _ _ => rfl⟩
theorem Ext.trans {H H1 H2 : AH} (h : Ext H H1) (k : Ext H1 H2) : Ext H H2 :=
  ⟨Nat.le_trans h.nx k.nx, Nat.le_trans k.low h.low, fun id h1 h2 => by rw [k.same id (Nat.lt_of_lt_of_le h1 h.nx) h2, h.same id h1 (Nat.lt_of_lt_of_le h2 k.low)]⟩
theorem Same.refl (H : AH) : Same H H := ⟨Nat.le_refl _, rfl, fun _ _ => rfl⟩
theorem Same.ext {H H' : AH} (h : Same H H') : Ext H H' := ⟨h.nx, Nat.le_of_eq h.low, fun id h1 _ => h.same id h1⟩
theorem AH.next_push (H : AH) (b : Blk) : (H.push b).next = H.next + 1 := by simp [AH.push, AH.next]
theorem AH.get_push_lt (H : AH) (b : Blk) {id : Nat} (h : id < H.next) : (H.push b).get id = H.get id := by
  simp only [AH.push, AH.get, AH.next] at *
  rw [List.getElem?_append_left h]
theorem AH.get_push_eq (H : AH) (b : Blk) : (H.push b).get H.next = some b := by
  simp [AH.push, AH.get, AH.next]
theorem AH.get_lt {H : AH} {id : Nat} {b : Blk} (h : H.get id = some b) : id < H.next := by
  simp only [AH.get, AH.next] at *
  rcases Nat.lt_or_ge id H.blks.length with h' | h'
  · exact h'
  · rw [List.getElem?_eq_none h'] at h; simp at h
theorem AH.next_set (H : AH) (id : Nat) (b : Option Blk) : (H.set id b).next = H.next := by simp [AH.set, AH.next]
theorem AH.get_set_ne (H : AH) {id j : Nat} (b : Option Blk) (h : j ≠ id) : (H.set id b).get j = H.get j := by
  simp only [AH.set, AH.get]
  rw [List.getElem?_set_ne (Ne.symm h)]
theorem AH.get_set_eq (H : AH) {id : Nat} (b : Option Blk) (h : id < H.next) : (H.set id b).get id = b := by
  simp only [AH.set, AH.get, AH.next] at *
  rw [List.getElem?_set_self h]; rfl
theorem Same.push (H : AH) (b : Blk) : Same H (H.push b) := ⟨by rw [AH.next_push]; omega, rfl, fun _ h => H.get_push_lt b h⟩
theorem Ext.set (H : AH) (id : Nat) (b : Option Blk) : Ext H (H.set id b) :=
  ⟨by rw [AH.next_set]; exact Nat.le_refl _, by simp only [AH.set]; exact Nat.min_le_left _ _, fun j h1 h2 => H.get_set_ne b (by simp only [AH.set] at h2; omega)⟩
theorem stU_ext {H H' : AH} {a : Addr} {vs : List Value} (h : stU H a vs = some H') : Ext H H' := by
  unfold stU at h
  split at h
  · split at h
    · obtain rfl := Option.some.inj h; exact .set _ _ _
    · simp at h
  · simp at h
theorem stc_ext {H H' : AH} {a : Addr} {vs : List Value} (h : stc H a vs = some H') : Ext H H' := by
  unfold stc at h
  split at h
  · exact stU_ext h
  · simp at h
theorem ldc_lt {H : AH} {a : Addr} {n : Nat} {l : List Value} (h : ldc H a n = some l) : a.block < H.next := by
  unfold ldc at h
  split at h
  · rename_i b hb; exact AH.get_lt hb
  · simp at h
theorem appended_ext {H H' : AH} {es bytes k : Nat} {s v : Value} {new : List Value} (h : appended H es bytes s k new = some (v, H')) : Ext H H' := by
  unfold appended at h
  split at h
  · split at h
    · split at h
      · simp only [Option.some.injEq, Prod.mk.injEq] at h; obtain ⟨_, rfl⟩ := h; exact .refl _
      · split at h
        · simp only [Option.some.injEq, Prod.mk.injEq] at h; obtain ⟨_, rfl⟩ := h; exact (Same.push _ _).ext
        · simp at h
    · simp at h
  · split at h
    · simp at h
    · split at h
      · split at h
        · split at h
          · rename_i H1 h1
            simp only [Option.some.injEq, Prod.mk.injEq] at h; obtain ⟨_, rfl⟩ := h; exact stU_ext h1
          · simp at h
        · split at h
          · split at h
            · simp only [Option.some.injEq, Prod.mk.injEq] at h; obtain ⟨_, rfl⟩ := h; exact (Ext.set _ _ _).trans (Same.push _ _).ext
            · simp at h
          · simp at h
      · split at h
        · simp only [Option.some.injEq, Prod.mk.injEq] at h; obtain ⟨_, rfl⟩ := h; exact .refl _
        · simp at h
  · simp at h

/-! ### Kinds of operations -/
inductive Cls where
  | pure | read | grow | write
  deriving DecidableEq
def MI.cls : MI → Cls
  | .load _ _ _ | .toStr _ | .sliceS _ _ _ _ | .sliceA _ _ _ _ _ | .boxDead _ => .read
  | .alloc _ _ | .box _ _ | .buildSlice _ _ _ _ | .mkSlice _ _ _ _ _ | .toBytes _ => .grow
  | .call p _ _ => if p then .grow else .write
  | .store _ _ _ | .storeX _ _ _ _ | .append _ _ _ _ | .appendZ _ _ _ _ _ | .copy _ _ _ | .uString _ _ | .uData _ | .mkMap => .write
  | _ => .pure
def MI.isCall : MI → Bool
  | .call _ _ _ => true
  | .callL _ _ => true
  | _ => false
theorem evOp_evM {call : CallH} {m : MI} (hm : m.isCall = false) (f : Fr) (H : AH) : evOp call m f H = evM m f H := by
  cases m <;> first | rfl | simp [MI.isCall] at hm
theorem evM_pure {m : MI} (hm : m.cls = .pure) {f : Fr} {H H1 : AH} {v : Value} (h : evM m f H = some (v, H1)) : H1 = H ∧ ∀ H', evM m f H' = some (v, H') := by
  cases m <;> simp only [MI.cls, reduceCtorEq] at hm <;> (try (split at hm <;> simp at hm)) <;> simp only [evM] at h ⊢ <;>
    first
    | (simp only [Option.some.injEq, Prod.mk.injEq] at h; exact ⟨h.2.symm, fun H' => by rw [h.1]⟩)
    | (simp only [reduceCtorEq] at h; done)
    | (split at h <;> (try (split at h)) <;> (try (split at h)) <;> (try (split at h)) <;> first
        | (simp at h; done)
        | (simp only [Option.some.injEq, Prod.mk.injEq] at h; obtain ⟨h1, h2⟩ := h; refine ⟨h2.symm, fun H' => ?_⟩; simp_all))
theorem ldc_cong {H H' : AH} {a : Addr} {n : Nat} (h : H'.get a.block = H.get a.block) : ldc H' a n = ldc H a n := by unfold ldc; rw [h]
theorem evM_read {m : MI} (hm : m.cls = .read) {f : Fr} {H H1 : AH} {v : Value} (h : evM m f H = some (v, H1)) : H1 = H ∧ (∀ b ∈ m.rdBlk f, b < H.next) := by
  cases m <;> simp only [MI.cls, reduceCtorEq] at hm <;> (try (split at hm <;> simp at hm))
  · simp only [evM] at h
    simp only [MI.rdBlk]
    split at h
    · rename_i hp
      simp only [Option.some.injEq, Prod.mk.injEq] at h
      exact ⟨h.2.symm, fun b hb => by rw [hp] at hb; simp [blkOf] at hb⟩
    · rename_i a n k hp
      split at h
      · rename_i cs hl
        split at h
        · simp only [Option.some.injEq, Prod.mk.injEq] at h
          exact ⟨h.2.symm, fun b hb => by rw [hp] at hb; simp only [blkOf, List.mem_singleton] at hb; subst hb; exact ldc_lt hl⟩
        · simp at h
      · simp at h
    · simp at h
  · -- load
    simp only [evM] at h
    simp only [MI.rdBlk]
    split at h
    · rename_i p hp
      split at h
      · rename_i cs hl
        split at h
        · simp only [Option.some.injEq, Prod.mk.injEq] at h
          exact ⟨h.2.symm, fun b hb => by rw [hp] at hb; simp only [blkOf, List.mem_singleton] at hb; subst hb; exact ldc_lt hl⟩
        · simp at h
      · simp at h
    · simp at h
  · simp only [evM] at h
    simp only [MI.rdBlk]
    split at h
    · rename_i a n k hp
      split at h
      · split at h
        · split at h
          · split at h
            · simp only [Option.some.injEq, Prod.mk.injEq] at h
              exact ⟨h.2.symm, fun b hb => by rw [hp] at hb; simp [blkOf] at hb⟩
            · split at h
              · rename_i p _ bb hb
                have key : ∀ b ∈ blkOf (.slice (some p) n k), b < H.next := fun b hbm => by
                  simp only [blkOf, List.mem_singleton] at hbm; subst hbm; exact AH.get_lt hb
                split at h
                · split at h
                  · simp only [Option.some.injEq, Prod.mk.injEq] at h
                    exact ⟨h.2.symm, by rw [hp]; exact key⟩
                  · split at h
                    · simp only [Option.some.injEq, Prod.mk.injEq] at h
                      exact ⟨h.2.symm, by rw [hp]; exact key⟩
                    · split at h
                      · simp only [Option.some.injEq, Prod.mk.injEq] at h
                        exact ⟨h.2.symm, by rw [hp]; exact key⟩
                      · simp at h
                · simp at h
              · simp at h
          · simp at h
        · simp at h
      · simp at h
    · simp at h
  · simp only [evM] at h
    simp only [MI.rdBlk]
    split at h
    · rename_i p hp
      split at h
      · split at h
        · split at h
          · rename_i bb hb
            split at h
            · simp only [Option.some.injEq, Prod.mk.injEq] at h
              exact ⟨h.2.symm, fun b hbm => by rw [hp] at hbm; simp only [blkOf, List.mem_singleton] at hbm; subst hbm; exact AH.get_lt hb⟩
            · simp at h
          · simp at h
        · simp at h
      · simp at h
    · simp at h
  · simp only [evM] at h
    split at h
    · rename_i hd
      simp only [Option.some.injEq, Prod.mk.injEq] at h
      exact ⟨h.2.symm, fun b hb => by simp only [MI.rdBlk, List.mem_singleton] at hb; subst hb; exact hd.1⟩
    · simp at h
theorem dead_cong {x : Operand} {f : Fr} {H H' : AH} (hn : 0 < H.next → 0 < H'.next) (hn' : 0 < H'.next → 0 < H.next) (hg : H'.get 0 = H.get 0) : (evM (.boxDead x) f H').map (·.1) = (evM (.boxDead x) f H).map (·.1) := by
  simp only [evM, hg]
  by_cases h : 0 < H.next
  · simp only [h, hn h, true_and]; split <;> rfl
  · simp only [h, show ¬ 0 < H'.next from fun h2 => h (hn' h2), false_and, if_false]
theorem evM_read_cong {m : MI} (hm : m.cls = .read) {f : Fr} {H H' : AH} (hl : ∀ b ∈ m.rdBlk f, b < H.next ∧ b < H'.next) (hg : ∀ b ∈ m.rdBlk f, ∀ j, j ≤ b → H'.get j = H.get j) : (evM m f H').map (·.1) = (evM m f H).map (·.1) := by
  cases m <;> simp only [MI.cls, reduceCtorEq] at hm <;> (try (split at hm <;> simp at hm))
  · rename_i x
    simp only [evM]
    simp only [MI.rdBlk] at hg
    cases hx : ev f x with
    | slice p n k =>
      cases p with
      | none => rfl
      | some p =>
        rw [hx] at hg
        have := hg p.block (by simp [blkOf]) _ (Nat.le_refl _)
        simp only [ldc_cong this]
        cases ldc H p n with
        | none => rfl
        | some cs => cases hb : bytesOf cs <;> simp [hb]
    | _ => rfl
  · rename_i ag n a
    simp only [evM]
    simp only [MI.rdBlk] at hg
    cases hx : ev f a with
    | pointer p =>
      cases p with
      | none => rfl
      | some p =>
        rw [hx] at hg
        have := hg p.block (by simp [blkOf]) _ (Nat.le_refl _)
        simp only [ldc_cong this]
        cases ldc H p n with
        | none => rfl
        | some cs => cases ho : oneOf ag cs <;> simp [ho]
    | _ => rfl
  · rename_i es x lo hi
    simp only [evM]
    simp only [MI.rdBlk] at hg
    cases hx : ev f x with
    | slice p n k =>
      simp only
      cases p with
      | none =>
        cases bound f hi n k with
        | none => rfl
        | some h =>
          simp only
          cases bound f lo 0 h with
          | none => rfl
          | some l => simp only; split <;> rfl
      | some p =>
        rw [hx] at hg
        have h1 := hg p.block (by simp [blkOf]) _ (Nat.le_refl _)
        have h0 := hg p.block (by simp [blkOf]) 0 (Nat.zero_le _)
        simp only [h1, h0]
        cases bound f hi n k with
        | none => rfl
        | some h =>
          simp only
          cases bound f lo 0 h with
          | none => rfl
          | some l =>
            simp only
            split
            · cases H.get p.block with
              | none => rfl
              | some b => simp only; (repeat' split) <;> rfl
            · rfl
    | _ => rfl
  · rename_i len es x lo hi
    simp only [evM]
    simp only [MI.rdBlk] at hg
    cases hx : ev f x with
    | pointer p =>
      cases p with
      | none => rfl
      | some p =>
        rw [hx] at hg
        have h1 := hg p.block (by simp [blkOf]) _ (Nat.le_refl _)
        simp only [h1]
        cases bound f hi len len with
        | none => rfl
        | some h =>
          simp only
          cases bound f lo 0 h with
          | none => rfl
          | some l =>
            simp only
            cases H.get p.block with
            | none => rfl
            | some b => simp only; (repeat' split) <;> rfl
    | _ => rfl
  · have h1 := hl 0 (by simp [MI.rdBlk])
    exact dead_cong (fun _ => h1.2) (fun _ => h1.1) (hg 0 (by simp [MI.rdBlk]) 0 (Nat.le_refl _))
theorem evM_grow {m : MI} (hm : m.cls = .grow) {f : Fr} {H H1 : AH} {v : Value} (h : evM m f H = some (v, H1)) : Same H H1 := by
  cases m <;> simp only [MI.cls, reduceCtorEq] at hm <;> simp only [evM] at h <;>
    first
    | (simp only [Option.some.injEq, Prod.mk.injEq] at h; obtain ⟨_, rfl⟩ := h; exact .push _ _)
    | (simp at h; done)
    | ((repeat' split at h) <;> first
        | (simp at h; done)
        | (simp only [Option.some.injEq, Prod.mk.injEq] at h; obtain ⟨_, rfl⟩ := h; exact .push _ _))
theorem evM_ext {m : MI} {f : Fr} {H H1 : AH} {v : Value} (h : evM m f H = some (v, H1)) : Ext H H1 := by
  cases hc : m.cls with
  | pure => rw [(evM_pure hc h).1]; exact .refl _
  | read => rw [(evM_read hc h).1]; exact .refl _
  | grow => exact (evM_grow hc h).ext
  | write =>
    cases m <;> simp only [MI.cls, reduceCtorEq] at hc <;> simp only [evM, reduceCtorEq] at h
    · split at h
      · split at h
        · split at h
          · rename_i h1
            simp only [Option.some.injEq, Prod.mk.injEq] at h; obtain ⟨_, rfl⟩ := h; exact stc_ext h1
          · simp at h
        · simp at h
      · simp at h
    · split at h
      · split at h
        · split at h
          · split at h
            · rename_i h1
              simp only [Option.some.injEq, Prod.mk.injEq] at h; obtain ⟨_, rfl⟩ := h; exact stc_ext h1
            · simp at h
          · simp at h
        · simp at h
      · simp at h
    · split at h
      · exact appended_ext h
      · simp at h
    · split at h
      · split at h
        · exact appended_ext h
        · simp at h
      · simp at h
    · split at h
      · split at h
        · split at h
          · rename_i h1
            simp only [Option.some.injEq, Prod.mk.injEq] at h; obtain ⟨_, rfl⟩ := h; exact stU_ext h1
          · simp at h
        · simp at h
      · simp at h

/-! ### Operands -/
def MI.ops : MI → List Operand
  | .mov x | .un _ x | .conv _ x | .strMov x | .toStr x | .toBytes x | .box _ x | .nilCheck x | .addOff _ x | .field _ _ _ x
  | .toArr _ x | .boxDead x | .mkIface _ x | .extract x _ | .len x | .lenStr x | .cap x | .uData x | .load _ _ x => [x]
  | .pick c a b => [c, a, b]
  | .bin _ _ x y | .eqc _ _ x y | .store _ x y | .idxS _ x y | .idxA _ _ x y | .strIdx x y | .arrIdx _ _ _ x y | .mkSlice _ _ _ x y
  | .append _ _ x y | .appendZ _ _ _ x y | .copy _ x y | .uString x y => [x, y]
  | .build _ ps => ps.map (·.2.2)
  | .buildSlice _ _ _ ps => ps.map (·.2.2)
  | .sliceStr x lo hi | .sliceS _ x lo hi | .sliceA _ _ x lo hi => x :: (lo.toList ++ hi.toList)
  | .mkFunc _ a b => a ++ b
  | .storeX _ a x far => a :: x :: far.map .tmp
  | .call _ g args => g :: args
  | .callL g args => g :: args
  | .min x xs | .max x xs => x :: xs
  | .alloc _ _ | .lenC _ | .mkMap | .newMap => []
theorem bound_cong {f g : Fr} {x : Option Operand} (h : ∀ o ∈ x.toList, ev f o = ev g o) (d m : Nat) : bound f x d m = bound g x d m := by
  cases x with
  | none => rfl
  | some o => simp only [bound, h o (by simp)]
theorem parts_cong {f g : Fr} {ps : List (Nat × Nat × Operand)} (h : ∀ o ∈ ps.map (·.2.2), ev f o = ev g o) : (ps.map fun p => (p.1, p.2.1, ev f p.2.2)) = ps.map fun p => (p.1, p.2.1, ev g p.2.2) :=
  List.map_congr_left fun p hp => by rw [h _ (List.mem_map.2 ⟨p, hp, rfl⟩)]
theorem map_cong {f g : Fr} {xs : List Operand} (h : ∀ o ∈ xs, ev f o = ev g o) : xs.map (ev f) = xs.map (ev g) := List.map_congr_left h
theorem far_cong {f g : Fr} {far : List Tmp} (h : ∀ o ∈ far.map Operand.tmp, ev f o = ev g o) (b : Nat) : farB f far b = farB g far b := by
  unfold farB
  induction far with
  | nil => rfl
  | cons t far ih =>
    have h1 : f t = g t := h (.tmp t) (by simp)
    simp only [List.all_cons, h1]
    rw [ih fun o ho => h o (by simp only [List.map_cons, List.mem_cons]; exact .inr ho)]
theorem storeX_cong {n : Nat} {a x : Operand} {far : List Tmp} {f g : Fr} (h1 : ev f a = ev g a) (h2 : ev f x = ev g x) (h3 : ∀ o ∈ far.map Operand.tmp, ev f o = ev g o) (H : AH) : evM (.storeX n a x far) f H = evM (.storeX n a x far) g H := by
  simp only [evM, h1, h2, far_cong h3]
theorem evM_cong {m : MI} {f g : Fr} (h : ∀ o ∈ m.ops, ev f o = ev g o) (H : AH) : evM m f H = evM m g H := by
  by_cases hx : ∃ n a x far, m = .storeX n a x far
  · obtain ⟨n, a, x, far, rfl⟩ := hx
    simp only [MI.ops, List.mem_cons] at h
    exact storeX_cong (h _ (.inl rfl)) (h _ (.inr (.inl rfl))) (fun o ho => h o (.inr (.inr ho))) H
  cases m <;> simp only [MI.ops, List.mem_cons, List.mem_append, List.not_mem_nil, or_false, forall_eq_or_imp, forall_eq] at h <;> simp only [evM] <;>
    first
    | rfl
    | rw [h]
    | rw [h.1, h.2]
    | rw [h.1, h.2.1, h.2.2]
    | rw [parts_cong h]
    | rw [h.1, map_cong h.2]
    | rw [map_cong fun o ho => h o (.inl ho), map_cong fun o ho => h o (.inr ho)]
    | simp only [h.1, bound_cong fun o ho => h.2 o (.inl ho), bound_cong fun o ho => h.2 o (.inr ho)]
    | exact absurd ⟨_, _, _, _, rfl⟩ hx
theorem callee_cong {f g : Fr} {x : Operand} {args : List Operand} (h : ev f x = ev g x) (h2 : ∀ o ∈ args, ev f o = ev g o) : callee f x args = callee g x args := by
  unfold callee; rw [h, map_cong h2]
theorem evOp_cong {call : CallH} {m : MI} {f g : Fr} (h : ∀ o ∈ m.ops, ev f o = ev g o) (H : AH) : evOp call m f H = evOp call m g H := by
  cases hm : m.isCall with
  | false => rw [evOp_evM hm, evOp_evM hm, evM_cong h]
  | true =>
    cases m <;> simp only [MI.isCall, Bool.false_eq_true] at hm
    all_goals
      simp only [MI.ops, List.mem_cons, forall_eq_or_imp] at h
      simp only [evOp, callee_cong h.1 h.2]
theorem rdBlk_cong {m : MI} {f g : Fr} (h : ∀ o ∈ m.ops, ev f o = ev g o) : m.rdBlk f = m.rdBlk g := by
  cases m <;> simp only [MI.rdBlk] <;> simp only [MI.ops, List.mem_cons, List.not_mem_nil, or_false, forall_eq_or_imp, forall_eq] at h <;> first | rw [h] | rw [h.1]
/-- The temporaries that an operation looks at. -/
def MOp.looks (o : MOp) : List Tmp :=
  (match o.guard with | some (t, _) => [t] | none => []) ++ (o.op.ops.filterMap fun | .tmp t => some t | _ => none)
theorem evV_cong {call : CallH} {bs : Nat} {o : MOp} {f g : Fr} (h : ∀ t ∈ o.looks, f t = g t) (H : AH) : evV call bs o f H = evV call bs o g H := by
  have h1 : ∀ x ∈ o.op.ops, ev f x = ev g x := fun x hx => by
    cases x with
    | tmp t => exact h t (List.mem_append_right _ (List.mem_filterMap.2 ⟨_, hx, rfl⟩))
    | _ => rfl
  have h2 : evG call bs o f H = evG call bs o g H := by simp only [evG, evOp_cong h1, rdBlk_cong h1]
  unfold evV
  cases hg : o.guard with
  | none => exact h2
  | some tw =>
    obtain ⟨t, want⟩ := tw
    have : f t = g t := h t (by simp [MOp.looks, hg])
    simp only [this, h2]

/-- Neither writes what the other looks at or writes. -/
def MOp.apart (x y : MOp) : Bool :=
  (match x.dst with
   | some d => !(y.looks).contains d && y.dst != some d
   | none => true) &&
  (match y.dst with
   | some d => !(x.looks).contains d
   | none => true)
theorem apart_spec {x y : MOp} (h : x.apart y = true) : (∀ d, x.dst = some d → d ∉ y.looks) ∧ (∀ d, x.dst = some d → y.dst ≠ some d) ∧ (∀ d, y.dst = some d → d ∉ x.looks) := by
  refine ⟨fun d hd => ?_, fun d hd => ?_, fun d hd => ?_⟩ <;> simp [MOp.apart, hd] at h
  · exact h.1.1
  · exact h.1.2
  · exact h.2
theorem put_ne {f : Fr} {d : Option Tmp} {v : Value} {t : Tmp} (h : d ≠ some t) : put f d v t = f t := by
  cases d with
  | none => rfl
  | some d => simp only [put, upd]; rw [if_neg]; intro e; exact h (by rw [e])
theorem put_comm {f : Fr} {x y : Option Tmp} {v u : Value} (h : ∀ d, x = some d → y ≠ some d) : put (put f x v) y u = put (put f y u) x v := by
  cases x with
  | none => rfl
  | some d =>
    cases y with
    | none => rfl
    | some e =>
      have : d ≠ e := fun h' => h d rfl (by rw [h'])
      funext t
      simp only [put, upd]
      split <;> split <;> simp_all
/-- A store that does not hit what is read. -/
def farOk (x y : MI) : Bool :=
  match x, y with
  | .storeX _ _ _ far, .load _ _ (.tmp t) => far.contains t
  | _, _ => false
def clsOk (x y : MOp) : Bool :=
  match x.op.cls, y.op.cls with
  | .read, .write => farOk y.op x.op
  | .write, .read => farOk x.op y.op
  | .pure, _ | _, .pure | .read, .read | .read, .grow => true
  | .grow, .read => y.old
  | _, _ => false

/-- What a call is known to keep. -/
def CallExt (call : CallH) : Prop := ∀ n vs H v H', call n vs H = some (v, H') → Ext H H'
section
variable {call : CallH} {bs : Nat}
theorem evOp_lone {g : Operand} {xs : List Operand} {f : Fr} {H H1 : AH} {v : Value} (h : evOp call (.callL g xs) f H = some (v, H1)) : H1 = H ∧ ∀ H', evOp call (.callL g xs) f H' = some (v, H') := by
  simp only [evOp] at h ⊢
  split at h
  · rename_i n vs he
    split at h
    · rename_i hp
      split at h
      · rename_i v1 H2 h2
        split at h
        · rename_i h3
          simp only [Option.some.injEq, Prod.mk.injEq] at h
          obtain ⟨rfl, rfl⟩ := h
          refine ⟨rfl, fun H' => ?_⟩
          simp only [hp, h2, h3, if_true]
        · simp at h
      · simp at h
    · simp at h
  · simp at h
theorem evOp_pure {m : MI} (hm : m.cls = .pure) {f : Fr} {H H1 : AH} {v : Value} (h : evOp call m f H = some (v, H1)) : H1 = H ∧ ∀ H', evOp call m f H' = some (v, H') := by
  cases hi : m.isCall with
  | false =>
    rw [evOp_evM hi] at h
    obtain ⟨e1, e2⟩ := evM_pure hm h
    exact ⟨e1, fun H' => by rw [evOp_evM hi]; exact e2 H'⟩
  | true =>
    cases m <;> simp only [MI.isCall, Bool.false_eq_true] at hi
    · simp only [MI.cls] at hm
      split at hm <;> simp at hm
    · exact evOp_lone h
theorem evOp_ext (hc : CallExt call) {m : MI} {f : Fr} {H H1 : AH} {v : Value} (h : evOp call m f H = some (v, H1)) : Ext H H1 := by
  cases hm : m.isCall with
  | false => rw [evOp_evM hm] at h; exact evM_ext h
  | true =>
    cases m <;> simp only [MI.isCall, Bool.false_eq_true] at hm
    case callL => rw [(evOp_lone h).1]; exact .refl _
    simp only [evOp] at h
    split at h
    · split at h
      · split at h
        · rename_i H2 h2
          split at h
          · rename_i hl
            simp only [Option.some.injEq, Prod.mk.injEq] at h
            obtain ⟨_, rfl⟩ := h
            have := hc _ _ _ _ _ h2
            exact ⟨this.nx, Nat.le_refl _, fun id h1 _ => this.same id h1 (by rw [hl]; exact h1)⟩
          · simp at h
        · simp at h
      · exact hc _ _ _ _ _ h
    · simp at h
theorem evOp_grow (hc : CallExt call) {m : MI} (hm : m.cls = .grow) {f : Fr} {H H1 : AH} {v : Value} (h : evOp call m f H = some (v, H1)) : Same H H1 := by
  cases hi : m.isCall with
  | false => rw [evOp_evM hi] at h; exact evM_grow hm h
  | true =>
    cases m <;> simp only [MI.isCall, Bool.false_eq_true] at hi
    case callL => simp [MI.cls] at hm
    simp only [MI.cls] at hm
    split at hm
    · rename_i hp
      simp only [evOp, hp, if_true] at h
      split at h
      · split at h
        · rename_i H2 h2
          split at h
          · rename_i hl
            simp only [Option.some.injEq, Prod.mk.injEq] at h
            obtain ⟨_, rfl⟩ := h
            have := hc _ _ _ _ _ h2
            exact ⟨this.nx, rfl, fun id h1 => this.same id h1 (by rw [hl]; exact h1)⟩
          · simp at h
        · simp at h
      · simp at h
    · simp at hm
theorem evG_evOp {o : MOp} {f : Fr} {H H1 : AH} {v : Value} (h : evG call bs o f H = some (v, H1)) : evOp call o.op f H = some (v, H1) := by
  unfold evG at h
  split at h
  · split at h
    · exact h
    · simp at h
  · exact h
theorem evV_ext (hc : CallExt call) {o : MOp} {f : Fr} {H H1 : AH} {v : Value} (h : evV call bs o f H = some (v, H1)) : Ext H H1 := by
  unfold evV at h
  split at h
  · exact evOp_ext hc (evG_evOp h)
  · split at h
    · split at h
      · exact evOp_ext hc (evG_evOp h)
      · simp only [Option.some.injEq, Prod.mk.injEq] at h; obtain ⟨_, rfl⟩ := h; exact .refl _
    · simp only [Option.some.injEq, Prod.mk.injEq] at h; obtain ⟨_, rfl⟩ := h; exact .refl _
    · simp at h
theorem cls_isCall {m : MI} (h : m.cls = .read) : m.isCall = false := by
  cases m <;> first | rfl | (simp only [MI.cls] at h; split at h <;> simp at h) | simp [MI.cls] at h
theorem evV_pure {o : MOp} (ho : o.op.cls = .pure) {f : Fr} {H H1 : AH} {v : Value} (h : evV call bs o f H = some (v, H1)) : H1 = H ∧ ∀ H', evV call bs o f H' = some (v, H') := by
  have hG : ∀ {H H1 : AH} {v : Value}, evG call bs o f H = some (v, H1) → H1 = H ∧ ∀ H', evG call bs o f H' = some (v, H') := fun h => by
    have h2 := evG_evOp h
    obtain ⟨e1, e2⟩ := evOp_pure ho h2
    refine ⟨e1, fun H' => ?_⟩
    unfold evG at h ⊢
    split at h
    · rename_i h3
      rw [if_pos h3]
      split at h
      · rename_i h4; rw [if_pos h4]; exact e2 H'
      · simp at h
    · rename_i h3; rw [if_neg h3]; exact e2 H'
  unfold evV at h ⊢
  split at h
  · exact hG h
  · split at h
    · split at h
      · rename_i h4; simp only [h4, if_true]; exact hG h
      · rename_i h4
        simp only [Option.some.injEq, Prod.mk.injEq] at h; obtain ⟨rfl, rfl⟩ := h
        simp [h4]
    · simp only [Option.some.injEq, Prod.mk.injEq] at h; obtain ⟨rfl, rfl⟩ := h
      simp
    · simp at h
theorem fst_some {α β : Type} {x : Option (α × β)} {a : α} (h : x.map (·.1) = some a) : ∃ b, x = some (a, b) := by
  cases x with
  | none => simp at h
  | some p => obtain ⟨a', b⟩ := p; simp at h; exact ⟨b, by rw [h]⟩
theorem evM_read_at {m : MI} (hm : m.cls = .read) {f : Fr} {H H' H1 : AH} {v : Value} (h : evM m f H = some (v, H1)) (hl : ∀ b ∈ m.rdBlk f, b < H'.next) (hg : ∀ b ∈ m.rdBlk f, ∀ j, j ≤ b → H'.get j = H.get j) : evM m f H' = some (v, H') := by
  have := evM_read_cong hm (fun b hb => ⟨(evM_read hm h).2 b hb, hl b hb⟩) hg
  rw [h] at this
  obtain ⟨H2, h2⟩ := fst_some this
  rw [h2, (evM_read hm h2).1]
theorem evV_read {o : MOp} (ho : o.op.cls = .read) {f : Fr} {H H1 : AH} {v : Value} (h : evV call bs o f H = some (v, H1)) : H1 = H ∧ (∀ H', Same H H' → evV call bs o f H' = some (v, H')) ∧ (o.old = true → ∀ H', Same H' H → bs ≤ H'.next → evV call bs o f H' = some (v, H')) := by
  have hG : ∀ {H H1 : AH} {v : Value}, evG call bs o f H = some (v, H1) → H1 = H ∧ (∀ H', Same H H' → evG call bs o f H' = some (v, H')) ∧ (o.old = true → ∀ H', Same H' H → bs ≤ H'.next → evG call bs o f H' = some (v, H')) := fun {H H1 v} h => by
    have h2 := evG_evOp h
    rw [evOp_evM (cls_isCall ho)] at h2
    obtain ⟨e1, e2⟩ := evM_read ho h2
    have fwd : ∀ H', Same H H' → evOp call o.op f H' = some (v, H') := fun H' hs => by
      rw [evOp_evM (cls_isCall ho)]
      exact evM_read_at ho h2 (fun b hb => Nat.lt_of_lt_of_le (e2 b hb) hs.nx) fun b hb j hj => hs.same j (Nat.lt_of_le_of_lt hj (e2 b hb))
    refine ⟨e1, fun H' hs => ?_, fun hold H' hs hb => ?_⟩
    · unfold evG at h ⊢
      split at h
      · rename_i h3
        rw [if_pos h3]
        split at h
        · rename_i h4; rw [if_pos h4]; exact fwd H' hs
        · simp at h
      · rename_i h3; rw [if_neg h3]; exact fwd H' hs
    · unfold evG at h ⊢
      rw [if_pos hold] at h ⊢
      split at h
      · rename_i h4
        rw [if_pos h4, evOp_evM (cls_isCall ho)]
        have hall : ∀ b ∈ o.op.rdBlk f, b < H'.next := fun b hb' => by
          have := List.all_eq_true.1 h4 b hb'
          simp only [decide_eq_true_eq] at this
          omega
        refine evM_read_at ho h2 hall fun b hb' j hj => (hs.same j ?_).symm
        have := hall b hb'
        omega
      · simp at h
  unfold evV at h ⊢
  split at h
  · exact hG h
  · split at h
    · split at h
      · rename_i h4; simp only [h4, if_true]; exact hG h
      · rename_i h4
        simp only [Option.some.injEq, Prod.mk.injEq] at h; obtain ⟨rfl, rfl⟩ := h
        simp [h4]
    · simp only [Option.some.injEq, Prod.mk.injEq] at h; obtain ⟨rfl, rfl⟩ := h
      simp
    · simp at h
theorem evV_grow (hc : CallExt call) {o : MOp} (ho : o.op.cls = .grow) {f : Fr} {H H1 : AH} {v : Value} (h : evV call bs o f H = some (v, H1)) : Same H H1 := by
  unfold evV at h
  split at h
  · exact evOp_grow hc ho (evG_evOp h)
  · split at h
    · split at h
      · exact evOp_grow hc ho (evG_evOp h)
      · simp only [Option.some.injEq, Prod.mk.injEq] at h; obtain ⟨_, rfl⟩ := h; exact .refl _
    · simp only [Option.some.injEq, Prod.mk.injEq] at h; obtain ⟨_, rfl⟩ := h; exact .refl _
    · simp at h
theorem ldc_get {H H' : AH} {a : Addr} {n : Nat} (h : H'.get a.block = H.get a.block) : ldc H' a n = ldc H a n := by unfold ldc; rw [h]
theorem evV_load_at {o : MOp} {ag : Bool} {n : Nat} {t : Tmp} (ho : o.op = .load ag n (.tmp t)) {f : Fr} {H H' H1 : AH} {v : Value} (h : evV call bs o f H = some (v, H1)) (hg : ∀ p, f t = .pointer (some p) → H'.get p.block = H.get p.block) : H1 = H ∧ evV call bs o f H' = some (v, H') := by
  have hE : ∀ {v : Value} {H1 : AH}, evM (.load ag n (.tmp t)) f H = some (v, H1) → H1 = H ∧ evM (.load ag n (.tmp t)) f H' = some (v, H') := fun {v H1} h => by
    simp only [evM, ev] at h ⊢
    cases hp : f t with
    | pointer a =>
      cases a with
      | none => rw [hp] at h; simp at h
      | some p =>
        rw [hp] at h
        simp only at h ⊢
        rw [ldc_get (hg p hp)]
        split at h
        · split at h
          · simp only [Option.some.injEq, Prod.mk.injEq] at h; exact ⟨h.2.symm, by rw [h.1]⟩
          · simp at h
        · simp at h
    | _ => rw [hp] at h; simp at h
  have hG : ∀ {v : Value} {H1 : AH}, evG call bs o f H = some (v, H1) → H1 = H ∧ evG call bs o f H' = some (v, H') := fun {v H1} h => by
    unfold evG at h ⊢
    have e : ∀ X, evOp call o.op f X = evM (.load ag n (.tmp t)) f X := fun X => by rw [ho]; rfl
    simp only [e] at h ⊢
    split at h
    · rename_i h3
      rw [if_pos h3]
      split at h
      · rename_i h4; rw [if_pos h4]; exact hE h
      · simp at h
    · rename_i h3; rw [if_neg h3]; exact hE h
  unfold evV at h ⊢
  split at h
  · exact hG h
  · split at h
    · split at h
      · rename_i h4; simp only [h4, if_true]; exact hG h
      · rename_i h4
        simp only [Option.some.injEq, Prod.mk.injEq] at h; obtain ⟨rfl, rfl⟩ := h
        simp [h4]
    · simp only [Option.some.injEq, Prod.mk.injEq] at h; obtain ⟨rfl, rfl⟩ := h
      simp
    · simp at h
/-- What a store into another block leaves alone. -/
theorem evV_far {o : MOp} {n : Nat} {a x : Operand} {far : List Tmp} (ho : o.op = .storeX n a x far) {f : Fr} {H H1 : AH} {v : Value} (h : evV call bs o f H = some (v, H1)) {t : Tmp} (ht : t ∈ far) (p : Addr) (hp : f t = .pointer (some p)) : H1.get p.block = H.get p.block := by
  have hE : ∀ {v : Value} {H1 : AH}, evM (.storeX n a x far) f H = some (v, H1) → H1.get p.block = H.get p.block := fun {v H1} h => by
    simp only [evM] at h
    split at h
    · split at h
      · rename_i q hq hfar
        have h5 := List.all_eq_true.1 hfar t ht
        rw [hp] at h5
        simp only [decide_eq_true_eq] at h5
        split at h
        · split at h
          · rename_i h1
            simp only [Option.some.injEq, Prod.mk.injEq] at h
            obtain ⟨_, rfl⟩ := h
            unfold stc at h1
            split at h1
            · unfold stU at h1
              split at h1
              · split at h1
                · obtain rfl := Option.some.inj h1; exact AH.get_set_ne _ _ h5
                · simp at h1
              · simp at h1
            · simp at h1
          · simp at h
        · simp at h
      · simp at h
    · simp at h
  have hG : ∀ {v : Value} {H1 : AH}, evG call bs o f H = some (v, H1) → H1.get p.block = H.get p.block := fun {v H1} h => by
    unfold evG at h
    have e : ∀ X, evOp call o.op f X = evM (.storeX n a x far) f X := fun X => by rw [ho]; rfl
    simp only [e] at h
    split at h
    · split at h
      · exact hE h
      · simp at h
    · exact hE h
  unfold evV at h
  split at h
  · exact hG h
  · split at h
    · split at h
      · exact hG h
      · simp only [Option.some.injEq, Prod.mk.injEq] at h; obtain ⟨_, rfl⟩ := h; rfl
    · simp only [Option.some.injEq, Prod.mk.injEq] at h; obtain ⟨_, rfl⟩ := h; rfl
    · simp at h
/-- A store looks at its own block alone: it can be done ahead of what reads another one. -/
theorem farOk_spec {x y : MI} (h : farOk x y = true) : ∃ n a z far ag k t, x = .storeX n a z far ∧ y = .load ag k (.tmp t) ∧ t ∈ far := by
  unfold farOk at h
  split at h
  · exact ⟨_, _, _, _, _, _, _, rfl, rfl, by simpa using h⟩
  · simp at h
theorem evV_swap (hc : CallExt call) {x y : MOp} (hk : clsOk x y = true) {f : Fr} {H H1 H2 : AH} {v u : Value} (hb : bs ≤ H.next)
    (h1 : evV call bs x f H = some (v, H1)) (h2 : evV call bs y f H1 = some (u, H2)) : ∃ H', evV call bs y f H = some (u, H') ∧ evV call bs x f H' = some (v, H2) := by
  cases hx : x.op.cls with
  | pure =>
    obtain ⟨e1, e2⟩ := evV_pure hx h1
    rw [e1] at h2
    exact ⟨H2, h2, e2 H2⟩
  | read =>
    obtain ⟨e1, e2, e3⟩ := evV_read hx h1
    rw [e1] at h2
    cases hy : y.op.cls with
    | pure => obtain ⟨f1, f2⟩ := evV_pure hy h2; exact ⟨_, h2, by rw [f1]; exact e2 _ (.refl _)⟩
    | read => obtain ⟨f1, f2, f3⟩ := evV_read hy h2; exact ⟨_, h2, by rw [f1]; exact e2 _ (.refl _)⟩
    | grow => exact ⟨_, h2, e2 _ (evV_grow hc hy h2)⟩
    | write =>
      simp only [clsOk, hx, hy] at hk
      obtain ⟨n, a, z, far, ag, k, t, ey, ex, ht⟩ := farOk_spec hk
      exact ⟨_, h2, (evV_load_at ex h1 fun p hp => evV_far ey h2 ht p hp).2⟩
  | grow =>
    have hs := evV_grow hc hx h1
    cases hy : y.op.cls with
    | pure => obtain ⟨f1, f2⟩ := evV_pure hy h2; exact ⟨_, f2 H, by rw [f1]; exact h1⟩
    | read =>
      obtain ⟨f1, f2, f3⟩ := evV_read hy h2
      simp only [clsOk, hx, hy] at hk
      exact ⟨_, f3 hk H hs hb, by rw [f1]; exact h1⟩
    | grow => simp [clsOk, hx, hy] at hk
    | write => simp [clsOk, hx, hy] at hk
  | write =>
    cases hy : y.op.cls with
    | pure => obtain ⟨f1, f2⟩ := evV_pure hy h2; exact ⟨_, f2 H, by rw [f1]; exact h1⟩
    | read =>
      simp only [clsOk, hx, hy] at hk
      obtain ⟨n, a, z, far, ag, k, t, ex, ey, ht⟩ := farOk_spec hk
      obtain ⟨f1, f2⟩ := evV_load_at ey h2 (H' := H) fun p hp => (evV_far ex h1 ht p hp).symm
      exact ⟨H, f2, by rw [f1]; exact h1⟩
    | _ => simp [clsOk, hx, hy] at hk
theorem evMOp_swap (hc : CallExt call) {x y : MOp} (ha : x.apart y = true) (hk : clsOk x y = true) {f f1 f2 : Fr} {H H1 H2 : AH} (hb : bs ≤ H.next)
    (h1 : evMOp call bs x f H = some (f1, H1)) (h2 : evMOp call bs y f1 H1 = some (f2, H2)) : ∃ f' H', evMOp call bs y f H = some (f', H') ∧ evMOp call bs x f' H' = some (f2, H2) := by
  obtain ⟨a1, a2, a3⟩ := apart_spec ha
  unfold evMOp at h1 h2
  split at h1
  · rename_i v K1 hv
    simp only [Option.some.injEq, Prod.mk.injEq] at h1
    obtain ⟨rfl, rfl⟩ := h1
    split at h2
    · rename_i u K2 hu
      simp only [Option.some.injEq, Prod.mk.injEq] at h2
      obtain ⟨rfl, rfl⟩ := h2
      rw [evV_cong (g := f) (fun t ht => put_ne fun e => a1 t e ht)] at hu
      obtain ⟨H', k1, k2⟩ := evV_swap hc hk hb hv hu
      refine ⟨put f y.dst u, H', by simp only [evMOp, k1], ?_⟩
      simp only [evMOp]
      rw [evV_cong (g := f) (fun t ht => put_ne fun e => a3 t e ht), k2]
      simp only [Option.some.injEq, Prod.mk.injEq, and_true]
      exact (put_comm a2).symm
    · simp at h2
  · simp at h1
theorem evMOp_ext (hc : CallExt call) {o : MOp} {f f1 : Fr} {H H1 : AH} (h : evMOp call bs o f H = some (f1, H1)) : Ext H H1 := by
  unfold evMOp at h
  split at h
  · rename_i hv
    simp only [Option.some.injEq, Prod.mk.injEq] at h
    obtain ⟨_, rfl⟩ := h
    exact evV_ext hc hv
  · simp at h
def pairOk (x y : MOp) : Bool := x.apart y && clsOk x y
theorem evOps_bubble (hc : CallExt call) {y : MOp} {post : List MOp} {r : Fr × AH} : ∀ (pre : List MOp) (f : Fr) (H : AH), (∀ x ∈ pre, pairOk x y = true) → bs ≤ H.next → evOps call bs (pre ++ y :: post) f H = some r →
    ∃ f1 H1, evMOp call bs y f H = some (f1, H1) ∧ evOps call bs (pre ++ post) f1 H1 = some r := by
  intro pre
  induction pre with
  | nil =>
    intro f H _ hb h
    simp only [List.nil_append, evOps] at h
    split at h
    · rename_i f' H' h'; exact ⟨f', H', h', h⟩
    · simp at h
  | cons x pre ih =>
    intro f H hp hb h
    simp only [List.cons_append, evOps] at h
    split at h
    · rename_i f' H' h'
      obtain ⟨f1, H1, k1, k2⟩ := ih f' H' (fun z hz => hp z (List.mem_cons_of_mem _ hz)) (Nat.le_trans hb (evMOp_ext hc h').nx) h
      have := hp x (List.mem_cons_self ..)
      simp only [pairOk, Bool.and_eq_true] at this
      obtain ⟨g, K, j1, j2⟩ := evMOp_swap hc this.1 this.2 hb h' k1
      exact ⟨g, K, j1, by simp only [List.cons_append, evOps, j2, k2]⟩
    · simp at h
theorem evOps_ext (hc : CallExt call) : ∀ (l : List MOp) {f f1 : Fr} {H H1 : AH}, evOps call bs l f H = some (f1, H1) → Ext H H1 := by
  intro l
  induction l with
  | nil => intro f f1 H H1 h; simp only [evOps, Option.some.injEq, Prod.mk.injEq] at h; obtain ⟨_, rfl⟩ := h; exact .refl _
  | cons o l ih =>
    intro f f1 H H1 h
    simp only [evOps] at h
    split at h
    · rename_i h'; exact (evMOp_ext hc h').trans (ih h)
    · simp at h
theorem iter_ext {b : Fr → AH → Option (Ex × Fr × AH)} (hb : ∀ f H e f' H', b f H = some (e, f', H') → Ext H H') : ∀ (n : Nat) {f : Fr} {H : AH} {e : Ex} {f' : Fr} {H' : AH}, iter b n f H = some (e, f', H') → Ext H H' := by
  intro n
  induction n with
  | zero => intro f H e f' H' h; simp [iter] at h
  | succ n ih =>
    intro f H e f' H' h
    simp only [iter] at h
    split at h
    · rename_i f1 H1 h1; exact (hb _ _ _ _ _ h1).trans (ih h)
    · exact hb _ _ _ _ _ h
theorem evC_ext (hc : CallExt call) {k : Nat} : ∀ (m : MCode) {f : Fr} {H : AH} {e : Ex} {f' : Fr} {H' : AH}, evC call k m f H = some (e, f', H') → Ext H H' := by
  intro m
  induction m with
  | skip => intro f H e f' H' h; simp only [evC, Option.some.injEq, Prod.mk.injEq] at h; obtain ⟨_, _, rfl⟩ := h; exact .refl _
  | ops l =>
    intro f H e f' H' h
    simp only [evC] at h
    split at h
    · rename_i h1; simp only [Option.some.injEq, Prod.mk.injEq] at h; obtain ⟨_, _, rfl⟩ := h; exact evOps_ext hc _ h1
    · simp at h
  | opsD l =>
    intro f H e f' H' h
    simp only [evC] at h
    split at h
    · rename_i h1; simp only [Option.some.injEq, Prod.mk.injEq] at h; obtain ⟨_, _, rfl⟩ := h; exact evOps_ext hc _ h1
    · simp at h
  | seq a b iha ihb =>
    intro f H e f' H' h
    simp only [evC] at h
    split at h
    · rename_i h1; exact (iha h1).trans (ihb h)
    · exact iha h
  | cond c a b iha ihb =>
    intro f H e f' H' h
    simp only [evC] at h
    split at h
    · split at h
      · exact iha h
      · exact ihb h
    · simp at h
  | block id a ih =>
    intro f H e f' H' h
    simp only [evC] at h
    split at h
    · rename_i h1
      split at h <;> (simp only [Option.some.injEq, Prod.mk.injEq] at h; obtain ⟨_, _, rfl⟩ := h; exact ih h1)
    · exact ih h
  | loop a ih => intro f H e f' H' h; exact iter_ext (fun _ _ _ _ _ => ih) _ h
  | exit id => intro f H e f' H' h; simp only [evC, Option.some.injEq, Prod.mk.injEq] at h; obtain ⟨_, _, rfl⟩ := h; exact .refl _
  | ret => intro f H e f' H' h; simp only [evC, Option.some.injEq, Prod.mk.injEq] at h; obtain ⟨_, _, rfl⟩ := h; exact .refl _
end
theorem blks_ext {H : AH} {bs : List (Option Blk)} : Ext H { H with blks := H.blks ++ bs } := by
  refine ⟨by simp [AH.next], Nat.le_refl _, fun id h _ => ?_⟩
  simp only [AH.get, AH.next] at *
  rw [List.getElem?_append_left h]
theorem back_ext {H H1 : AH} {v : Value} (h : Ext H.enter H1) : Ext H (back H H1 v).2 := by
  have h1 : H.next ≤ H1.next := h.nx
  have h2 : H1.low ≤ H.next := h.low
  have h3 : ∀ id, id < H.next → id < H1.low → H1.get id = H.get id := h.same
  have keep : ¬ H1.low < H.next → Ext H { H1 with low := H.low } := fun hn => ⟨h1, Nat.le_refl _, fun id a _ => h3 id a (by omega)⟩
  unfold back
  split
  · rename_i hl
    exact ⟨h1, Nat.min_le_left _ _, fun id a b => h3 id a (by simp only at b; omega)⟩
  · rename_i hl
    split
    · exact .refl _
    · split
      · split
        · split
          · split
            · exact blks_ext
            · exact keep hl
          · exact keep hl
        · exact keep hl
      · split
        · exact blks_ext
        · exact keep hl
def NatExt (g : CallH → List Value → AH → Option (Value × AH)) : Prop := ∀ call, CallExt call → ∀ vs H v H', g call vs H = some (v, H') → Ext H H'
theorem evF_ext (tbl : Tbl) (hn : ∀ n g, tbl n = some (.nat g) → NatExt g) : ∀ k, CallExt (evF tbl k) := by
  intro k
  induction k with
  | zero => intro n vs H v H' h; simp [evF] at h
  | succ k ih =>
    intro n vs H v H' h
    simp only [evF] at h
    split at h
    · simp at h
    · rename_i g hg; exact hn _ _ hg _ ih _ _ _ _ h
    · split at h
      · rename_i h1
        split at h
        · simp only [Option.some.injEq] at h
          have h' : (back _ _ _).2 = H' := congrArg Prod.snd h
          rw [← h']
          exact back_ext (evC_ext ih _ h1)
        · simp at h
      · rename_i h1
        split at h
        · simp only [Option.some.injEq] at h
          have h' : (back _ _ _).2 = H' := congrArg Prod.snd h
          rw [← h']
          exact back_ext (evC_ext ih _ h1)
        · simp at h
      · simp at h
end Go.Proofs.Ytildhljhbbhmmaa.AM
