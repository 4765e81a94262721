/- Part 1 of the texts that this claim needs. No conditions. -/
import Derived.Calls
import Derived.Laws.BitsLemmas
import Derived.Below
import Derived.Laws.Sem
import Derived.Laws.Cells
import Derived.Laws.World
import Derived.Laws.Strings
import Derived.Lib.Strings
import Derived.Laws.Rows
import Derived.Laws.MakeOwn
import Derived.Deep.AppendSrc
import Derived.Deep.Upon
import Derived.Lib.AppendZeros
/- The abstract machine: a plain evaluator of compiled Go code on an abstract heap. No program in sight. -/
namespace Go.Proofs.Ytidpkoaomfbljaa.AM
open Go
set_option linter.all false

/-- A block of the abstract heap: its cells, how many cells an element of a slice of it has, and whether it is only read. -/
structure Blk where
  cells : List Value
  es : Nat
  ro : Bool

/-- The abstract heap. low: no block below it was touched. -/
structure AH where
  blks : List (Option Blk)
  low : Nat

namespace AH
def next (H : AH) : Nat := H.blks.length
def get (H : AH) (id : Nat) : Option Blk := (H.blks[id]?).join
def push (H : AH) (b : Blk) : AH := { H with blks := H.blks ++ [some b] }
def set (H : AH) (id : Nat) (b : Option Blk) : AH := { blks := H.blks.set id b, low := min H.low id }
/-- The heap at the head of a call. -/
def enter (H : AH) : AH := { H with low := H.next }
end AH

abbrev Fr := Nat → Value
def upd (f : Fr) (d : Nat) (v : Value) : Fr := fun t => if t = d then v else f t
def ev (f : Fr) : Operand → Value
  | .tmp t => f t
  | .const v => v
  | .global g => .pointer (some ⟨g, 0, none⟩)
  | .func g => .func (.func g) #[] #[]

/-- Values that hold no address: in one cell; in a row of cells; several of them. -/
def p1 : Value → Bool
  | .bool _ | .int _ _ | .float _ _ | .complex _ _ _ | .string _ | .nilFunc | .nilIface => true
  | .pointer none => true
  | .slice none _ _ => true
  | .map none => true
  | .chan none => true
  | .func _ a b => a.isEmpty && b.isEmpty
  | _ => false
def p2 : Value → Bool
  | .agg cs => cs.toList.all p1
  | v => p1 v
def p3 : Value → Bool
  | .tuple vs => vs.toList.all p2
  | v => p2 v
/-- What may lie in one cell. -/
def one : Value → Bool
  | .agg _ | .tuple _ => false
  | _ => true

/-- What two operands are. -/
inductive TK where
  | int | bool | str | ptr | slc | fnc | ifc
/-- Compiled operations. -/
inductive MI where
  | mov (x : Operand)
  | pick (c a b : Operand)
  | bin (tk : TK) (op : BinOp) (x y : Operand)
  | eqc (neq : Bool) (offs : List (Nat × TK)) (x y : Operand)
  | un (op : UnOp) (x : Operand)
  | conv (k : IntKind) (x : Operand)
  | strMov (x : Operand)
  | toStr (x : Operand)
  | toBytes (x : Operand)
  | alloc (zero : List Value) (es : Nat)
  | box (es : Nat) (x : Operand)
  | build (zero : List Value) (parts : List (Nat × Nat × Operand))
  | buildSlice (zero : List Value) (es len : Nat) (parts : List (Nat × Nat × Operand))
  | load (agg : Bool) (n : Nat) (a : Operand)
  | store (n : Nat) (a x : Operand)
  | storeX (n : Nat) (a x : Operand) (far : List Tmp)     -- a store into another block than these addresses'
  | nilCheck (x : Operand)
  | addOff (off : Nat) (x : Operand)
  | idxS (es : Nat) (x i : Operand)
  | idxA (len es : Nat) (x i : Operand)
  | field (agg : Bool) (off n : Nat) (x : Operand)
  | strIdx (x i : Operand)
  | arrIdx (agg : Bool) (len es : Nat) (x i : Operand)
  | sliceStr (x : Operand) (lo hi : Option Operand)
  | sliceS (es : Nat) (x : Operand) (lo hi : Option Operand)
  | sliceA (len es : Nat) (x : Operand) (lo hi : Option Operand)
  | toArr (n : Nat) (x : Operand)
  | mkIface (t : TypeId) (x : Operand)
  | mkFunc (fn : Fn) (first captured : List Operand)
  | mkSlice (zero : List Value) (es bytes : Nat) (l c : Operand)
  | extract (x : Operand) (i : Nat)
  | call (pure_ : Bool) (f : Operand) (args : List Operand)
  | append (es bytes : Nat) (s x : Operand)
  | appendZ (zero : List Value) (es bytes : Nat) (s x : Operand)
  | copy (es : Nat) (d s : Operand)
  | len (x : Operand)
  | lenStr (x : Operand)
  | lenC (n : Nat)
  | cap (x : Operand)
  | min (x : Operand) (xs : List Operand)
  | max (x : Operand) (xs : List Operand)
  | uString (x n : Operand)
  | uData (x : Operand)
  | mkMap
  | newMap     -- a map, which nobody reads
  | boxDead (x : Operand)     -- a new variable, which nobody reads
  | callL (f : Operand) (args : List Operand)     -- a call that looks at no block

structure MOp where
  dst : Option Tmp
  guard : Option (Tmp × Bool)
  old : Bool     -- it may only read blocks that are older than its region
  op : MI

inductive MCode where
  | skip
  | ops (l : List MOp)
  | opsD (l : List MOp)     -- a region of open order
  | seq (a b : MCode)
  | cond (c : Operand) (a b : MCode)
  | block (id : Nat) (a : MCode)
  | loop (a : MCode)
  | exit (id : Nat)
  | ret

inductive Ex where
  | normal
  | exit (id : Nat)
  | ret

/-! ### What the operations compute -/
def bitsK (op : BinOp) (k : IntKind) (x y : Int) : Int :=
  match op with
  | .and => k.wrap (BitVec.ofInt k.bits x &&& BitVec.ofInt k.bits y).toNat
  | .or => k.wrap (BitVec.ofInt k.bits x ||| BitVec.ofInt k.bits y).toNat
  | .xor => k.wrap (BitVec.ofInt k.bits x ^^^ BitVec.ofInt k.bits y).toNat
  | _ => k.wrap (BitVec.ofInt k.bits x &&& ~~~(BitVec.ofInt k.bits y)).toNat
def shiftK (op : BinOp) (k : IntKind) (x y : Int) : Int :=
  match op with
  | .shl => k.wrap (x * 2 ^ (Nat.min y.toNat k.bits))
  | _ => x.fdiv (2 ^ (Nat.min y.toNat k.bits))
/-- A comparison with nil. -/
def eqNil (a b : Option Addr) : Option Bool :=
  match a, b with
  | none, b => some b.isNone
  | some _, none => some false
  | _, _ => none
def eqOp (op : BinOp) (t : Option Bool) : Option Value :=
  match op, t with
  | .eql, some b => some (.bool b)
  | .neq, some b => some (.bool (!b))
  | _, _ => none
def strBin (op : BinOp) (a b : ByteArray) : Option Value :=
  match op with
  | .add => if a.size + b.size ≤ 9223372036854775807 then some (.string (a ++ b)) else none
  | .eql => some (.bool (decide (a = b)))
  | .neq => some (.bool (!decide (a = b)))
  | _ => none
def intBin (op : BinOp) (k : IntKind) (a b : Int) : Option Value :=
  match op with
  | .add => some (.int k (k.wrap (a + b)))
  | .sub => some (.int k (k.wrap (a - b)))
  | .mul => some (.int k (k.wrap (a * b)))
  | .quo => if b = 0 then none else some (.int k (k.wrap (a.tdiv b)))
  | .rem => if b = 0 then none else some (.int k (a.tmod b))
  | .eql => some (.bool (decide (a = b)))
  | .neq => some (.bool (!decide (a = b)))
  | .lss => some (.bool (decide (a < b)))
  | .leq => some (.bool (decide (a ≤ b)))
  | .gtr => some (.bool (decide (b < a)))
  | .geq => some (.bool (decide (b ≤ a)))
  | .and => some (.int k (bitsK .and k a b))
  | .or => some (.int k (bitsK .or k a b))
  | .xor => some (.int k (bitsK .xor k a b))
  | .andNot => some (.int k (bitsK .andNot k a b))
  | _ => none
def shBin (op : BinOp) (k : IntKind) (a b : Int) : Option Value := if b < 0 then none else some (.int k (shiftK op k a b))
def binV (tk : TK) (op : BinOp) (x y : Value) : Option Value :=
  match tk, x, y with
  | .int, .int k a, .int k' b =>
    match op with
    | .shl => shBin .shl k a b
    | .shr => shBin .shr k a b
    | op => if k = k' then intBin op k a b else none
  | .bool, .bool a, .bool b => eqOp op (some (a == b))
  | .str, .string a, .string b => strBin op a b
  | .ptr, .pointer a, .pointer b => eqOp op (eqNil a b)
  | .slc, .slice a _ _, .slice b _ _ => eqOp op (eqNil a b)
  | .fnc, .nilFunc, .nilFunc => eqOp op (some true)
  | .fnc, .nilFunc, .func _ _ _ => eqOp op (some false)
  | .fnc, .func _ _ _, .nilFunc => eqOp op (some false)
  | .ifc, .nilIface, .iface _ _ => eqOp op (some false)
  | .ifc, .iface _ _, .nilIface => eqOp op (some false)
  | _, _, _ => none
def unV (op : UnOp) (x : Value) : Option Value :=
  match op, x with
  | .not, .bool b => some (.bool (!b))
  | .neg, .int k n => some (.int k (k.wrap (0 - n)))
  | .xor, .int k n => some (.int k (bitsK .xor k (if k.signed then -1 else k.max) n))
  | _, _ => none
/-- Two cells that can be compared are the same. -/
def cellEq : TK → Value → Value → Option Bool
  | .int, .int k a, .int k' b => if k = k' then some (decide (a = b)) else none
  | .bool, .bool a, .bool b => some (a == b)
  | .str, .string a, .string b => some (decide (a = b))
  | _, _, _ => none
def eqAt (a b : List Value) : List (Nat × TK) → Option Bool
  | [] => some true
  | (o, k) :: r => match a[o]?, b[o]? with
    | some x, some y => (match cellEq k x y, eqAt a b r with
      | some p, some q => some (p && q)
      | _, _ => none)
    | _, _ => none
def byteOf : Value → Option UInt8
  | .int .u8 n => some (UInt8.ofNat n.toNat)
  | _ => none
def bytesOf : List Value → Option (List UInt8)
  | [] => some []
  | v :: l => match byteOf v, bytesOf l with
    | some b, some bs => some (b :: bs)
    | _, _ => none
def byteCells (s : ByteArray) : List Value := s.data.toList.map fun b => .int .u8 b.toNat
def splice : List Value → Nat → List Value → List Value
  | l, _, [] => l
  | l, off, v :: vs => splice (l.set off v) (off + 1) vs
def fillC : List Value → List (Nat × Nat × Value) → Option (List Value)
  | cs, [] => some cs
  | cs, (off, n, v) :: r => if v.cells.size = n ∧ off + n ≤ cs.length then fillC (splice cs off v.cells.toList) r else none
def ldc (H : AH) (a : Addr) (n : Nat) : Option (List Value) :=
  match H.get a.block with
  | some b => if a.off + n ≤ b.cells.length then some ((b.cells.drop a.off).take n) else none
  | none => none
def stU (H : AH) (a : Addr) (vs : List Value) : Option AH :=
  match H.get a.block with
  | some b => if b.ro = false ∧ a.off + vs.length ≤ b.cells.length then some (H.set a.block (some { b with cells := splice b.cells a.off vs })) else none
  | none => none
def stc (H : AH) (a : Addr) (vs : List Value) : Option AH := if vs.all one = true then stU H a vs else none
def addA (a : Addr) (n : Nat) : Addr := ⟨a.block, a.off + n, none⟩
def asNat (v : Value) : Option Nat :=
  match v with
  | .int _ n => if 0 ≤ n then some n.toNat else none
  | _ => none
def bound (f : Fr) (x : Option Operand) (dflt : Nat) (most : Nat) : Option Nat :=
  match x with
  | none => some dflt
  | some o => match asNat (ev f o) with
    | some n => if n ≤ most then some n else none
    | none => none
def oneOf (agg : Bool) (cs : List Value) : Option Value :=
  if agg then some (.agg cs.toArray) else
  match cs with
  | [v] => some v
  | _ => none
def rep (n : Nat) : List Value → List Value
  | [z] => List.replicate n z
  | zs => (List.replicate n zs).flatten
/-- Of an empty slice nothing is read. -/
def orZ (n : Nat) (o : Option (Nat × List Value)) : Option (Nat × List Value) :=
  match o with
  | some x => some x
  | none => if n = 0 then some (0, []) else none
/-- What an append adds: its cells. -/
def added (H : AH) (es : Nat) (v : Value) : Option (Nat × List Value) :=
  match v with
  | .slice none n _ => if n = 0 then some (0, []) else none
  | .slice (some a) n _ => orZ n (match ldc H a (n * es) with | some l => some (n, l) | none => none)
  | .string s => if es = 1 then some (s.size, byteCells s) else none
  | _ => none
def lenV : Value → Option Nat
  | .slice _ n _ => some n
  | .string s => some s.size
  | _ => none
/-- The cells of the first n elements. -/
def firstV (H : AH) (es n : Nat) : Value → Option (List Value)
  | .slice (some a) m _ => if n ≤ m then ldc H a (n * es) else none
  | .string s => if es = 1 ∧ n ≤ s.size then some ((byteCells s).take n) else none
  | _ => none
/-- Behind an append of k elements, whose cells are new. -/
def appended (H : AH) (es bytes : Nat) (s : Value) (k : Nat) (new : List Value) : Option (Value × AH) :=
  match s with
  | .slice none n c =>
    if n = 0 ∧ c = 0 then
      if k = 0 then some (.slice none 0 0, H)
      else if k * bytes ≤ 140737488355328 then some (.slice (some ⟨H.next, 0, none⟩) k k, H.push ⟨new, es, false⟩) else none
    else none
  | .slice (some a) n c =>
    match H.get a.block with
    | none => none
    | some b =>
      if b.es = es ∧ b.ro = false then
        if n + k ≤ c then
          match stU H (addA a (n * es)) new with
          | some H' => some (.slice (some a) (n + k) c, H')
          | none => none
        else match ldc H a (n * es) with
          | some old => if (n + k) * bytes ≤ 140737488355328 then some (.slice (some ⟨H.next, 0, none⟩) (n + k) (n + k), (H.set a.block none).push ⟨old ++ new, es, false⟩) else none
          | none => none
      else if k = 0 ∧ n ≤ c then some (.slice (some a) n c, H) else none
  | _ => none
def minV : Value → Value → Option Value
  | .int k x, .int _ y => some (.int k (if y < x then y else x))
  | _, _ => none
def maxV : Value → Value → Option Value
  | .int k x, .int _ y => some (.int k (if x < y then y else x))
  | _, _ => none
def foldV (g : Value → Value → Option Value) : Value → List Value → Option Value
  | v, [] => some v
  | v, w :: l => match g v w with | some u => foldV g u l | none => none

/-- These addresses lead into other blocks than this one. -/
def farB (f : Fr) (far : List Tmp) (b : Nat) : Bool := far.all fun t => match f t with | .pointer (some q) => decide (q.block ≠ b) | _ => false
/-- An operation that is no call. -/
def evM (m : MI) (f : Fr) (H : AH) : Option (Value × AH) :=
  match m with
  | .mov x => some (ev f x, H)
  | .pick c a b => match ev f c with | .bool t => some (if t = true then ev f a else ev f b, H) | _ => none
  | .bin tk op x y => match binV tk op (ev f x) (ev f y) with | some v => some (v, H) | none => none
  | .eqc neq offs x y => match ev f x, ev f y with
    | .agg a, .agg b => (match eqAt a.toList b.toList offs with | some t => some (.bool (if neq = true then !t else t), H) | none => none)
    | _, _ => none
  | .un op x => match unV op (ev f x) with | some v => some (v, H) | none => none
  | .conv k x => match ev f x with | .int _ n => some (.int k (k.wrap n), H) | _ => none
  | .strMov x => match ev f x with | .string s => some (.string s, H) | _ => none
  | .toStr x => match ev f x with
    | .slice none _ _ => some (.string ⟨#[]⟩, H)
    | .slice (some a) n _ => (match ldc H a n with
      | some l => (match bytesOf l with | some bs => some (.string ⟨bs.toArray⟩, H) | none => none)
      | none => none)
    | _ => none
  | .toBytes x => match ev f x with
    | .string s => if s.size ≤ 140737488355328 then some (.slice (some ⟨H.next, 0, none⟩) s.size s.size, H.push ⟨byteCells s, 1, false⟩) else none
    | _ => none
  | .alloc zero es => some (.pointer (some ⟨H.next, 0, none⟩), H.push ⟨zero, es, false⟩)
  | .box es x => if (ev f x).cells.toList.all one = true then some (.pointer (some ⟨H.next, 0, none⟩), H.push ⟨(ev f x).cells.toList, es, false⟩) else none
  | .build zero parts => match fillC zero (parts.map fun p => (p.1, p.2.1, ev f p.2.2)) with | some cs => some (.agg cs.toArray, H) | none => none
  | .buildSlice zero es len parts => match fillC zero (parts.map fun p => (p.1, p.2.1, ev f p.2.2)) with
    | some cs => if cs.all one = true then some (.slice (some ⟨H.next, 0, none⟩) len len, H.push ⟨cs, es, false⟩) else none
    | none => none
  | .load agg n a => match ev f a with
    | .pointer (some p) => (match ldc H p n with | some cs => (match oneOf agg cs with | some v => some (v, H) | none => none) | none => none)
    | _ => none
  | .store n a x => match ev f a with
    | .pointer (some p) => if (ev f x).cells.size = n then (match stc H p (ev f x).cells.toList with | some H' => some (undef, H') | none => none) else none
    | _ => none
  | .storeX n a x far => match ev f a with
    | .pointer (some p) => if farB f far p.block = true then (if (ev f x).cells.size = n then (match stc H p (ev f x).cells.toList with | some H' => some (undef, H') | none => none) else none) else none
    | _ => none
  | .nilCheck x => match ev f x with
    | .pointer (some p) => some (.pointer (some p), H)
    | .func (.func g) a b => some (.func (.func g) a b, H)
    | _ => none
  | .addOff off x => match ev f x with
    | .pointer (some p) => some (.pointer (some (addA p off)), H)
    | _ => none
  | .idxS es x i => match ev f x, ev f i with
    | .slice (some a) n _, .int _ j => if 0 ≤ j ∧ j < n then some (.pointer (some (addA a (j.toNat * es))), H) else none
    | _, _ => none
  | .idxA len es x i => match ev f x, ev f i with
    | .pointer (some a), .int _ j => if 0 ≤ j ∧ j < len then some (.pointer (some (addA a (j.toNat * es))), H) else none
    | _, _ => none
  | .field agg off n x => match ev f x with
    | .agg cs => if off + n ≤ cs.size then (match oneOf agg ((cs.toList.drop off).take n) with | some v => some (v, H) | none => none) else none
    | _ => none
  | .strIdx x i => match ev f x, ev f i with
    | .string s, .int _ j => if 0 ≤ j ∧ j < s.size then some (.int .u8 (s.data.toList.getD j.toNat 0).toNat, H) else none
    | _, _ => none
  | .arrIdx agg len es x i => match ev f x, ev f i with
    | .agg cs, .int _ j => if 0 ≤ j ∧ j < len ∧ j.toNat * es + es ≤ cs.size then (match oneOf agg ((cs.toList.drop (j.toNat * es)).take es) with | some v => some (v, H) | none => none) else none
    | _, _ => none
  | .sliceStr x lo hi => match ev f x with
    | .string s => (match bound f hi s.size s.size with
      | some h => (match bound f lo 0 h with | some l => some (.string (s.extract l h), H) | none => none)
      | none => none)
    | _ => none
  | .sliceS es x lo hi => match ev f x with
    | .slice a n c => (match bound f hi n c with
      | some h => (match bound f lo 0 h with
        | some l => if h ≤ c then (match a with
          | none => some (.slice none (h - l) (c - l), H)
          | some p => (match H.get p.block with
            | some b => if b.es = es then
                if l = 0 then some (.slice (some p) h c, H)
                else if l < c then some (.slice (some (addA p (l * es))) (h - l) (c - l), H)
                else if H.get 0 = none then some (.slice (some ⟨0, 0, none⟩) 0 0, H) else none
              else none
            | none => none)) else none
        | none => none)
      | none => none)
    | _ => none
  | .sliceA len es x lo hi => match ev f x with
    | .pointer (some p) => (match bound f hi len len with
      | some h => (match bound f lo 0 h with
        | some l => (match H.get p.block with
          | some b => if b.es = es ∧ p.off + len * es ≤ b.cells.length then some (.slice (some (if len = l then p else addA p (l * es))) (h - l) (len - l), H) else none
          | none => none)
        | none => none)
      | none => none)
    | _ => none
  | .toArr n x => match ev f x with
    | .slice (some a) l _ => if n ≤ l then some (.pointer (some a), H) else none
    | _ => none
  | .mkIface t x => some (.iface t (ev f x), H)
  | .mkFunc fn first captured => some (.func fn (first.map (ev f)).toArray (captured.map (ev f)).toArray, H)
  | .mkSlice zero es bytes l c => match ev f l, ev f c with
    | .int _ n, .int _ m => if 0 ≤ n ∧ n ≤ m ∧ m.toNat * bytes ≤ 140737488355328 ∧ m ≤ 9223372036854775807 then some (.slice (some ⟨H.next, 0, none⟩) n.toNat m.toNat, H.push ⟨rep m.toNat zero, es, false⟩) else none
    | _, _ => none
  | .extract x i => match ev f x with
    | .tuple vs => (match vs[i]? with | some v => some (v, H) | none => none)
    | _ => none
  | .call _ _ _ => none
  | .callL _ _ => none
  | .append es bytes s x => match added H es (ev f x) with
    | some (k, new) => appended H es bytes (ev f s) k new
    | none => none
  | .appendZ zero es bytes s x => match ev f x with
    | .int _ n => if 0 ≤ n ∧ n ≤ 140737488355328 then appended H es bytes (ev f s) n.toNat (rep n.toNat zero) else none
    | _ => none
  | .copy es d s => match ev f d, lenV (ev f s) with
    | .slice (some a) n _, some k => (match firstV H es (Nat.min k n) (ev f s) with
      | some new => (match stU H a new with | some H' => some (.int .i64 (Nat.min k n), H') | none => none)
      | none => none)
    | _, _ => none
  | .len x => match ev f x with
    | .slice _ n _ => some (.int .i64 n, H)
    | _ => none
  | .lenStr x => match ev f x with
    | .string s => some (.int .i64 s.size, H)
    | _ => none
  | .lenC n => some (.int .i64 n, H)
  | .cap x => match ev f x with
    | .slice none _ c => some (.int .i64 c, H)
    | _ => none
  | .min x xs => match foldV minV (ev f x) (xs.map (ev f)) with | some v => some (v, H) | none => none
  | .max x xs => match foldV maxV (ev f x) (xs.map (ev f)) with | some v => some (v, H) | none => none
  | .uString x n => none
  | .uData x => none
  | .mkMap => none
  | .newMap => some (.map (some 0), H)
  | .boxDead _ => if 0 < H.next ∧ (H.get 0).isNone = true then some (.pointer (some ⟨0, 0, none⟩), H) else none

/-! ### Calls -/
def callee (f : Fr) (g : Operand) (args : List Operand) : Option (FuncId × List Value) :=
  match ev f g with
  | .func (.func n) first captured => some (n, first.toList ++ args.map (ev f) ++ captured.toList)
  | _ => none
/-- The blocks of a result are moved behind the old ones. -/
def moveV (H H1 : AH) (k : Nat) : Value → Option (Value × List (Option Blk))
  | .slice (some a) n c =>
    if a.block < H.next then some (.slice (some a) n c, []) else
    match H1.get a.block with
    | some b => if b.cells.all p1 = true then some (.slice (some ⟨k, a.off, none⟩) n c, [some b]) else none
    | none => none
  | .pointer (some a) =>
    if a.block < H.next then some (.pointer (some a), []) else
    match H1.get a.block with
    | some b => if b.cells.all p1 = true then some (.pointer (some ⟨k, a.off, none⟩), [some b]) else none
    | none => none
  | v => if p2 v = true then some (v, []) else none
def back (H H1 : AH) (v : Value) : Value × AH :=
  if H1.low < H.next then (v, { H1 with low := min H.low H1.low })
  else if p3 v = true then (v, H)
  else match v with
    | .tuple vs => (match vs.toList with
      | [x, y] => (match moveV H H1 H.next x with
        | some (x', bs) => if p2 y = true then (.tuple #[x', y], { H with blks := H.blks ++ bs }) else (v, { H1 with low := H.low })
        | none => (v, { H1 with low := H.low }))
      | _ => (v, { H1 with low := H.low }))
    | v => (match moveV H H1 H.next v with
      | some (v', bs) => (v', { H with blks := H.blks ++ bs })
      | none => (v, { H1 with low := H.low }))

/-- A heap with nothing in it. -/
def AH.lone : AH := ⟨[none], 1⟩
abbrev CallH := FuncId → List Value → AH → Option (Value × AH)
def evOp (call : CallH) (m : MI) (f : Fr) (H : AH) : Option (Value × AH) :=
  match m with
  | .call pu g args => (match callee f g args with
    | some (n, vs) =>
      if pu = true then (match call n vs H.enter with
        | some (v, H') => if H'.low = H.next then some (v, { H' with low := H.low }) else none
        | none => none)
      else call n vs H
    | none => none)
  | .callL g args => (match callee f g args with
    | some (n, vs) => if vs.all p1 = true then (match call n vs AH.lone with
        | some (v, _) => if p3 v = true then some (v, H) else none
        | none => none) else none
    | none => none)
  | m => evM m f H
def blkOf : Value → List Nat
  | .pointer (some a) => [a.block]
  | .slice (some a) _ _ => [a.block]
  | _ => []
/-- The blocks that an operation reads. -/
def MI.rdBlk (m : MI) (f : Fr) : List Nat :=
  match m with
  | .load _ _ a => blkOf (ev f a)
  | .toStr x => blkOf (ev f x)
  | .sliceS _ x _ _ => blkOf (ev f x)
  | .sliceA _ _ x _ _ => blkOf (ev f x)
  | .boxDead _ => [0]
  | _ => []
def put (f : Fr) (d : Option Tmp) (v : Value) : Fr :=
  match d with
  | some d => upd f d v
  | none => f
def evG (call : CallH) (bs : Nat) (o : MOp) (f : Fr) (H : AH) : Option (Value × AH) :=
  if o.old = true then (if (o.op.rdBlk f).all (fun b => decide (b < bs)) = true then evOp call o.op f H else none) else evOp call o.op f H
/-- One operation with its guard. -/
def evV (call : CallH) (bs : Nat) (o : MOp) (f : Fr) (H : AH) : Option (Value × AH) :=
  match o.guard with
  | none => evG call bs o f H
  | some (t, want) => match f t with
    | .bool b => if b = want then evG call bs o f H else some (undef, H)
    | .tuple _ => some (undef, H)
    | _ => none
def evMOp (call : CallH) (bs : Nat) (o : MOp) (f : Fr) (H : AH) : Option (Fr × AH) :=
  match evV call bs o f H with
  | some (v, H') => some (put f o.dst v, H')
  | none => none
def evOps (call : CallH) (bs : Nat) : List MOp → Fr → AH → Option (Fr × AH)
  | [], f, H => some (f, H)
  | o :: l, f, H => match evMOp call bs o f H with
    | some (f', H') => evOps call bs l f' H'
    | none => none

def iter (b : Fr → AH → Option (Ex × Fr × AH)) : Nat → Fr → AH → Option (Ex × Fr × AH)
  | 0, _, _ => none
  | n + 1, f, H => match b f H with
    | some (.normal, f', H') => iter b n f' H'
    | r => r
def evC (call : CallH) (k : Nat) : MCode → Fr → AH → Option (Ex × Fr × AH)
  | .skip, f, H => some (.normal, f, H)
  | .ops l, f, H => match evOps call H.next l f H with | some (f', H') => some (.normal, f', H') | none => none
  | .opsD l, f, H => match evOps call H.next l f H with | some (f', H') => some (.normal, f', H') | none => none
  | .seq a b, f, H => match evC call k a f H with
    | some (.normal, f', H') => evC call k b f' H'
    | r => r
  | .cond c a b, f, H => match ev f c with
    | .bool t => if t = true then evC call k a f H else evC call k b f H
    | _ => none
  | .block id a, f, H => match evC call k a f H with
    | some (.exit i, f', H') => if i = id then some (.normal, f', H') else some (.exit i, f', H')
    | r => r
  | .loop a, f, H => iter (evC call k a) k f H
  | .exit id, f, H => some (.exit id, f, H)
  | .ret, f, H => some (.ret, f, H)

inductive MRes where
  | tmp (t : Tmp)
  | cell (a : Tmp) (agg : Bool) (n : Nat)
structure MFun where
  code : MCode
  results : List MRes
def resV (f : Fr) (H : AH) : MRes → Option Value
  | .tmp t => some (f t)
  | .cell a agg n => match f a with
    | .pointer (some p) => (match ldc H p n with | some cs => oneOf agg cs | none => none)
    | _ => none
def resL (f : Fr) (H : AH) : List MRes → Option (List Value)
  | [] => some []
  | r :: l => match resV f H r, resL f H l with
    | some v, some vs => some (v :: vs)
    | _, _ => none
def tupV : List Value → Value
  | [v] => v
  | vs => .tuple vs.toArray
def entry (args : List Value) : Fr := fun t => args.getD t undef
/-- A function: compiled, or told. -/
inductive Ent where
  | code (m : MFun)
  | nat (g : CallH → List Value → AH → Option (Value × AH))
abbrev Tbl := FuncId → Option Ent
def evF (tbl : Tbl) : Nat → FuncId → List Value → AH → Option (Value × AH)
  | 0, _, _, _ => none
  | k + 1, g, args, H => match tbl g with
    | none => none
    | some (.nat h) => h (evF tbl k) args H
    | some (.code m) => match evC (evF tbl k) (k + 1) m.code (entry args) H.enter with
      | some (.normal, f', H') => (match resL f' H' m.results with | some vs => some (back H H' (tupV vs)) | none => none)
      | some (.ret, f', H') => (match resL f' H' m.results with | some vs => some (back H H' (tupV vs)) | none => none)
      | _ => none

end Go.Proofs.Ytidpkoaomfbljaa.AM
/- Compiled operations that are not ordered can be taken in either order. No program in sight. -/
namespace Go.Proofs.Ytidpkoaomfbljaa.AM
open Go
set_option linter.all false

/-- What lies below is kept. -/
structure Ext (H H' : AH) : Prop where
  nx : H.next ≤ H'.next
  low : H'.low ≤ H.low
  same : ∀ id, id < H.next → id < H'.low → H'.get id = H.get id
/-- All that was there is kept. -/
structure Same (H H' : AH) : Prop where
  nx : H.next ≤ H'.next
  low : H'.low = H.low
  same : ∀ id, id < H.next → H'.get id = H.get id
theorem Ext.refl (H : AH) : Ext H H := ⟨Nat.le_refl _, Nat.le_refl _, fun _ _ _ => rfl⟩
theorem Ext.trans {H H1 H2 : AH} (h : Ext H H1) (k : Ext H1 H2) : Ext H H2 :=
  ⟨Nat.le_trans h.nx k.nx, Nat.le_trans k.low h.low, fun id h1 h2 => by rw [k.same id (Nat.lt_of_lt_of_le h1 h.nx) h2, h.same id h1 (Nat.lt_of_lt_of_le h2 k.low)]⟩
theorem Same.refl (H : AH) : Same H H := ⟨Nat.le_refl _, rfl, fun _ _ => rfl⟩
theorem Same.ext {H H' : AH} (h : Same H H') : Ext H H' := ⟨h.nx, Nat.le_of_eq h.low, fun id h1 _ => h.same id h1⟩
theorem AH.next_push (H : AH) (b : Blk) : (H.push b).next = H.next + 1 := by simp [AH.push, AH.next]
theorem AH.get_push_lt (H : AH) (b : Blk) {id : Nat} (h : id < H.next) : (H.push b).get id = H.get id := by
  simp only [AH.push, AH.get, AH.next] at *
  rw [List.getElem?_append_left h]
theorem AH.get_push_eq (H : AH) (b : Blk) : (H.push b).get H.next = some b := by
  simp [AH.push, AH.get, AH.next]
theorem AH.get_lt {H : AH} {id : Nat} {b : Blk} (h : H.get id = some b) : id < H.next := by
  simp only [AH.get, AH.next] at *
  rcases Nat.lt_or_ge id H.blks.length with h' | h'
  · exact h'
  · rw [List.getElem?_eq_none h'] at h; simp at h
theorem AH.next_set (H : AH) (id : Nat) (b : Option Blk) : (H.set id b).next = H.next := by simp [AH.set, AH.next]
theorem AH.get_set_ne (H : AH) {id j : Nat} (b : Option Blk) (h : j ≠ id) : (H.set id b).get j = H.get j := by
  simp only [AH.set, AH.get]
  rw [List.getElem?_set_ne (Ne.symm h)]
theorem AH.get_set_eq (H : AH) {id : Nat} (b : Option Blk) (h : id < H.next) : (H.set id b).get id = b := by
  simp only [AH.set, AH.get, AH.next] at *
  rw [List.getElem?_set_self h]; rfl
theorem Same.push (H : AH) (b : Blk) : Same H (H.push b) := ⟨by rw [AH.next_push]; omega, rfl, fun _ h => H.get_push_lt b h⟩
theorem Ext.set (H : AH) (id : Nat) (b : Option Blk) : Ext H (H.set id b) :=
  ⟨by rw [AH.next_set]; exact Nat.le_refl _, by simp only [AH.set]; exact Nat.min_le_left _ _, fun j h1 h2 => H.get_set_ne b (by simp only [AH.set] at h2; omega)⟩
theorem stU_ext {H H' : AH} {a : Addr} {vs : List Value} (h : stU H a vs = some H') : Ext H H' := by
  unfold stU at h
  split at h
  · split at h
    · obtain rfl := Option.some.inj h; exact .set _ _ _
    · simp at h
  · simp at h
theorem stc_ext {H H' : AH} {a : Addr} {vs : List Value} (h : stc H a vs = some H') : Ext H H' := by
  unfold stc at h
  split at h
  · exact stU_ext h
  · simp at h
theorem ldc_lt {H : AH} {a : Addr} {n : Nat} {l : List Value} (h : ldc H a n = some l) : a.block < H.next := by
  unfold ldc at h
  split at h
  · rename_i b hb; exact AH.get_lt hb
  · simp at h
theorem appended_ext {H H' : AH} {es bytes k : Nat} {s v : Value} {new : List Value} (h : appended H es bytes s k new = some (v, H')) : Ext H H' := by
  unfold appended at h
  split at h
  · split at h
    · split at h
      · simp only [Option.some.injEq, Prod.mk.injEq] at h; obtain ⟨_, rfl⟩ := h; exact .refl _
      · split at h
        · simp only [Option.some.injEq, Prod.mk.injEq] at h; obtain ⟨_, rfl⟩ := h; exact (Same.push _ _).ext
        · simp at h
    · simp at h
  · split at h
    · simp at h
    · split at h
      · split at h
        · split at h
          · rename_i H1 h1
            simp only [Option.some.injEq, Prod.mk.injEq] at h; obtain ⟨_, rfl⟩ := h; exact stU_ext h1
          · simp at h
        · split at h
          · split at h
            · simp only [Option.some.injEq, Prod.mk.injEq] at h; obtain ⟨_, rfl⟩ := h; exact (Ext.set _ _ _).trans (Same.push _ _).ext
            · simp at h
          · simp at h
      · split at h
        · simp only [Option.some.injEq, Prod.mk.injEq] at h; obtain ⟨_, rfl⟩ := h; exact .refl _
        · simp at h
  · simp at h

/-! ### Kinds of operations -/
inductive Cls where
  | pure | read | grow | write
  deriving DecidableEq
def MI.cls : MI → Cls
  | .load _ _ _ | .toStr _ | .sliceS _ _ _ _ | .sliceA _ _ _ _ _ | .boxDead _ => .read
  | .alloc _ _ | .box _ _ | .buildSlice _ _ _ _ | .mkSlice _ _ _ _ _ | .toBytes _ => .grow
  | .call p _ _ => if p then .grow else .write
  | .store _ _ _ | .storeX _ _ _ _ | .append _ _ _ _ | .appendZ _ _ _ _ _ | .copy _ _ _ | .uString _ _ | .uData _ | .mkMap => .write
  | _ => .pure
def MI.isCall : MI → Bool
  | .call _ _ _ => true
  | .callL _ _ => true
  | _ => false
theorem evOp_evM {call : CallH} {m : MI} (hm : m.isCall = false) (f : Fr) (H : AH) : evOp call m f H = evM m f H := by
  cases m <;> first | rfl | simp [MI.isCall] at hm
theorem evM_pure {m : MI} (hm : m.cls = .pure) {f : Fr} {H H1 : AH} {v : Value} (h : evM m f H = some (v, H1)) : H1 = H ∧ ∀ H', evM m f H' = some (v, H') := by
  cases m <;> simp only [MI.cls, reduceCtorEq] at hm <;> (try (split at hm <;> simp at hm)) <;> simp only [evM] at h ⊢ <;>
    first
    | (simp only [Option.some.injEq, Prod.mk.injEq] at h; exact ⟨h.2.symm, fun H' => by rw [h.1]⟩)
    | (simp only [reduceCtorEq] at h; done)
    | (split at h <;> (try (split at h)) <;> (try (split at h)) <;> (try (split at h)) <;> first
        | (simp at h; done)
        | (simp only [Option.some.injEq, Prod.mk.injEq] at h; obtain ⟨h1, h2⟩ := h; refine ⟨h2.symm, fun H' => ?_⟩; simp_all))
theorem ldc_cong {H H' : AH} {a : Addr} {n : Nat} (h : H'.get a.block = H.get a.block) : ldc H' a n = ldc H a n := by unfold ldc; rw [h]
theorem evM_read {m : MI} (hm : m.cls = .read) {f : Fr} {H H1 : AH} {v : Value} (h : evM m f H = some (v, H1)) : H1 = H ∧ (∀ b ∈ m.rdBlk f, b < H.next) := by
  cases m <;> simp only [MI.cls, reduceCtorEq] at hm <;> (try (split at hm <;> simp at hm))
  · simp only [evM] at h
    simp only [MI.rdBlk]
    split at h
    · rename_i hp
      simp only [Option.some.injEq, Prod.mk.injEq] at h
      exact ⟨h.2.symm, fun b hb => by rw [hp] at hb; simp [blkOf] at hb⟩
    · rename_i a n k hp
      split at h
      · rename_i cs hl
        split at h
        · simp only [Option.some.injEq, Prod.mk.injEq] at h
          exact ⟨h.2.symm, fun b hb => by rw [hp] at hb; simp only [blkOf, List.mem_singleton] at hb; subst hb; exact ldc_lt hl⟩
        · simp at h
      · simp at h
    · simp at h
  · -- load
    simp only [evM] at h
    simp only [MI.rdBlk]
    split at h
    · rename_i p hp
      split at h
      · rename_i cs hl
        split at h
        · simp only [Option.some.injEq, Prod.mk.injEq] at h
          exact ⟨h.2.symm, fun b hb => by rw [hp] at hb; simp only [blkOf, List.mem_singleton] at hb; subst hb; exact ldc_lt hl⟩
        · simp at h
      · simp at h
    · simp at h
  · simp only [evM] at h
    simp only [MI.rdBlk]
    split at h
    · rename_i a n k hp
      split at h
      · split at h
        · split at h
          · split at h
            · simp only [Option.some.injEq, Prod.mk.injEq] at h
              exact ⟨h.2.symm, fun b hb => by rw [hp] at hb; simp [blkOf] at hb⟩
            · split at h
              · rename_i p _ bb hb
                have key : ∀ b ∈ blkOf (.slice (some p) n k), b < H.next := fun b hbm => by
                  simp only [blkOf, List.mem_singleton] at hbm; subst hbm; exact AH.get_lt hb
                split at h
                · split at h
                  · simp only [Option.some.injEq, Prod.mk.injEq] at h
                    exact ⟨h.2.symm, by rw [hp]; exact key⟩
                  · split at h
                    · simp only [Option.some.injEq, Prod.mk.injEq] at h
                      exact ⟨h.2.symm, by rw [hp]; exact key⟩
                    · split at h
                      · simp only [Option.some.injEq, Prod.mk.injEq] at h
                        exact ⟨h.2.symm, by rw [hp]; exact key⟩
                      · simp at h
                · simp at h
              · simp at h
          · simp at h
        · simp at h
      · simp at h
    · simp at h
  · simp only [evM] at h
    simp only [MI.rdBlk]
    split at h
    · rename_i p hp
      split at h
      · split at h
        · split at h
          · rename_i bb hb
            split at h
            · simp only [Option.some.injEq, Prod.mk.injEq] at h
              exact ⟨h.2.symm, fun b hbm => by rw [hp] at hbm; simp only [blkOf, List.mem_singleton] at hbm; subst hbm; exact AH.get_lt hb⟩
            · simp at h
          · simp at h
        · simp at h
      · simp at h
    · simp at h
  · simp only [evM] at h
    split at h
    · rename_i hd
      simp only [Option.some.injEq, Prod.mk.injEq] at h
      exact ⟨h.2.symm, fun b hb => by simp only [MI.rdBlk, List.mem_singleton] at hb; subst hb; exact hd.1⟩
    · simp at h
theorem dead_cong {x : Operand} {f : Fr} {H H' : AH} (hn : 0 < H.next → 0 < H'.next) (hn' : 0 < H'.next → 0 < H.next) (hg : H'.get 0 = H.get 0) : (evM (.boxDead x) f H').map (·.1) = (evM (.boxDead x) f H).map (·.1) := by
  simp only [evM, hg]
  by_cases h : 0 < H.next
  · simp only [h, hn h, true_and]; split <;> rfl
  · simp only [h, show ¬ 0 < H'.next from fun h2 => h (hn' h2), false_and, if_false]
theorem evM_read_cong {m : MI} (hm : m.cls = .read) {f : Fr} {H H' : AH} (hl : ∀ b ∈ m.rdBlk f, b < H.next ∧ b < H'.next) (hg : ∀ b ∈ m.rdBlk f, ∀ j, j ≤ b → H'.get j = H.get j) : (evM m f H').map (·.1) = (evM m f H).map (·.1) := by
  cases m <;> simp only [MI.cls, reduceCtorEq] at hm <;> (try (split at hm <;> simp at hm))
  · rename_i x
    simp only [evM]
    simp only [MI.rdBlk] at hg
    cases hx : ev f x with
    | slice p n k =>
      cases p with
      | none => rfl
      | some p =>
        rw [hx] at hg
        have := hg p.block (by simp [blkOf]) _ (Nat.le_refl _)
        simp only [ldc_cong this]
        cases ldc H p n with
        | none => rfl
        | some cs => cases hb : bytesOf cs <;> simp [hb]
    | _ => rfl
  · rename_i ag n a
    simp only [evM]
    simp only [MI.rdBlk] at hg
    cases hx : ev f a with
    | pointer p =>
      cases p with
      | none => rfl
      | some p =>
        rw [hx] at hg
        have := hg p.block (by simp [blkOf]) _ (Nat.le_refl _)
        simp only [ldc_cong this]
        cases ldc H p n with
        | none => rfl
        | some cs => cases ho : oneOf ag cs <;> simp [ho]
    | _ => rfl
  · rename_i es x lo hi
    simp only [evM]
    simp only [MI.rdBlk] at hg
    cases hx : ev f x with
    | slice p n k =>
      simp only
      cases p with
      | none =>
        cases bound f hi n k with
        | none => rfl
        | some h =>
          simp only
          cases bound f lo 0 h with
          | none => rfl
          | some l => simp only; split <;> rfl
      | some p =>
        rw [hx] at hg
        have h1 := hg p.block (by simp [blkOf]) _ (Nat.le_refl _)
        have h0 := hg p.block (by simp [blkOf]) 0 (Nat.zero_le _)
        simp only [h1, h0]
        cases bound f hi n k with
        | none => rfl
        | some h =>
          simp only
          cases bound f lo 0 h with
          | none => rfl
          | some l =>
            simp only
            split
            · cases H.get p.block with
              | none => rfl
              | some b => simp only; (repeat' split) <;> rfl
            · rfl
    | _ => rfl
  · rename_i len es x lo hi
    simp only [evM]
    simp only [MI.rdBlk] at hg
    cases hx : ev f x with
    | pointer p =>
      cases p with
      | none => rfl
      | some p =>
        rw [hx] at hg
        have h1 := hg p.block (by simp [blkOf]) _ (Nat.le_refl _)
        simp only [h1]
        cases bound f hi len len with
        | none => rfl
        | some h =>
          simp only
          cases bound f lo 0 h with
          | none => rfl
          | some l =>
            simp only
            cases H.get p.block with
            | none => rfl
            | some b => simp only; (repeat' split) <;> rfl
    | _ => rfl
  · have h1 := hl 0 (by simp [MI.rdBlk])
    exact dead_cong (fun _ => h1.2) (fun _ => h1.1) (hg 0 (by simp [MI.rdBlk]) 0 (Nat.le_refl _))
theorem evM_grow {m : MI} (hm : m.cls = .grow) {f : Fr} {H H1 : AH} {v : Value} (h : evM m f H = some (v, H1)) : Same H H1 := by
  cases m <;> simp only [MI.cls, reduceCtorEq] at hm <;> simp only [evM] at h <;>
    first
    | (simp only [Option.some.injEq, Prod.mk.injEq] at h; obtain ⟨_, rfl⟩ := h; exact .push _ _)
    | (simp at h; done)
    | ((repeat' split at h) <;> first
        | (simp at h; done)
        | (simp only [Option.some.injEq, Prod.mk.injEq] at h; obtain ⟨_, rfl⟩ := h; exact .push _ _))
theorem evM_ext {m : MI} {f : Fr} {H H1 : AH} {v : Value} (h : evM m f H = some (v, H1)) : Ext H H1 := by
  cases hc : m.cls with
  | pure => rw [(evM_pure hc h).1]; exact .refl _
  | read => rw [(evM_read hc h).1]; exact .refl _
  | grow => exact (evM_grow hc h).ext
  | write =>
    cases m <;> simp only [MI.cls, reduceCtorEq] at hc <;> simp only [evM, reduceCtorEq] at h
    · split at h
      · split at h
        · split at h
          · rename_i h1
            simp only [Option.some.injEq, Prod.mk.injEq] at h; obtain ⟨_, rfl⟩ := h; exact stc_ext h1
          · simp at h
        · simp at h
      · simp at h
    · split at h
      · split at h
        · split at h
          · split at h
            · rename_i h1
              simp only [Option.some.injEq, Prod.mk.injEq] at h; obtain ⟨_, rfl⟩ := h; exact stc_ext h1
            · simp at h
          · simp at h
        · simp at h
      · simp at h
    · split at h
      · exact appended_ext h
      · simp at h
    · split at h
      · split at h
        · exact appended_ext h
        · simp at h
      · simp at h
    · split at h
      · split at h
        · split at h
          · rename_i h1
            simp only [Option.some.injEq, Prod.mk.injEq] at h; obtain ⟨_, rfl⟩ := h; exact stU_ext h1
          · simp at h
        · simp at h
      · simp at h

/-! ### Operands -/
def MI.ops : MI → List Operand
  | .mov x | .un _ x | .conv _ x | .strMov x | .toStr x | .toBytes x | .box _ x | .nilCheck x | .addOff _ x | .field _ _ _ x
  | .toArr _ x | .boxDead x | .mkIface _ x | .extract x _ | .len x | .lenStr x | .cap x | .uData x | .load _ _ x => [x]
  | .pick c a b => [c, a, b]
  | .bin _ _ x y | .eqc _ _ x y | .store _ x y | .idxS _ x y | .idxA _ _ x y | .strIdx x y | .arrIdx _ _ _ x y | .mkSlice _ _ _ x y
  | .append _ _ x y | .appendZ _ _ _ x y | .copy _ x y | .uString x y => [x, y]
  | .build _ ps => ps.map (·.2.2)
  | .buildSlice _ _ _ ps => ps.map (·.2.2)
  | .sliceStr x lo hi | .sliceS _ x lo hi | .sliceA _ _ x lo hi => x :: (lo.toList ++ hi.toList)
  | .mkFunc _ a b => a ++ b
  | .storeX _ a x far => a :: x :: far.map .tmp
  | .call _ g args => g :: args
  | .callL g args => g :: args
  | .min x xs | .max x xs => x :: xs
  | .alloc _ _ | .lenC _ | .mkMap | .newMap => []
theorem bound_cong {f g : Fr} {x : Option Operand} (h : ∀ o ∈ x.toList, ev f o = ev g o) (d m : Nat) : bound f x d m = bound g x d m := by
  cases x with
  | none => rfl
  | some o => simp only [bound, h o (by simp)]
theorem parts_cong {f g : Fr} {ps : List (Nat × Nat × Operand)} (h : ∀ o ∈ ps.map (·.2.2), ev f o = ev g o) : (ps.map fun p => (p.1, p.2.1, ev f p.2.2)) = ps.map fun p => (p.1, p.2.1, ev g p.2.2) :=
  List.map_congr_left fun p hp => by rw [h _ (List.mem_map.2 ⟨p, hp, rfl⟩)]
theorem map_cong {f g : Fr} {xs : List Operand} (h : ∀ o ∈ xs, ev f o = ev g o) : xs.map (ev f) = xs.map (ev g) := List.map_congr_left h
theorem far_cong {f g : Fr} {far : List Tmp} (h : ∀ o ∈ far.map Operand.tmp, ev f o = ev g o) (b : Nat) : farB f far b = farB g far b := by
  unfold farB
  induction far with
  | nil => rfl
  | cons t far ih =>
    have h1 : f t = g t := h (.tmp t) (by simp)
    simp only [List.all_cons, h1]
    rw [ih fun o ho => h o (by simp only [List.map_cons, List.mem_cons]; exact .inr ho)]
theorem storeX_cong {n : Nat} {a x : Operand} {far : List Tmp} {f g : Fr} (h1 : ev f a = ev g a) (h2 : ev f x = ev g x) (h3 : ∀ o ∈ far.map Operand.tmp, ev f o = ev g o) (H : AH) : evM (.storeX n a x far) f H = evM (.storeX n a x far) g H := by
  simp only [evM, h1, h2, far_cong h3]
theorem evM_cong {m : MI} {f g : Fr} (h : ∀ o ∈ m.ops, ev f o = ev g o) (H : AH) : evM m f H = evM m g H := by
  by_cases hx : ∃ n a x far, m = .storeX n a x far
  · obtain ⟨n, a, x, far, rfl⟩ := hx
    simp only [MI.ops, List.mem_cons] at h
    exact storeX_cong (h _ (.inl rfl)) (h _ (.inr (.inl rfl))) (fun o ho => h o (.inr (.inr ho))) H
  cases m <;> simp only [MI.ops, List.mem_cons, List.mem_append, List.not_mem_nil, or_false, forall_eq_or_imp, forall_eq] at h <;> simp only [evM] <;>
    first
    | rfl
    | rw [h]
    | rw [h.1, h.2]
    | rw [h.1, h.2.1, h.2.2]
    | rw [parts_cong h]
    | rw [h.1, map_cong h.2]
    | rw [map_cong fun o ho => h o (.inl ho), map_cong fun o ho => h o (.inr ho)]
    | simp only [h.1, bound_cong fun o ho => h.2 o (.inl ho), bound_cong fun o ho => h.2 o (.inr ho)]
    | exact absurd ⟨_, _, _, _, rfl⟩ hx
theorem callee_cong {f g : Fr} {x : Operand} {args : List Operand} (h : ev f x = ev g x) (h2 : ∀ o ∈ args, ev f o = ev g o) : callee f x args = callee g x args := by
  unfold callee; rw [h, map_cong h2]
theorem evOp_cong {call : CallH} {m : MI} {f g : Fr} (h : ∀ o ∈ m.ops, ev f o = ev g o) (H : AH) : evOp call m f H = evOp call m g H := by
  cases hm : m.isCall with
  | false => rw [evOp_evM hm, evOp_evM hm, evM_cong h]
  | true =>
    cases m <;> simp only [MI.isCall, Bool.false_eq_true] at hm
    all_goals
      simp only [MI.ops, List.mem_cons, forall_eq_or_imp] at h
      simp only [evOp, callee_cong h.1 h.2]
theorem rdBlk_cong {m : MI} {f g : Fr} (h : ∀ o ∈ m.ops, ev f o = ev g o) : m.rdBlk f = m.rdBlk g := by
  cases m <;> simp only [MI.rdBlk] <;> simp only [MI.ops, List.mem_cons, List.not_mem_nil, or_false, forall_eq_or_imp, forall_eq] at h <;> first | rw [h] | rw [h.1]
/-- The temporaries that an operation looks at. -/
def MOp.looks (o : MOp) : List Tmp :=
  (match o.guard with | some (t, _) => [t] | none => []) ++ (o.op.ops.filterMap fun | .tmp t => some t | _ => none)
theorem evV_cong {call : CallH} {bs : Nat} {o : MOp} {f g : Fr} (h : ∀ t ∈ o.looks, f t = g t) (H : AH) : evV call bs o f H = evV call bs o g H := by
  have h1 : ∀ x ∈ o.op.ops, ev f x = ev g x := fun x hx => by
    cases x with
    | tmp t => exact h t (List.mem_append_right _ (List.mem_filterMap.2 ⟨_, hx, rfl⟩))
    | _ => rfl
  have h2 : evG call bs o f H = evG call bs o g H := by simp only [evG, evOp_cong h1, rdBlk_cong h1]
  unfold evV
  cases hg : o.guard with
  | none => exact h2
  | some tw =>
    obtain ⟨t, want⟩ := tw
    have : f t = g t := h t (by simp [MOp.looks, hg])
    simp only [this, h2]

/-- Neither writes what the other looks at or writes. -/
def MOp.apart (x y : MOp) : Bool :=
  (match x.dst with
   | some d => !(y.looks).contains d && y.dst != some d
   | none => true) &&
  (match y.dst with
   | some d => !(x.looks).contains d
   | none => true)
theorem apart_spec {x y : MOp} (h : x.apart y = true) : (∀ d, x.dst = some d → d ∉ y.looks) ∧ (∀ d, x.dst = some d → y.dst ≠ some d) ∧ (∀ d, y.dst = some d → d ∉ x.looks) := by
  refine ⟨fun d hd => ?_, fun d hd => ?_, fun d hd => ?_⟩ <;> simp [MOp.apart, hd] at h
  · exact h.1.1
  · exact h.1.2
  · exact h.2
theorem put_ne {f : Fr} {d : Option Tmp} {v : Value} {t : Tmp} (h : d ≠ some t) : put f d v t = f t := by
  cases d with
  | none => rfl
  | some d => simp only [put, upd]; rw [if_neg]; intro e; exact h (by rw [e])
theorem put_comm {f : Fr} {x y : Option Tmp} {v u : Value} (h : ∀ d, x = some d → y ≠ some d) : put (put f x v) y u = put (put f y u) x v := by
  cases x with
  | none => rfl
  | some d =>
    cases y with
    | none => rfl
    | some e =>
      have : d ≠ e := fun h' => h d rfl (by rw [h'])
      funext t
      simp only [put, upd]
      split <;> split <;> simp_all
/-- A store that does not hit what is read. -/
def farOk (x y : MI) : Bool :=
  match x, y with
  | .storeX _ _ _ far, .load _ _ (.tmp t) => far.contains t
  | _, _ => false
def clsOk (x y : MOp) : Bool :=
  match x.op.cls, y.op.cls with
  | .read, .write => farOk y.op x.op
  | .write, .read => farOk x.op y.op
  | .pure, _ | _, .pure | .read, .read | .read, .grow => true
  | .grow, .read => y.old
  | _, _ => false

/-- What a call is known to keep. -/
def CallExt (call : CallH) : Prop := ∀ n vs H v H', call n vs H = some (v, H') → Ext H H'
section
variable {call : CallH} {bs : Nat}
theorem evOp_lone {g : Operand} {xs : List Operand} {f : Fr} {H H1 : AH} {v : Value} (h : evOp call (.callL g xs) f H = some (v, H1)) : H1 = H ∧ ∀ H', evOp call (.callL g xs) f H' = some (v, H') := by
  simp only [evOp] at h ⊢
  split at h
  · rename_i n vs he
    split at h
    · rename_i hp
      split at h
      · rename_i v1 H2 h2
        split at h
        · rename_i h3
          simp only [Option.some.injEq, Prod.mk.injEq] at h
          obtain ⟨rfl, rfl⟩ := h
          refine ⟨rfl, fun H' => ?_⟩
          simp only [hp, h2, h3, if_true]
        · simp at h
      · simp at h
    · simp at h
  · simp at h
theorem evOp_pure {m : MI} (hm : m.cls = .pure) {f : Fr} {H H1 : AH} {v : Value} (h : evOp call m f H = some (v, H1)) : H1 = H ∧ ∀ H', evOp call m f H' = some (v, H') := by
  cases hi : m.isCall with
  | false =>
    rw [evOp_evM hi] at h
    obtain ⟨e1, e2⟩ := evM_pure hm h
    exact ⟨e1, fun H' => by rw [evOp_evM hi]; exact e2 H'⟩
  | true =>
    cases m <;> simp only [MI.isCall, Bool.false_eq_true] at hi
    · simp only [MI.cls] at hm
      split at hm <;> simp at hm
    · exact evOp_lone h
theorem evOp_ext (hc : CallExt call) {m : MI} {f : Fr} {H H1 : AH} {v : Value} (h : evOp call m f H = some (v, H1)) : Ext H H1 := by
  cases hm : m.isCall with
  | false => rw [evOp_evM hm] at h; exact evM_ext h
  | true =>
    cases m <;> simp only [MI.isCall, Bool.false_eq_true] at hm
    case callL => rw [(evOp_lone h).1]; exact .refl _
    simp only [evOp] at h
    split at h
    · split at h
      · split at h
        · rename_i H2 h2
          split at h
          · rename_i hl
            simp only [Option.some.injEq, Prod.mk.injEq] at h
            obtain ⟨_, rfl⟩ := h
            have := hc _ _ _ _ _ h2
            exact ⟨this.nx, Nat.le_refl _, fun id h1 _ => this.same id h1 (by rw [hl]; exact h1)⟩
          · simp at h
        · simp at h
      · exact hc _ _ _ _ _ h
    · simp at h
theorem evOp_grow (hc : CallExt call) {m : MI} (hm : m.cls = .grow) {f : Fr} {H H1 : AH} {v : Value} (h : evOp call m f H = some (v, H1)) : Same H H1 := by
  cases hi : m.isCall with
  | false => rw [evOp_evM hi] at h; exact evM_grow hm h
  | true =>
    cases m <;> simp only [MI.isCall, Bool.false_eq_true] at hi
    case callL => simp [MI.cls] at hm
    simp only [MI.cls] at hm
    split at hm
    · rename_i hp
      simp only [evOp, hp, if_true] at h
      split at h
      · split at h
        · rename_i H2 h2
          split at h
          · rename_i hl
            simp only [Option.some.injEq, Prod.mk.injEq] at h
            obtain ⟨_, rfl⟩ := h
            have := hc _ _ _ _ _ h2
            exact ⟨this.nx, rfl, fun id h1 => this.same id h1 (by rw [hl]; exact h1)⟩
          · simp at h
        · simp at h
      · simp at h
    · simp at hm
theorem evG_evOp {o : MOp} {f : Fr} {H H1 : AH} {v : Value} (h : evG call bs o f H = some (v, H1)) : evOp call o.op f H = some (v, H1) := by
  unfold evG at h
  split at h
  · split at h
    · exact h
    · simp at h
  · exact h
theorem evV_ext (hc : CallExt call) {o : MOp} {f : Fr} {H H1 : AH} {v : Value} (h : evV call bs o f H = some (v, H1)) : Ext H H1 := by
  unfold evV at h
  split at h
  · exact evOp_ext hc (evG_evOp h)
  · split at h
    · split at h
      · exact evOp_ext hc (evG_evOp h)
      · simp only [Option.some.injEq, Prod.mk.injEq] at h; obtain ⟨_, rfl⟩ := h; exact .refl _
    · simp only [Option.some.injEq, Prod.mk.injEq] at h; obtain ⟨_, rfl⟩ := h; exact .refl _
    · simp at h
theorem cls_isCall {m : MI} (h : m.cls = .read) : m.isCall = false := by
  cases m <;> first | rfl | (simp only [MI.cls] at h; split at h <;> simp at h) | simp [MI.cls] at h
theorem evV_pure {o : MOp} (ho : o.op.cls = .pure) {f : Fr} {H H1 : AH} {v : Value} (h : evV call bs o f H = some (v, H1)) : H1 = H ∧ ∀ H', evV call bs o f H' = some (v, H') := by
  have hG : ∀ {H H1 : AH} {v : Value}, evG call bs o f H = some (v, H1) → H1 = H ∧ ∀ H', evG call bs o f H' = some (v, H') := fun h => by
    have h2 := evG_evOp h
    obtain ⟨e1, e2⟩ := evOp_pure ho h2
    refine ⟨e1, fun H' => ?_⟩
    unfold evG at h ⊢
    split at h
    · rename_i h3
      rw [if_pos h3]
      split at h
      · rename_i h4; rw [if_pos h4]; exact e2 H'
      · simp at h
    · rename_i h3; rw [if_neg h3]; exact e2 H'
  unfold evV at h ⊢
  split at h
  · exact hG h
  · split at h
    · split at h
      · rename_i h4; simp only [h4, if_true]; exact hG h
      · rename_i h4
        simp only [Option.some.injEq, Prod.mk.injEq] at h; obtain ⟨rfl, rfl⟩ := h
        simp [h4]
    · simp only [Option.some.injEq, Prod.mk.injEq] at h; obtain ⟨rfl, rfl⟩ := h
      simp
    · simp at h
theorem fst_some {α β : Type} {x : Option (α × β)} {a : α} (h : x.map (·.1) = some a) : ∃ b, x = some (a, b) := by
  cases x with
  | none => simp at h
  | some p => obtain ⟨a', b⟩ := p; simp at h; exact ⟨b, by rw [h]⟩
theorem evM_read_at {m : MI} (hm : m.cls = .read) {f : Fr} {H H' H1 : AH} {v : Value} (h : evM m f H = some (v, H1)) (hl : ∀ b ∈ m.rdBlk f, b < H'.next) (hg : ∀ b ∈ m.rdBlk f, ∀ j, j ≤ b → H'.get j = H.get j) : evM m f H' = some (v, H') := by
  have := evM_read_cong hm (fun b hb => ⟨(evM_read hm h).2 b hb, hl b hb⟩) hg
  rw [h] at this
  obtain ⟨H2, h2⟩ := fst_some this
  rw [h2, (evM_read hm h2).1]
theorem evV_read {o : MOp} (ho : o.op.cls = .read) {f : Fr} {H H1 : AH} {v : Value} (h : evV call bs o f H = some (v, H1)) : H1 = H ∧ (∀ H', Same H H' → evV call bs o f H' = some (v, H')) ∧ (o.old = true → ∀ H', Same H' H → bs ≤ H'.next → evV call bs o f H' = some (v, H')) := by
  have hG : ∀ {H H1 : AH} {v : Value}, evG call bs o f H = some (v, H1) → H1 = H ∧ (∀ H', Same H H' → evG call bs o f H' = some (v, H')) ∧ (o.old = true → ∀ H', Same H' H → bs ≤ H'.next → evG call bs o f H' = some (v, H')) := fun {H H1 v} h => by
    have h2 := evG_evOp h
    rw [evOp_evM (cls_isCall ho)] at h2
    obtain ⟨e1, e2⟩ := evM_read ho h2
    have fwd : ∀ H', Same H H' → evOp call o.op f H' = some (v, H') := fun H' hs => by
      rw [evOp_evM (cls_isCall ho)]
      exact evM_read_at ho h2 (fun b hb => Nat.lt_of_lt_of_le (e2 b hb) hs.nx) fun b hb j hj => hs.same j (Nat.lt_of_le_of_lt hj (e2 b hb))
    refine ⟨e1, fun H' hs => ?_, fun hold H' hs hb => ?_⟩
    · unfold evG at h ⊢
      split at h
      · rename_i h3
        rw [if_pos h3]
        split at h
        · rename_i h4; rw [if_pos h4]; exact fwd H' hs
        · simp at h
      · rename_i h3; rw [if_neg h3]; exact fwd H' hs
    · unfold evG at h ⊢
      rw [if_pos hold] at h ⊢
      split at h
      · rename_i h4
        rw [if_pos h4, evOp_evM (cls_isCall ho)]
        have hall : ∀ b ∈ o.op.rdBlk f, b < H'.next := fun b hb' => by
          have := List.all_eq_true.1 h4 b hb'
          simp only [decide_eq_true_eq] at this
          omega
        refine evM_read_at ho h2 hall fun b hb' j hj => (hs.same j ?_).symm
        have := hall b hb'
        omega
      · simp at h
  unfold evV at h ⊢
  split at h
  · exact hG h
  · split at h
    · split at h
      · rename_i h4; simp only [h4, if_true]; exact hG h
      · rename_i h4
        simp only [Option.some.injEq, Prod.mk.injEq] at h; obtain ⟨rfl, rfl⟩ := h
        simp [h4]
    · simp only [Option.some.injEq, Prod.mk.injEq] at h; obtain ⟨rfl, rfl⟩ := h
      simp
    · simp at h
theorem evV_grow (hc : CallExt call) {o : MOp} (ho : o.op.cls = .grow) {f : Fr} {H H1 : AH} {v : Value} (h : evV call bs o f H = some (v, H1)) : Same H H1 := by
  unfold evV at h
  split at h
  · exact evOp_grow hc ho (evG_evOp h)
  · split at h
    · split at h
      · exact evOp_grow hc ho (evG_evOp h)
      · simp only [Option.some.injEq, Prod.mk.injEq] at h; obtain ⟨_, rfl⟩ := h; exact .refl _
    · simp only [Option.some.injEq, Prod.mk.injEq] at h; obtain ⟨_, rfl⟩ := h; exact .refl _
    · simp at h
theorem ldc_get {H H' : AH} {a : Addr} {n : Nat} (h : H'.get a.block = H.get a.block) : ldc H' a n = ldc H a n := by unfold ldc; rw [h]
theorem evV_load_at {o : MOp} {ag : Bool} {n : Nat} {t : Tmp} (ho : o.op = .load ag n (.tmp t)) {f : Fr} {H H' H1 : AH} {v : Value} (h : evV call bs o f H = some (v, H1)) (hg : ∀ p, f t = .pointer (some p) → H'.get p.block = H.get p.block) : H1 = H ∧ evV call bs o f H' = some (v, H') := by
  have hE : ∀ {v : Value} {H1 : AH}, evM (.load ag n (.tmp t)) f H = some (v, H1) → H1 = H ∧ evM (.load ag n (.tmp t)) f H' = some (v, H') := fun {v H1} h => by
    simp only [evM, ev] at h ⊢
    cases hp : f t with
    | pointer a =>
      cases a with
      | none => rw [hp] at h; simp at h
      | some p =>
        rw [hp] at h
        simp only at h ⊢
        rw [ldc_get (hg p hp)]
        split at h
        · split at h
          · simp only [Option.some.injEq, Prod.mk.injEq] at h; exact ⟨h.2.symm, by rw [h.1]⟩
          · simp at h
        · simp at h
    | _ => rw [hp] at h; simp at h
  have hG : ∀ {v : Value} {H1 : AH}, evG call bs o f H = some (v, H1) → H1 = H ∧ evG call bs o f H' = some (v, H') := fun {v H1} h => by
    unfold evG at h ⊢
    have e : ∀ X, evOp call o.op f X = evM (.load ag n (.tmp t)) f X := fun X => by rw [ho]; rfl
    simp only [e] at h ⊢
    split at h
    · rename_i h3
      rw [if_pos h3]
      split at h
      · rename_i h4; rw [if_pos h4]; exact hE h
      · simp at h
    · rename_i h3; rw [if_neg h3]; exact hE h
  unfold evV at h ⊢
  split at h
  · exact hG h
  · split at h
    · split at h
      · rename_i h4; simp only [h4, if_true]; exact hG h
      · rename_i h4
        simp only [Option.some.injEq, Prod.mk.injEq] at h; obtain ⟨rfl, rfl⟩ := h
        simp [h4]
    · simp only [Option.some.injEq, Prod.mk.injEq] at h; obtain ⟨rfl, rfl⟩ := h
      simp
    · simp at h
/-- What a store into another block leaves alone. -/
theorem evV_far {o : MOp} {n : Nat} {a x : Operand} {far : List Tmp} (ho : o.op = .storeX n a x far) {f : Fr} {H H1 : AH} {v : Value} (h : evV call bs o f H = some (v, H1)) {t : Tmp} (ht : t ∈ far) (p : Addr) (hp : f t = .pointer (some p)) : H1.get p.block = H.get p.block := by
  have hE : ∀ {v : Value} {H1 : AH}, evM (.storeX n a x far) f H = some (v, H1) → H1.get p.block = H.get p.block := fun {v H1} h => by
    simp only [evM] at h
    split at h
    · split at h
      · rename_i q hq hfar
        have h5 := List.all_eq_true.1 hfar t ht
        rw [hp] at h5
        simp only [decide_eq_true_eq] at h5
        split at h
        · split at h
          · rename_i h1
            simp only [Option.some.injEq, Prod.mk.injEq] at h
            obtain ⟨_, rfl⟩ := h
            unfold stc at h1
            split at h1
            · unfold stU at h1
              split at h1
              · split at h1
                · obtain rfl := Option.some.inj h1; exact AH.get_set_ne _ _ h5
                · simp at h1
              · simp at h1
            · simp at h1
          · simp at h
        · simp at h
      · simp at h
    · simp at h
  have hG : ∀ {v : Value} {H1 : AH}, evG call bs o f H = some (v, H1) → H1.get p.block = H.get p.block := fun {v H1} h => by
    unfold evG at h
    have e : ∀ X, evOp call o.op f X = evM (.storeX n a x far) f X := fun X => by rw [ho]; rfl
    simp only [e] at h
    split at h
    · split at h
      · exact hE h
      · simp at h
    · exact hE h
  unfold evV at h
  split at h
  · exact hG h
  · split at h
    · split at h
      · exact hG h
      · simp only [Option.some.injEq, Prod.mk.injEq] at h; obtain ⟨_, rfl⟩ := h; rfl
    · simp only [Option.some.injEq, Prod.mk.injEq] at h; obtain ⟨_, rfl⟩ := h; rfl
    · simp at h
/-- A store looks at its own block alone: it can be done ahead of what reads another one. -/
theorem farOk_spec {x y : MI} (h : farOk x y = true) : ∃ n a z far ag k t, x = .storeX n a z far ∧ y = .load ag k (.tmp t) ∧ t ∈ far := by
  unfold farOk at h
  split at h
  · exact ⟨_, _, _, _, _, _, _, rfl, rfl, by simpa using h⟩
  · simp at h
theorem evV_swap (hc : CallExt call) {x y : MOp} (hk : clsOk x y = true) {f : Fr} {H H1 H2 : AH} {v u : Value} (hb : bs ≤ H.next)
    (h1 : evV call bs x f H = some (v, H1)) (h2 : evV call bs y f H1 = some (u, H2)) : ∃ H', evV call bs y f H = some (u, H') ∧ evV call bs x f H' = some (v, H2) := by
  cases hx : x.op.cls with
  | pure =>
    obtain ⟨e1, e2⟩ := evV_pure hx h1
    rw [e1] at h2
    exact ⟨H2, h2, e2 H2⟩
  | read =>
    obtain ⟨e1, e2, e3⟩ := evV_read hx h1
    rw [e1] at h2
    cases hy : y.op.cls with
    | pure => obtain ⟨f1, f2⟩ := evV_pure hy h2; exact ⟨_, h2, by rw [f1]; exact e2 _ (.refl _)⟩
    | read => obtain ⟨f1, f2, f3⟩ := evV_read hy h2; exact ⟨_, h2, by rw [f1]; exact e2 _ (.refl _)⟩
    | grow => exact ⟨_, h2, e2 _ (evV_grow hc hy h2)⟩
    | write =>
      simp only [clsOk, hx, hy] at hk
      obtain ⟨n, a, z, far, ag, k, t, ey, ex, ht⟩ := farOk_spec hk
      exact ⟨_, h2, (evV_load_at ex h1 fun p hp => evV_far ey h2 ht p hp).2⟩
  | grow =>
    have hs := evV_grow hc hx h1
    cases hy : y.op.cls with
    | pure => obtain ⟨f1, f2⟩ := evV_pure hy h2; exact ⟨_, f2 H, by rw [f1]; exact h1⟩
    | read =>
      obtain ⟨f1, f2, f3⟩ := evV_read hy h2
      simp only [clsOk, hx, hy] at hk
      exact ⟨_, f3 hk H hs hb, by rw [f1]; exact h1⟩
    | grow => simp [clsOk, hx, hy] at hk
    | write => simp [clsOk, hx, hy] at hk
  | write =>
    cases hy : y.op.cls with
    | pure => obtain ⟨f1, f2⟩ := evV_pure hy h2; exact ⟨_, f2 H, by rw [f1]; exact h1⟩
    | read =>
      simp only [clsOk, hx, hy] at hk
      obtain ⟨n, a, z, far, ag, k, t, ex, ey, ht⟩ := farOk_spec hk
      obtain ⟨f1, f2⟩ := evV_load_at ey h2 (H' := H) fun p hp => (evV_far ex h1 ht p hp).symm
      exact ⟨H, f2, by rw [f1]; exact h1⟩
    | _ => simp [clsOk, hx, hy] at hk
theorem evMOp_swap (hc : CallExt call) {x y : MOp} (ha : x.apart y = true) (hk : clsOk x y = true) {f f1 f2 : Fr} {H H1 H2 : AH} (hb : bs ≤ H.next)
    (h1 : evMOp call bs x f H = some (f1, H1)) (h2 : evMOp call bs y f1 H1 = some (f2, H2)) : ∃ f' H', evMOp call bs y f H = some (f', H') ∧ evMOp call bs x f' H' = some (f2, H2) := by
  obtain ⟨a1, a2, a3⟩ := apart_spec ha
  unfold evMOp at h1 h2
  split at h1
  · rename_i v K1 hv
    simp only [Option.some.injEq, Prod.mk.injEq] at h1
    obtain ⟨rfl, rfl⟩ := h1
    split at h2
    · rename_i u K2 hu
      simp only [Option.some.injEq, Prod.mk.injEq] at h2
      obtain ⟨rfl, rfl⟩ := h2
      rw [evV_cong (g := f) (fun t ht => put_ne fun e => a1 t e ht)] at hu
      obtain ⟨H', k1, k2⟩ := evV_swap hc hk hb hv hu
      refine ⟨put f y.dst u, H', by simp only [evMOp, k1], ?_⟩
      simp only [evMOp]
      rw [evV_cong (g := f) (fun t ht => put_ne fun e => a3 t e ht), k2]
      simp only [Option.some.injEq, Prod.mk.injEq, and_true]
      exact (put_comm a2).symm
    · simp at h2
  · simp at h1
theorem evMOp_ext (hc : CallExt call) {o : MOp} {f f1 : Fr} {H H1 : AH} (h : evMOp call bs o f H = some (f1, H1)) : Ext H H1 := by
  unfold evMOp at h
  split at h
  · rename_i hv
    simp only [Option.some.injEq, Prod.mk.injEq] at h
    obtain ⟨_, rfl⟩ := h
    exact evV_ext hc hv
  · simp at h
def pairOk (x y : MOp) : Bool := x.apart y && clsOk x y
theorem evOps_bubble (hc : CallExt call) {y : MOp} {post : List MOp} {r : Fr × AH} : ∀ (pre : List MOp) (f : Fr) (H : AH), (∀ x ∈ pre, pairOk x y = true) → bs ≤ H.next → evOps call bs (pre ++ y :: post) f H = some r →
    ∃ f1 H1, evMOp call bs y f H = some (f1, H1) ∧ evOps call bs (pre ++ post) f1 H1 = some r := by
  intro pre
  induction pre with
  | nil =>
    intro f H _ hb h
    simp only [List.nil_append, evOps] at h
    split at h
    · rename_i f' H' h'; exact ⟨f', H', h', h⟩
    · simp at h
  | cons x pre ih =>
    intro f H hp hb h
    simp only [List.cons_append, evOps] at h
    split at h
    · rename_i f' H' h'
      obtain ⟨f1, H1, k1, k2⟩ := ih f' H' (fun z hz => hp z (List.mem_cons_of_mem _ hz)) (Nat.le_trans hb (evMOp_ext hc h').nx) h
      have := hp x (List.mem_cons_self ..)
      simp only [pairOk, Bool.and_eq_true] at this
      obtain ⟨g, K, j1, j2⟩ := evMOp_swap hc this.1 this.2 hb h' k1
      exact ⟨g, K, j1, by simp only [List.cons_append, evOps, j2, k2]⟩
    · simp at h
theorem evOps_ext (hc : CallExt call) : ∀ (l : List MOp) {f f1 : Fr} {H H1 : AH}, evOps call bs l f H = some (f1, H1) → Ext H H1 := by
  intro l
  induction l with
  | nil => intro f f1 H H1 h; simp only [evOps, Option.some.injEq, Prod.mk.injEq] at h; obtain ⟨_, rfl⟩ := h; exact .refl _
  | cons o l ih =>
    intro f f1 H H1 h
    simp only [evOps] at h
    split at h
    · rename_i h'; exact (evMOp_ext hc h').trans (ih h)
    · simp at h
theorem iter_ext {b : Fr → AH → Option (Ex × Fr × AH)} (hb : ∀ f H e f' H', b f H = some (e, f', H') → Ext H H') : ∀ (n : Nat) {f : Fr} {H : AH} {e : Ex} {f' : Fr} {H' : AH}, iter b n f H = some (e, f', H') → Ext H H' := by
  intro n
  induction n with
  | zero => intro f H e f' H' h; simp [iter] at h
  | succ n ih =>
    intro f H e f' H' h
    simp only [iter] at h
    split at h
    · rename_i f1 H1 h1; exact (hb _ _ _ _ _ h1).trans (ih h)
    · exact hb _ _ _ _ _ h
theorem evC_ext (hc : CallExt call) {k : Nat} : ∀ (m : MCode) {f : Fr} {H : AH} {e : Ex} {f' : Fr} {H' : AH}, evC call k m f H = some (e, f', H') → Ext H H' := by
  intro m
  induction m with
  | skip => intro f H e f' H' h; simp only [evC, Option.some.injEq, Prod.mk.injEq] at h; obtain ⟨_, _, rfl⟩ := h; exact .refl _
  | ops l =>
    intro f H e f' H' h
    simp only [evC] at h
    split at h
    · rename_i h1; simp only [Option.some.injEq, Prod.mk.injEq] at h; obtain ⟨_, _, rfl⟩ := h; exact evOps_ext hc _ h1
    · simp at h
  | opsD l =>
    intro f H e f' H' h
    simp only [evC] at h
    split at h
    · rename_i h1; simp only [Option.some.injEq, Prod.mk.injEq] at h; obtain ⟨_, _, rfl⟩ := h; exact evOps_ext hc _ h1
    · simp at h
  | seq a b iha ihb =>
    intro f H e f' H' h
    simp only [evC] at h
    split at h
    · rename_i h1; exact (iha h1).trans (ihb h)
    · exact iha h
  | cond c a b iha ihb =>
    intro f H e f' H' h
    simp only [evC] at h
    split at h
    · split at h
      · exact iha h
      · exact ihb h
    · simp at h
  | block id a ih =>
    intro f H e f' H' h
    simp only [evC] at h
    split at h
    · rename_i h1
      split at h <;> (simp only [Option.some.injEq, Prod.mk.injEq] at h; obtain ⟨_, _, rfl⟩ := h; exact ih h1)
    · exact ih h
  | loop a ih => intro f H e f' H' h; exact iter_ext (fun _ _ _ _ _ => ih) _ h
  | exit id => intro f H e f' H' h; simp only [evC, Option.some.injEq, Prod.mk.injEq] at h; obtain ⟨_, _, rfl⟩ := h; exact .refl _
  | ret => intro f H e f' H' h; simp only [evC, Option.some.injEq, Prod.mk.injEq] at h; obtain ⟨_, _, rfl⟩ := h; exact .refl _
end
theorem blks_ext {H : AH} {bs : List (Option Blk)} : Ext H { H with blks := H.blks ++ bs } := by
  refine ⟨by simp [AH.next], Nat.le_refl _, fun id h _ => ?_⟩
  simp only [AH.get, AH.next] at *
  rw [List.getElem?_append_left h]
theorem back_ext {H H1 : AH} {v : Value} (h : Ext H.enter H1) : Ext H (back H H1 v).2 := by
  have h1 : H.next ≤ H1.next := h.nx
  have h2 : H1.low ≤ H.next := h.low
  have h3 : ∀ id, id < H.next → id < H1.low → H1.get id = H.get id := h.same
  have keep : ¬ H1.low < H.next → Ext H { H1 with low := H.low } := fun hn => ⟨h1, Nat.le_refl _, fun id a _ => h3 id a (by omega)⟩
  unfold back
  split
  · rename_i hl
    exact ⟨h1, Nat.min_le_left _ _, fun id a b => h3 id a (by simp only at b; omega)⟩
  · rename_i hl
    split
    · exact .refl _
    · split
      · split
        · split
          · split
            · exact blks_ext
            · exact keep hl
          · exact keep hl
        · exact keep hl
      · split
        · exact blks_ext
        · exact keep hl
def NatExt (g : CallH → List Value → AH → Option (Value × AH)) : Prop := ∀ call, CallExt call → ∀ vs H v H', g call vs H = some (v, H') → Ext H H'
theorem evF_ext (tbl : Tbl) (hn : ∀ n g, tbl n = some (.nat g) → NatExt g) : ∀ k, CallExt (evF tbl k) := by
  intro k
  induction k with
  | zero => intro n vs H v H' h; simp [evF] at h
  | succ k ih =>
    intro n vs H v H' h
    simp only [evF] at h
    split at h
    · simp at h
    · rename_i g hg; exact hn _ _ hg _ ih _ _ _ _ h
    · split at h
      · rename_i h1
        split at h
        · simp only [Option.some.injEq] at h
          have h' : (back _ _ _).2 = H' := congrArg Prod.snd h
          rw [← h']
          exact back_ext (evC_ext ih _ h1)
        · simp at h
      · rename_i h1
        split at h
        · simp only [Option.some.injEq] at h
          have h' : (back _ _ _).2 = H' := congrArg Prod.snd h
          rw [← h']
          exact back_ext (evC_ext ih _ h1)
        · simp at h
      · simp at h
end Go.Proofs.Ytidpkoaomfbljaa.AM
/- More fuel gives the same; rules for reckoning on the abstract machine. No program in sight. -/
namespace Go.Proofs.Ytidpkoaomfbljaa.AM
open Go
set_option linter.all false

def LeC (call call' : CallH) : Prop := ∀ n vs H r, call n vs H = some r → call' n vs H = some r
theorem LeC.refl (c : CallH) : LeC c c := fun _ _ _ _ h => h
section
variable {call call' : CallH}
theorem evOp_mono (hc : LeC call call') {m : MI} {f : Fr} {H : AH} {r : Value × AH} (h : evOp call m f H = some r) : evOp call' m f H = some r := by
  cases hm : m.isCall with
  | false => rw [evOp_evM hm] at h ⊢; exact h
  | true =>
    cases m <;> simp only [MI.isCall, Bool.false_eq_true] at hm
    case callL g xs =>
      simp only [evOp] at h ⊢
      split at h
      · split at h
        · rename_i hp
          rw [if_pos hp]
          split at h
          · rename_i h1; rw [hc _ _ _ _ h1]; exact h
          · simp at h
        · simp at h
      · simp at h
    simp only [evOp] at h ⊢
    split at h
    · split at h
      · rename_i hp
        rw [if_pos hp]
        split at h
        · rename_i h1; rw [hc _ _ _ _ h1]; exact h
        · simp at h
      · rename_i hp
        rw [if_neg hp]
        exact hc _ _ _ _ h
    · simp at h
theorem evG_mono (hc : LeC call call') {bs : Nat} {o : MOp} {f : Fr} {H : AH} {r : Value × AH} (h : evG call bs o f H = some r) : evG call' bs o f H = some r := by
  unfold evG at h ⊢
  split at h
  · rename_i h1
    rw [if_pos h1]
    split at h
    · rename_i h2; rw [if_pos h2]; exact evOp_mono hc h
    · simp at h
  · rename_i h1; rw [if_neg h1]; exact evOp_mono hc h
theorem evV_mono (hc : LeC call call') {bs : Nat} {o : MOp} {f : Fr} {H : AH} {r : Value × AH} (h : evV call bs o f H = some r) : evV call' bs o f H = some r := by
  unfold evV at h ⊢
  split at h
  · exact evG_mono hc h
  · split at h
    · split at h
      · rename_i h1; simp only [h1, if_true]; exact evG_mono hc h
      · rename_i h1; simp only [h1, if_false]; exact h
    · exact h
    · simp at h
theorem evMOp_mono (hc : LeC call call') {bs : Nat} {o : MOp} {f : Fr} {H : AH} {r : Fr × AH} (h : evMOp call bs o f H = some r) : evMOp call' bs o f H = some r := by
  unfold evMOp at h ⊢
  split at h
  · rename_i h1; rw [evV_mono hc h1]; exact h
  · simp at h
theorem evOps_mono (hc : LeC call call') {bs : Nat} : ∀ (l : List MOp) {f : Fr} {H : AH} {r : Fr × AH}, evOps call bs l f H = some r → evOps call' bs l f H = some r := by
  intro l
  induction l with
  | nil => intro f H r h; exact h
  | cons o l ih =>
    intro f H r h
    simp only [evOps] at h ⊢
    split at h
    · rename_i h1; rw [evMOp_mono hc h1]; exact ih h
    · simp at h
theorem iter_mono {b b' : Fr → AH → Option (Ex × Fr × AH)} (hb : ∀ f H r, b f H = some r → b' f H = some r) : ∀ (n n' : Nat), n ≤ n' → ∀ {f : Fr} {H : AH} {r : Ex × Fr × AH}, iter b n f H = some r → iter b' n' f H = some r := by
  intro n
  induction n with
  | zero => intro n' _ f H r h; simp [iter] at h
  | succ n ih =>
    intro n' hn f H r h
    obtain ⟨m, rfl⟩ : ∃ m, n' = m + 1 := ⟨n' - 1, by omega⟩
    simp only [iter] at h ⊢
    split at h
    · rename_i h1; rw [hb _ _ _ h1]; exact ih m (by omega) h
    · rename_i h1
      rw [hb _ _ _ h]
      obtain ⟨e, f', H'⟩ := r
      cases e with
      | normal => exact absurd h (h1 _ _)
      | _ => rfl
theorem evC_mono (hc : LeC call call') {k k' : Nat} (hk : k ≤ k') : ∀ (m : MCode) {f : Fr} {H : AH} {r : Ex × Fr × AH}, evC call k m f H = some r → evC call' k' m f H = some r := by
  intro m
  induction m with
  | skip => intro f H r h; exact h
  | exit id => intro f H r h; exact h
  | ret => intro f H r h; exact h
  | ops l =>
    intro f H r h
    simp only [evC] at h ⊢
    split at h
    · rename_i h1; rw [evOps_mono hc _ h1]; exact h
    · simp at h
  | opsD l =>
    intro f H r h
    simp only [evC] at h ⊢
    split at h
    · rename_i h1; rw [evOps_mono hc _ h1]; exact h
    · simp at h
  | seq a b iha ihb =>
    intro f H r h
    simp only [evC] at h ⊢
    split at h
    · rename_i h1; rw [iha h1]; exact ihb h
    · rename_i h1
      rw [iha h]
      obtain ⟨e, f', H'⟩ := r
      cases e with
      | normal => exact absurd h (h1 _ _)
      | _ => rfl
  | cond c a b iha ihb =>
    intro f H r h
    simp only [evC] at h ⊢
    split at h
    · split at h
      · rename_i h1; rw [if_pos h1]; exact iha h
      · rename_i h1; rw [if_neg h1]; exact ihb h
    · simp at h
  | block id a ih =>
    intro f H r h
    simp only [evC] at h ⊢
    split at h
    · rename_i h1; rw [ih h1]; exact h
    · rename_i h1
      rw [ih h]
      obtain ⟨e, f', H'⟩ := r
      cases e with
      | exit i => exact absurd h (h1 _ _ _)
      | _ => rfl
  | loop a ih =>
    intro f H r h
    simp only [evC] at h ⊢
    exact iter_mono (fun _ _ _ => ih) k k' hk h
end
def NatMono (g : CallH → List Value → AH → Option (Value × AH)) : Prop := ∀ call call', LeC call call' → ∀ vs H r, g call vs H = some r → g call' vs H = some r
class TMono (tbl : Tbl) : Prop where
  nat : ∀ n g, tbl n = some (.nat g) → NatMono g
section
variable {tbl : Tbl} [hT : TMono tbl]
theorem evF_mono : ∀ {k k' : Nat}, k ≤ k' → LeC (evF tbl k) (evF tbl k') := by
  intro k
  induction k with
  | zero => intro k' _ n vs H r h; simp [evF] at h
  | succ k ih =>
    intro k' hk n vs H r h
    obtain ⟨j, rfl⟩ : ∃ j, k' = j + 1 := ⟨k' - 1, by omega⟩
    have hj : k ≤ j := by omega
    simp only [evF] at h ⊢
    split at h
    · simp at h
    · rename_i g hg; exact hT.nat _ _ hg _ _ (ih hj) _ _ _ h
    · split at h
      · rename_i h1; rw [evC_mono (ih hj) hk _ h1]; exact h
      · rename_i h1; rw [evC_mono (ih hj) hk _ h1]; exact h
      · simp at h

/-! ### Runs -/
/-- What comes next. It goes in as an instance, so that simp does not look into it. -/
class Kn (T : Type) : Type where
  k : T
def RunF (tbl : Tbl) (n : FuncId) (vs : List Value) (H : AH) [Q : Kn (Value → AH → Prop)] : Prop := ∃ k v H', evF tbl k n vs H = some (v, H') ∧ Q.k v H'
def RunC (tbl : Tbl) (m : MCode) (f : Fr) (H : AH) [Q : Kn (Ex → Fr → AH → Prop)] : Prop := ∃ k e f' H', evC (evF tbl k) k m f H = some (e, f', H') ∧ Q.k e f' H'
def RunO (tbl : Tbl) (bs : Nat) (l : List MOp) (f : Fr) (H : AH) (Q : Fr → AH → Prop) : Prop := ∃ k f' H', evOps (evF tbl k) bs l f H = some (f', H') ∧ Q f' H'
def RunP (tbl : Tbl) (m : MI) (f : Fr) (H : AH) (Q : Value → AH → Prop) : Prop := ∃ k v H', evOp (evF tbl k) m f H = some (v, H') ∧ Q v H'
/-- What a call returns. -/
def Val (tbl : Tbl) (n : FuncId) (vs : List Value) (H : AH) (v : Value) (H' : AH) : Prop := ∃ k, evF tbl k n vs H = some (v, H')
theorem Val.of_run {n : FuncId} {vs : List Value} {H : AH} {v : Value} {H' : AH} (h : (@RunF tbl n vs H ⟨fun v1 H1 => v1 = v ∧ H1 = H'⟩)) : Val tbl n vs H v H' := by
  obtain ⟨k, v1, H1, h1, rfl, rfl⟩ := h
  exact ⟨k, h1⟩
theorem Val.of_all {n : FuncId} {vs : List Value} {H : AH} {v : Value} {H' : AH} (h : ∀ Q : Value → AH → Prop, Q v H' → (@RunF tbl n vs H ⟨Q⟩)) : Val tbl n vs H v H' := .of_run (h _ ⟨rfl, rfl⟩)
theorem Val.run {n : FuncId} {vs : List Value} {H : AH} {v : Value} {H' : AH} (h : Val tbl n vs H v H') {Q : Value → AH → Prop} : (@RunF tbl n vs H ⟨Q⟩) ↔ Q v H' := by
  obtain ⟨k, hk⟩ := h
  constructor
  · rintro ⟨k2, v2, H2, h2, hq⟩
    have a := evF_mono (tbl := tbl) (Nat.le_max_left k k2) _ _ _ _ hk
    have b := evF_mono (tbl := tbl) (Nat.le_max_right k k2) _ _ _ _ h2
    rw [a] at b
    simp only [Option.some.injEq, Prod.mk.injEq] at b
    obtain ⟨rfl, rfl⟩ := b
    exact hq
  · exact fun hq => ⟨k, v, H', hk, hq⟩
theorem RunF.mono {n : FuncId} {vs : List Value} {H : AH} {Q Q' : Value → AH → Prop} (h : (@RunF tbl n vs H ⟨Q⟩)) (hq : ∀ v H', Q v H' → Q' v H') : (@RunF tbl n vs H ⟨Q'⟩) := by
  obtain ⟨k, v, H', h1, h2⟩ := h; exact ⟨k, v, H', h1, hq _ _ h2⟩
theorem RunC.mono {m : MCode} {f : Fr} {H : AH} {Q Q' : Ex → Fr → AH → Prop} (h : (@RunC tbl m f H ⟨Q⟩)) (hq : ∀ e f' H', Q e f' H' → Q' e f' H') : (@RunC tbl m f H ⟨Q'⟩) := by
  obtain ⟨k, e, f', H', h1, h2⟩ := h; exact ⟨k, e, f', H', h1, hq _ _ _ h2⟩

/-! ### Rules -/
def bindP (o : Option (Value × AH)) [K : Kn (Value → AH → Prop)] : Prop :=
  match o with
  | some (v, H') => K.k v H'
  | none => False
def condP (v : Value) [A : Kn Prop] [B : Kn Prop] : Prop :=
  match v with
  | .bool t => if t = true then A.k else B.k
  | _ => False
def guardP (v : Value) (want : Bool) [A : Kn Prop] [B : Kn Prop] : Prop :=
  match v with
  | .bool t => if t = want then A.k else B.k
  | .tuple _ => B.k
  | _ => False
def callP (tbl : Tbl) (o : Option (FuncId × List Value)) (H : AH) [K : Kn (Value → AH → Prop)] : Prop :=
  match o with
  | some (n, vs) => (@RunF tbl n vs H ⟨K.k⟩)
  | none => False
def seqQ (Q : Ex → Fr → AH → Prop) (K : Fr → AH → Prop) : Ex → Fr → AH → Prop
  | .normal, f, H => K f H
  | e, f, H => Q e f H
def blockQ (id : Nat) (Q : Ex → Fr → AH → Prop) : Ex → Fr → AH → Prop
  | .exit i, f, H => if i = id then Q .normal f H else Q (.exit i) f H
  | e, f, H => Q e f H
def normQ (K : Fr → AH → Prop) : Ex → Fr → AH → Prop
  | .normal, f, H => K f H
  | _, _, _ => False
def finQ (H : AH) (rs : List MRes) (Q : Value → AH → Prop) : Ex → Fr → AH → Prop
  | .exit _, _, _ => False
  | _, f', H' => match resL f' H' rs with
    | some vs => Q (back H H' (tupV vs)).1 (back H H' (tupV vs)).2
    | none => False
theorem bindP_some {v : Value} {H : AH} {K : Value → AH → Prop} : (@bindP (some (v, H)) ⟨K⟩) = K v H := rfl
theorem condP_true {A B : Prop} : (@condP (.bool true) ⟨A⟩ ⟨B⟩) = A := rfl
theorem condP_false {A B : Prop} : (@condP (.bool false) ⟨A⟩ ⟨B⟩) = B := rfl
/-- A parting of the ways. -/
def iteP (p : Prop) [A : Kn Prop] [B : Kn Prop] : Prop := (p → A.k) ∧ (¬p → B.k)
theorem iteP_intro {p A B : Prop} (h1 : p → A) (h2 : ¬p → B) : (@iteP p ⟨A⟩ ⟨B⟩) := ⟨h1, h2⟩
theorem iteP_true {A B : Prop} : (@iteP True ⟨A⟩ ⟨B⟩) = A := by simp [iteP]
theorem iteP_false {A B : Prop} : (@iteP False ⟨A⟩ ⟨B⟩) = B := by simp [iteP]
theorem leaf {Q : Value → AH → Prop} {v v' : Value} {H H' : AH} (hQ : Q v H) (h : v' = v) (h2 : H' = H) : Q v' H' := by rw [h, h2]; exact hQ
theorem condP_dec {p : Prop} [Decidable p] {A B : Prop} : (@condP (.bool (decide p)) ⟨A⟩ ⟨B⟩) = (@iteP p ⟨A⟩ ⟨B⟩) := by
  by_cases h : p <;> simp [condP, h, iteP]
theorem condP_not {t : Bool} {A B : Prop} : (@condP (.bool (!t)) ⟨A⟩ ⟨B⟩) = (@condP (.bool t) ⟨B⟩ ⟨A⟩) := by cases t <;> rfl
theorem guardP_dec {p : Prop} [Decidable p] {A B : Prop} : (@guardP (.bool (decide p)) true ⟨A⟩ ⟨B⟩) = (@iteP p ⟨A⟩ ⟨B⟩) := by
  by_cases h : p <;> simp [guardP, h, iteP]
theorem guardP_decf {p : Prop} [Decidable p] {A B : Prop} : (@guardP (.bool (decide p)) false ⟨A⟩ ⟨B⟩) = (@iteP p ⟨B⟩ ⟨A⟩) := by
  by_cases h : p <;> simp [guardP, h, iteP]
theorem guardP_tt {A B : Prop} : (@guardP (.bool true) true ⟨A⟩ ⟨B⟩) = A := rfl
theorem guardP_ff {A B : Prop} : (@guardP (.bool false) false ⟨A⟩ ⟨B⟩) = A := rfl
theorem guardP_tf {A B : Prop} : (@guardP (.bool true) false ⟨A⟩ ⟨B⟩) = B := rfl
theorem guardP_ft {A B : Prop} : (@guardP (.bool false) true ⟨A⟩ ⟨B⟩) = B := rfl
theorem guardP_un {w : Bool} {A B : Prop} : (@guardP undef w ⟨A⟩ ⟨B⟩) = B := rfl
theorem guardP_nt {t : Bool} {A B : Prop} : (@guardP (.bool (!t)) true ⟨A⟩ ⟨B⟩) = (@guardP (.bool t) false ⟨A⟩ ⟨B⟩) := by cases t <;> rfl
theorem guardP_nf {t : Bool} {A B : Prop} : (@guardP (.bool (!t)) false ⟨A⟩ ⟨B⟩) = (@guardP (.bool t) true ⟨A⟩ ⟨B⟩) := by cases t <;> rfl
theorem callP_some {n : FuncId} {vs : List Value} {H : AH} {K : Value → AH → Prop} : (@callP tbl (some (n, vs)) H ⟨K⟩) = (@RunF tbl n vs H ⟨K⟩) := rfl
theorem seqQ_normal {Q : Ex → Fr → AH → Prop} {K : Fr → AH → Prop} {f : Fr} {H : AH} : seqQ Q K .normal f H = K f H := rfl
theorem seqQ_exit {Q : Ex → Fr → AH → Prop} {K : Fr → AH → Prop} {i : Nat} {f : Fr} {H : AH} : seqQ Q K (.exit i) f H = Q (.exit i) f H := rfl
theorem seqQ_ret {Q : Ex → Fr → AH → Prop} {K : Fr → AH → Prop} {f : Fr} {H : AH} : seqQ Q K .ret f H = Q .ret f H := rfl
theorem blockQ_normal {id : Nat} {Q : Ex → Fr → AH → Prop} {f : Fr} {H : AH} : blockQ id Q .normal f H = Q .normal f H := rfl
theorem blockQ_exit {id i : Nat} {Q : Ex → Fr → AH → Prop} {f : Fr} {H : AH} : blockQ id Q (.exit i) f H = if i = id then Q .normal f H else Q (.exit i) f H := rfl
theorem blockQ_ret {id : Nat} {Q : Ex → Fr → AH → Prop} {f : Fr} {H : AH} : blockQ id Q .ret f H = Q .ret f H := rfl
theorem normQ_normal {K : Fr → AH → Prop} {f : Fr} {H : AH} : normQ K .normal f H = K f H := rfl

theorem evC_up {k k' : Nat} (h : k ≤ k') {m : MCode} {f : Fr} {H : AH} {r : Ex × Fr × AH} (e : evC (evF tbl k) k m f H = some r) : evC (evF tbl k') k' m f H = some r := evC_mono (evF_mono h) h m e
theorem rn_skip {f : Fr} {H : AH} {Q : Ex → Fr → AH → Prop} : (@RunC tbl .skip f H ⟨Q⟩) = Q .normal f H := by
  refine propext ⟨?_, fun h => ⟨0, .normal, f, H, rfl, h⟩⟩
  rintro ⟨k, e, f', H', h, hq⟩
  simp only [evC, Option.some.injEq, Prod.mk.injEq] at h
  obtain ⟨rfl, rfl, rfl⟩ := h; exact hq
theorem rn_exit {i : Nat} {f : Fr} {H : AH} {Q : Ex → Fr → AH → Prop} : (@RunC tbl (.exit i) f H ⟨Q⟩) = Q (.exit i) f H := by
  refine propext ⟨?_, fun h => ⟨0, .exit i, f, H, rfl, h⟩⟩
  rintro ⟨k, e, f', H', h, hq⟩
  simp only [evC, Option.some.injEq, Prod.mk.injEq] at h
  obtain ⟨rfl, rfl, rfl⟩ := h; exact hq
theorem rn_ret {f : Fr} {H : AH} {Q : Ex → Fr → AH → Prop} : (@RunC tbl .ret f H ⟨Q⟩) = Q .ret f H := by
  refine propext ⟨?_, fun h => ⟨0, .ret, f, H, rfl, h⟩⟩
  rintro ⟨k, e, f', H', h, hq⟩
  simp only [evC, Option.some.injEq, Prod.mk.injEq] at h
  obtain ⟨rfl, rfl, rfl⟩ := h; exact hq
theorem rn_seq {a b : MCode} {f : Fr} {H : AH} {Q : Ex → Fr → AH → Prop} : (@RunC tbl (.seq a b) f H ⟨Q⟩) = (@RunC tbl a f H ⟨seqQ Q fun f' H' => (@RunC tbl b f' H' ⟨Q⟩)⟩) := by
  refine propext ⟨?_, ?_⟩
  · rintro ⟨k, e, f', H', h, hq⟩
    simp only [evC] at h
    split at h
    · rename_i f1 H1 h1; exact ⟨k, .normal, f1, H1, h1, k, e, f', H', h, hq⟩
    · rename_i h1
      refine ⟨k, e, f', H', h, ?_⟩
      cases e with
      | normal => exact absurd h (h1 _ _)
      | _ => exact hq
  · rintro ⟨k, e, f1, H1, h1, hq⟩
    cases e with
    | normal =>
      obtain ⟨k2, e, f', H', h2, hq⟩ := hq
      refine ⟨max k k2, e, f', H', ?_, hq⟩
      simp only [evC, evC_up (Nat.le_max_left k k2) h1]
      exact evC_up (Nat.le_max_right k k2) h2
    | exit i => exact ⟨k, .exit i, f1, H1, by simp only [evC, h1], hq⟩
    | ret => exact ⟨k, .ret, f1, H1, by simp only [evC, h1], hq⟩
theorem rn_cond {c : Operand} {a b : MCode} {f : Fr} {H : AH} {Q : Ex → Fr → AH → Prop} : (@RunC tbl (.cond c a b) f H ⟨Q⟩) = (@condP (ev f c) ⟨(@RunC tbl a f H ⟨Q⟩)⟩ ⟨(@RunC tbl b f H ⟨Q⟩)⟩) := by
  refine propext ⟨?_, ?_⟩
  · rintro ⟨k, e, f', H', h, hq⟩
    simp only [evC] at h
    split at h
    · rename_i t ht
      rw [ht]
      simp only [condP]
      split at h
      · rename_i h1; rw [if_pos h1]; exact ⟨k, e, f', H', h, hq⟩
      · rename_i h1; rw [if_neg h1]; exact ⟨k, e, f', H', h, hq⟩
    · simp at h
  · intro h
    cases hc : ev f c <;> rw [hc] at h <;> simp only [condP] at h
    rename_i t
    split at h
    · rename_i h1
      obtain ⟨k, e, f', H', h, hq⟩ := h
      exact ⟨k, e, f', H', by simp only [evC, hc, h1, if_true]; exact h, hq⟩
    · rename_i h1
      obtain ⟨k, e, f', H', h, hq⟩ := h
      exact ⟨k, e, f', H', by simp only [evC, hc, h1]; exact h, hq⟩
theorem rn_block {id : Nat} {a : MCode} {f : Fr} {H : AH} {Q : Ex → Fr → AH → Prop} : (@RunC tbl (.block id a) f H ⟨Q⟩) = (@RunC tbl a f H ⟨blockQ id Q⟩) := by
  refine propext ⟨?_, ?_⟩
  · rintro ⟨k, e, f', H', h, hq⟩
    simp only [evC] at h
    split at h
    · rename_i i f1 H1 h1
      refine ⟨k, .exit i, f1, H1, h1, ?_⟩
      simp only [blockQ]
      split at h
      · rename_i hi
        simp only [Option.some.injEq, Prod.mk.injEq] at h
        obtain ⟨rfl, rfl, rfl⟩ := h
        rw [if_pos hi]; exact hq
      · rename_i hi
        simp only [Option.some.injEq, Prod.mk.injEq] at h
        obtain ⟨rfl, rfl, rfl⟩ := h
        rw [if_neg hi]; exact hq
    · rename_i h1
      refine ⟨k, e, f', H', h, ?_⟩
      cases e with
      | exit i => exact absurd h (h1 _ _ _)
      | _ => exact hq
  · rintro ⟨k, e, f1, H1, h1, hq⟩
    cases e with
    | normal => exact ⟨k, .normal, f1, H1, by simp only [evC, h1], hq⟩
    | ret => exact ⟨k, .ret, f1, H1, by simp only [evC, h1], hq⟩
    | exit i =>
      simp only [blockQ] at hq
      split at hq
      · rename_i hi; exact ⟨k, .normal, f1, H1, by simp only [evC, h1, hi, if_true], hq⟩
      · rename_i hi; exact ⟨k, .exit i, f1, H1, by simp only [evC, h1, hi, if_false], hq⟩
theorem rn_ops {l : List MOp} {f : Fr} {H : AH} {Q : Ex → Fr → AH → Prop} : (@RunC tbl (.ops l) f H ⟨Q⟩) = RunO tbl H.next l f H fun f' H' => Q .normal f' H' := by
  refine propext ⟨?_, ?_⟩
  · rintro ⟨k, e, f', H', h, hq⟩
    simp only [evC] at h
    split at h
    · rename_i f1 H1 h1
      simp only [Option.some.injEq, Prod.mk.injEq] at h
      obtain ⟨rfl, rfl, rfl⟩ := h
      exact ⟨k, _, _, h1, hq⟩
    · simp at h
  · rintro ⟨k, f', H', h, hq⟩
    exact ⟨k, .normal, f', H', by simp only [evC, h], hq⟩
theorem rn_opsD {l : List MOp} {f : Fr} {H : AH} {Q : Ex → Fr → AH → Prop} : (@RunC tbl (.opsD l) f H ⟨Q⟩) = RunO tbl H.next l f H fun f' H' => Q .normal f' H' := rn_ops
theorem rn_nil {bs : Nat} {f : Fr} {H : AH} {Q : Fr → AH → Prop} : RunO tbl bs [] f H Q = Q f H := by
  refine propext ⟨?_, fun h => ⟨0, f, H, rfl, h⟩⟩
  rintro ⟨k, f', H', h, hq⟩
  simp only [evOps, Option.some.injEq, Prod.mk.injEq] at h
  obtain ⟨rfl, rfl⟩ := h; exact hq
theorem rn_cons {bs : Nat} {o : MOp} {l : List MOp} {f : Fr} {H : AH} {Q : Fr → AH → Prop} : RunO tbl bs (o :: l) f H Q ↔ ∃ k v H', evV (evF tbl k) bs o f H = some (v, H') ∧ RunO tbl bs l (put f o.dst v) H' Q := by
  constructor
  · rintro ⟨k, f', H', h, hq⟩
    simp only [evOps] at h
    split at h
    · rename_i f1 H1 h1
      unfold evMOp at h1
      split at h1
      · rename_i v H2 h2
        simp only [Option.some.injEq, Prod.mk.injEq] at h1
        obtain ⟨rfl, rfl⟩ := h1
        exact ⟨k, v, H2, h2, k, f', H', h, hq⟩
      · simp at h1
    · simp at h
  · rintro ⟨k, v, H1, h1, k2, f', H', h2, hq⟩
    refine ⟨max k k2, f', H', ?_, hq⟩
    simp only [evOps, evMOp, evV_mono (evF_mono (Nat.le_max_left k k2)) h1]
    exact evOps_mono (evF_mono (Nat.le_max_right k k2)) _ h2
theorem rn_plain {bs : Nat} {d : Option Tmp} {m : MI} {l : List MOp} {f : Fr} {H : AH} {Q : Fr → AH → Prop} : RunO tbl bs (⟨d, none, false, m⟩ :: l) f H Q = RunP tbl m f H fun v H' => RunO tbl bs l (put f d v) H' Q := by
  refine propext (rn_cons.trans ?_)
  simp only [evV, evG, Bool.false_eq_true, if_false, RunP]
def oldP (l : List Nat) (bs : Nat) [A : Kn (Prop)] : Prop := if l.all (fun b => decide (b < bs)) = true then A.k else False
theorem rn_old {bs : Nat} {d : Option Tmp} {m : MI} {l : List MOp} {f : Fr} {H : AH} {Q : Fr → AH → Prop} : RunO tbl bs (⟨d, none, true, m⟩ :: l) f H Q = (@oldP (m.rdBlk f) bs ⟨RunP tbl m f H fun v H' => RunO tbl bs l (put f d v) H' Q⟩) := by
  refine propext (rn_cons.trans ?_)
  simp only [evV, evG, if_true, RunP, oldP]
  split
  · exact Iff.rfl
  · simp
theorem rn_guard {bs : Nat} {d : Option Tmp} {t : Tmp} {want : Bool} {m : MI} {l : List MOp} {f : Fr} {H : AH} {Q : Fr → AH → Prop} : RunO tbl bs (⟨d, some (t, want), false, m⟩ :: l) f H Q = (@guardP (f t) want ⟨RunP tbl m f H fun v H' => RunO tbl bs l (put f d v) H' Q⟩ ⟨RunO tbl bs l (put f d undef) H Q⟩) := by
  refine propext (rn_cons.trans ?_)
  simp only [evV, evG, Bool.false_eq_true, if_false]
  cases hv : f t with
  | bool b =>
    simp only [guardP]
    split
    · exact Iff.rfl
    · simp only [Option.some.injEq, Prod.mk.injEq]
      exact ⟨fun ⟨k, v, H', ⟨h1, h2⟩, h3⟩ => by rw [h1, h2]; exact h3, fun h => ⟨0, _, _, ⟨rfl, rfl⟩, h⟩⟩
  | tuple vs =>
    simp only [guardP, Option.some.injEq, Prod.mk.injEq]
    exact ⟨fun ⟨k, v, H', ⟨h1, h2⟩, h3⟩ => by rw [h1, h2]; exact h3, fun h => ⟨0, _, _, ⟨rfl, rfl⟩, h⟩⟩
  | _ => simp [guardP]
theorem rn_guardOld {bs : Nat} {d : Option Tmp} {t : Tmp} {want : Bool} {m : MI} {l : List MOp} {f : Fr} {H : AH} {Q : Fr → AH → Prop} : RunO tbl bs (⟨d, some (t, want), true, m⟩ :: l) f H Q = (@guardP (f t) want ⟨(@oldP (m.rdBlk f) bs ⟨RunP tbl m f H fun v H' => RunO tbl bs l (put f d v) H' Q⟩)⟩ ⟨RunO tbl bs l (put f d undef) H Q⟩) := by
  refine propext (rn_cons.trans ?_)
  simp only [evV, evG, if_true]
  cases hv : f t with
  | bool b =>
    simp only [guardP]
    split
    · rename_i h
      simp only [h, if_true, oldP]
      split
      · rfl
      · simp
    · rename_i h
      simp only [h, if_false, Option.some.injEq, Prod.mk.injEq]
      exact ⟨fun ⟨k, v, H', ⟨h1, h2⟩, h3⟩ => by rw [h1, h2]; exact h3, fun h => ⟨0, _, _, ⟨rfl, rfl⟩, h⟩⟩
  | tuple vs =>
    simp only [guardP, Option.some.injEq, Prod.mk.injEq]
    exact ⟨fun ⟨k, v, H', ⟨h1, h2⟩, h3⟩ => by rw [h1, h2]; exact h3, fun h => ⟨0, _, _, ⟨rfl, rfl⟩, h⟩⟩
  | _ => simp [guardP]
theorem rn_op {m : MI} (hm : m.isCall = false) {f : Fr} {H : AH} {K : Value → AH → Prop} : RunP tbl m f H K = (@bindP (evM m f H) ⟨K⟩) := by
  unfold RunP
  simp only [evOp_evM hm]
  cases h : evM m f H with
  | none => simp [bindP]
  | some p =>
    obtain ⟨v, H'⟩ := p
    simp only [bindP, Option.some.injEq, Prod.mk.injEq]
    exact propext ⟨fun ⟨k, v1, H1, ⟨h1, h2⟩, h3⟩ => by rw [h1, h2]; exact h3, fun h => ⟨0, _, _, ⟨rfl, rfl⟩, h⟩⟩
theorem rn_call {g : Operand} {args : List Operand} {f : Fr} {H : AH} {K : Value → AH → Prop} : RunP tbl (.call false g args) f H K = (@callP tbl (callee f g args) H ⟨K⟩) := by
  unfold RunP
  simp only [evOp, Bool.false_eq_true, if_false]
  cases callee f g args with
  | none => simp [callP]
  | some p => rfl
theorem rn_callP {g : Operand} {args : List Operand} {f : Fr} {H : AH} {K : Value → AH → Prop} : RunP tbl (.call true g args) f H K = (@callP tbl (callee f g args) H.enter ⟨fun v H' => H'.low = H.next ∧ K v { H' with low := H.low }⟩) := by
  unfold RunP
  simp only [evOp, if_true]
  cases callee f g args with
  | none => simp [callP]
  | some p =>
    simp only [callP, RunF]
    refine propext ⟨?_, ?_⟩
    · rintro ⟨k, v, H', h, hq⟩
      split at h
      · rename_i v1 H1 h1
        split at h
        · rename_i hl
          simp only [Option.some.injEq, Prod.mk.injEq] at h
          obtain ⟨rfl, rfl⟩ := h
          exact ⟨k, v1, H1, h1, hl, hq⟩
        · simp at h
      · simp at h
    · rintro ⟨k, v, H', h, hl, hq⟩
      exact ⟨k, v, _, by simp only [h, hl, if_true], hq⟩
def loneP (tbl : Tbl) (o : Option (FuncId × List Value)) [K : Kn (Value → Prop)] : Prop :=
  match o with
  | some (n, vs) => vs.all p1 = true ∧ (@RunF tbl n vs AH.lone ⟨fun v _ => p3 v = true ∧ K.k v⟩)
  | none => False
theorem rn_callL {g : Operand} {args : List Operand} {f : Fr} {H : AH} {K : Value → AH → Prop} : RunP tbl (.callL g args) f H K = (@loneP tbl (callee f g args) ⟨fun v => K v H⟩) := by
  unfold RunP
  simp only [evOp]
  cases callee f g args with
  | none => simp [loneP]
  | some p =>
    simp only [loneP, RunF]
    refine propext ⟨?_, ?_⟩
    · rintro ⟨k, v, H', h, hq⟩
      split at h
      · rename_i hp
        split at h
        · rename_i v1 H1 h1
          split at h
          · rename_i h3
            simp only [Option.some.injEq, Prod.mk.injEq] at h
            obtain ⟨rfl, rfl⟩ := h
            exact ⟨hp, k, v1, H1, h1, h3, hq⟩
          · simp at h
        · simp at h
      · simp at h
    · rintro ⟨hp, k, v, H', h, h3, hq⟩
      exact ⟨k, v, H, by simp only [hp, h, h3, if_true], hq⟩
theorem rn_fn {n : FuncId} {m : MFun} (hm : tbl n = some (.code m)) {vs : List Value} {H : AH} {Q : Value → AH → Prop} : (@RunF tbl n vs H ⟨Q⟩) = (@RunC tbl m.code (entry vs) H.enter ⟨finQ H m.results Q⟩) := by
  refine propext ⟨?_, ?_⟩
  · rintro ⟨k, v, H', h, hq⟩
    cases k with
    | zero => simp [evF] at h
    | succ k =>
      simp only [evF, hm] at h
      have up : ∀ {r}, evC (evF tbl k) (k + 1) m.code (entry vs) H.enter = some r → evC (evF tbl (k + 1)) (k + 1) m.code (entry vs) H.enter = some r := fun h => evC_mono (evF_mono (Nat.le_succ k)) (Nat.le_refl _) _ h
      split at h
      · rename_i f1 H1 h1
        split at h
        · rename_i rv hr
          simp only [Option.some.injEq] at h
          exact ⟨k + 1, _, _, _, up h1, by simp only [finQ, hr, h]; exact hq⟩
        · simp at h
      · rename_i f1 H1 h1
        split at h
        · rename_i rv hr
          simp only [Option.some.injEq] at h
          exact ⟨k + 1, _, _, _, up h1, by simp only [finQ, hr, h]; exact hq⟩
        · simp at h
      · simp at h
  · rintro ⟨k, e, f', H', h, hq⟩
    have h2 := evC_mono (LeC.refl _) (Nat.le_succ k) _ h
    cases e with
    | exit i => exact hq.elim
    | normal =>
      simp only [finQ] at hq
      split at hq
      · rename_i rv hr; exact ⟨k + 1, _, _, by simp only [evF, hm, h2, hr], hq⟩
      · exact hq.elim
    | ret =>
      simp only [finQ] at hq
      split at hq
      · rename_i rv hr; exact ⟨k + 1, _, _, by simp only [evF, hm, h2, hr], hq⟩
      · exact hq.elim
theorem rn_fun {n : FuncId} {c : MCode} {rs : List MRes} (hm : tbl n = some (.code ⟨c, rs⟩)) {vs : List Value} {H : AH} {Q : Value → AH → Prop} : (@RunF tbl n vs H ⟨Q⟩) = (@RunC tbl c (entry vs) H.enter ⟨finQ H rs Q⟩) := rn_fn hm
theorem rn_round {a : MCode} {f : Fr} {H : AH} {Q : Ex → Fr → AH → Prop} : (@RunC tbl (.loop a) f H ⟨Q⟩) = (@RunC tbl a f H ⟨seqQ Q fun f' H' => (@RunC tbl (.loop a) f' H' ⟨Q⟩)⟩) := by
  refine propext ⟨?_, ?_⟩
  · rintro ⟨k, e, f', H', h, hq⟩
    simp only [evC] at h
    cases hk : k with
    | zero => rw [hk] at h; simp [iter] at h
    | succ j =>
      rw [hk] at h
      simp only [iter] at h
      split at h
      · rename_i f1 H1 h1
        refine ⟨j + 1, .normal, f1, H1, h1, j + 1, e, f', H', ?_, hq⟩
        simp only [evC]
        exact iter_mono (fun _ _ _ h => h) j (j + 1) (Nat.le_succ j) h
      · rename_i h1
        refine ⟨j + 1, e, f', H', h, ?_⟩
        cases e with
        | normal => exact absurd h (h1 _ _)
        | _ => exact hq
  · rintro ⟨k, e, f1, H1, h1, hq⟩
    have one : ∀ {r}, evC (evF tbl k) k a f H = some r → evC (evF tbl (k + 1)) (k + 1) a f H = some r := fun h => evC_up (Nat.le_succ k) h
    cases e with
    | normal =>
      obtain ⟨k2, e, f', H', h2, hq⟩ := hq
      refine ⟨max k k2 + 1, e, f', H', ?_, hq⟩
      simp only [evC, iter]
      rw [evC_up (Nat.le_trans (Nat.le_max_left k k2) (Nat.le_succ _)) h1]
      simp only [evC] at h2
      refine iter_mono (fun _ _ _ h => evC_up (Nat.le_trans (Nat.le_max_right k k2) (Nat.le_succ _)) h) k2 _ (Nat.le_max_right k k2) h2
    | exit i => exact ⟨k + 1, .exit i, f1, H1, by simp only [evC, iter, one h1], hq⟩
    | ret => exact ⟨k + 1, .ret, f1, H1, by simp only [evC, iter, one h1], hq⟩
/-- The next round. -/
def NextI (n : Nat) (f : Fr) (H : AH) [I : Kn (Nat → Fr → AH → Prop)] : Prop := ∃ n', n' < n ∧ I.k n' f H
theorem rn_loop {a : MCode} {Q : Ex → Fr → AH → Prop} (I : Nat → Fr → AH → Prop) (h : ∀ n f H, I n f H → (@RunC tbl a f H ⟨seqQ Q fun f' H' => @NextI n f' H' ⟨I⟩⟩)) : ∀ {n f H}, I n f H → (@RunC tbl (.loop a) f H ⟨Q⟩) := by
  intro n
  induction n using Nat.strongRecOn with
  | _ n ih =>
    intro f H hi
    rw [rn_round]
    refine (h n f H hi).mono fun e f' H' hq => ?_
    cases e with
    | normal => obtain ⟨n', h1, h2⟩ := hq; exact ih n' h1 h2
    | _ => exact hq
end
end Go.Proofs.Ytidpkoaomfbljaa.AM
/- Rules for reckoning, one for each operation. -/
namespace Go.Proofs.Ytidpkoaomfbljaa.AM
open Go
set_option linter.all false
section
variable {tbl : Tbl} [hT : TMono tbl]

def letP (v : Value) [K : Kn (Value → Prop)] : Prop := K.k v
def bindV (o : Option Value) [K : Kn (Value → Prop)] : Prop :=
  match o with
  | some v => K.k v
  | none => False
theorem letP_eq {v : Value} {K : Value → Prop} : (@letP v ⟨K⟩) = K v := rfl
theorem bindV_some {v : Value} {K : Value → Prop} : (@bindV (some v) ⟨K⟩) = K v := rfl
theorem bindV_ite {p : Prop} [Decidable p] {x y : Option Value} {K : Value → Prop} : (@bindV (if p then x else y) ⟨K⟩) = if p then (@bindV x ⟨K⟩) else (@bindV y ⟨K⟩) := by split <;> rfl
theorem bindV_none {K : Value → Prop} : (@bindV none ⟨K⟩) = False := rfl
theorem bindP_none {K : Value → AH → Prop} : (@bindP none ⟨K⟩) = False := rfl
theorem bindP_ite {p : Prop} [Decidable p] {x y : Option (Value × AH)} {K : Value → AH → Prop} : (@bindP (if p then x else y) ⟨K⟩) = if p then (@bindP x ⟨K⟩) else (@bindP y ⟨K⟩) := by split <;> rfl

def pickP (v a b : Value) [K : Kn (Value → Prop)] : Prop :=
  match v with
  | .bool t => K.k (if t = true then a else b)
  | _ => False
theorem pickP_true {a b : Value} {K : Value → Prop} : (@pickP (.bool true) a b ⟨K⟩) = K a := rfl
theorem pickP_false {a b : Value} {K : Value → Prop} : (@pickP (.bool false) a b ⟨K⟩) = K b := rfl
theorem pickP_dec {p : Prop} [Decidable p] {a b : Value} {K : Value → Prop} : (@pickP (.bool (decide p)) a b ⟨K⟩) = (@iteP p ⟨K a⟩ ⟨K b⟩) := by
  by_cases h : p <;> simp [pickP, h, iteP]
theorem pickP_not {t : Bool} {a b : Value} {K : Value → Prop} : (@pickP (.bool (!t)) a b ⟨K⟩) = (@pickP (.bool t) b a ⟨K⟩) := by cases t <;> rfl
def intP (v : Value) [K : Kn (Int → Prop)] : Prop :=
  match v with
  | .int _ n => K.k n
  | _ => False
theorem intP_int {k : IntKind} {n : Int} {K : Int → Prop} : (@intP (.int k n) ⟨K⟩) = K n := rfl
def strP (v : Value) [K : Kn (ByteArray → Prop)] : Prop :=
  match v with
  | .string s => K.k s
  | _ => False
theorem strP_str {s : ByteArray} {K : ByteArray → Prop} : (@strP (.string s) ⟨K⟩) = K s := rfl
def ptrP (v : Value) [K : Kn (Addr → Prop)] : Prop :=
  match v with
  | .pointer (some a) => K.k a
  | _ => False
theorem ptrP_ptr {a : Addr} {K : Addr → Prop} : (@ptrP (.pointer (some a)) ⟨K⟩) = K a := rfl
def optP {α : Type} (o : Option α) [K : Kn (α → Prop)] : Prop :=
  match o with
  | some a => K.k a
  | none => False
theorem optP_some {α : Type} {a : α} {K : α → Prop} : (@optP _ (some a) ⟨K⟩) = K a := rfl
theorem optP_none {α : Type} {K : α → Prop} : (@optP _ none ⟨K⟩) = False := rfl
theorem optP_ite {α : Type} {p : Prop} [Decidable p] {x y : Option α} {K : α → Prop} : (@optP _ (if p then x else y) ⟨K⟩) = if p then (@optP _ x ⟨K⟩) else (@optP _ y ⟨K⟩) := by split <;> rfl
theorem oldP_nil {bs : Nat} {A : Prop} : (@oldP [] bs ⟨A⟩) = A := rfl
theorem oldP_one {b bs : Nat} {A : Prop} : (@oldP [b] bs ⟨A⟩) = if b < bs then A else False := by
  unfold oldP; simp only [List.all_cons, List.all_nil, Bool.and_true, decide_eq_true_eq]
def andP (p : Prop) [A : Kn Prop] : Prop := p ∧ A.k
theorem andP_true {A : Prop} : (@andP True ⟨A⟩) = A := by simp [andP]
theorem bindP_if {c : Prop} [Decidable c] {v : Value} {H : AH} {K : Value → AH → Prop} : (@bindP (if c then some (v, H) else none) ⟨K⟩) = (@andP c ⟨K v H⟩) := by
  by_cases h : c <;> simp [h, bindP, andP]
variable {f : Fr} {H : AH} {K : Value → AH → Prop}
theorem rn_mov {x : Operand} : RunP tbl (.mov x) f H K = (@letP (ev f x) ⟨fun v => K v H⟩) := rn_op rfl
theorem rn_pick {c a b : Operand} : RunP tbl (.pick c a b) f H K = (@pickP (ev f c) (ev f a) (ev f b) ⟨fun v => K v H⟩) := by
  rw [rn_op rfl]; simp only [evM]
  cases ev f c <;> rfl
theorem rn_bin {tk : TK} {op : BinOp} {x y : Operand} : RunP tbl (.bin tk op x y) f H K = (@bindV (binV tk op (ev f x) (ev f y)) ⟨fun v => K v H⟩) := by
  rw [rn_op rfl]; simp only [evM]
  cases binV tk op (ev f x) (ev f y) <;> rfl
def aggV (neq : Bool) (offs : List (Nat × TK)) : Value → Value → Option Value
  | .agg a, .agg b => (match eqAt a.toList b.toList offs with | some t => some (.bool (if neq = true then !t else t)) | none => none)
  | _, _ => none
theorem rn_eqc {neq : Bool} {offs : List (Nat × TK)} {x y : Operand} : RunP tbl (.eqc neq offs x y) f H K = (@bindV (aggV neq offs (ev f x) (ev f y)) ⟨fun v => K v H⟩) := by
  rw [rn_op rfl]; simp only [evM, aggV]
  cases ev f x <;> try rfl
  cases ev f y <;> try rfl
  rename_i a b
  simp only
  cases eqAt a.toList b.toList offs <;> rfl
theorem rn_un {op : UnOp} {x : Operand} : RunP tbl (.un op x) f H K = (@bindV (unV op (ev f x)) ⟨fun v => K v H⟩) := by
  rw [rn_op rfl]; simp only [evM]
  cases unV op (ev f x) <;> rfl
theorem rn_conv {k : IntKind} {x : Operand} : RunP tbl (.conv k x) f H K = (@intP (ev f x) ⟨fun n => (@letP (.int k (k.wrap n)) ⟨fun v => K v H⟩)⟩) := by
  rw [rn_op rfl]; simp only [evM]
  cases ev f x <;> rfl
theorem rn_strMov {x : Operand} : RunP tbl (.strMov x) f H K = (@strP (ev f x) ⟨fun s => K (.string s) H⟩) := by
  rw [rn_op rfl]; simp only [evM]
  cases ev f x <;> rfl
def slcBytes (H : AH) : Value → Option ByteArray
  | .slice none _ _ => some ⟨#[]⟩
  | .slice (some a) n _ => (match ldc H a n with
      | some l => (match bytesOf l with | some bs => some ⟨bs.toArray⟩ | none => none)
      | none => none)
  | _ => none
theorem rn_toStr {x : Operand} : RunP tbl (.toStr x) f H K = (@optP _ (slcBytes H (ev f x)) ⟨fun s => K (.string s) H⟩) := by
  rw [rn_op rfl]; simp only [evM, slcBytes]
  cases ev f x <;> try rfl
  rename_i a n c
  cases a <;> try rfl
  rename_i a
  simp only
  cases ldc H a n <;> try rfl
  rename_i l
  simp only
  cases bytesOf l <;> rfl
theorem rn_toBytes {x : Operand} : RunP tbl (.toBytes x) f H K = (@strP (ev f x) ⟨fun s => (@andP (s.size ≤ 140737488355328) ⟨K (.slice (some ⟨H.next, 0, none⟩) s.size s.size) (H.push ⟨byteCells s, 1, false⟩)⟩)⟩) := by
  rw [rn_op rfl]; simp only [evM]
  cases ev f x <;> try rfl
  exact bindP_if
theorem rn_alloc {zero : List Value} {es : Nat} : RunP tbl (.alloc zero es) f H K = K (.pointer (some ⟨H.next, 0, none⟩)) (H.push ⟨zero, es, false⟩) := rn_op rfl
theorem rn_box {es : Nat} {x : Operand} : RunP tbl (.box es x) f H K = (@letP (ev f x) ⟨fun v => (@andP (v.cells.toList.all one = true) ⟨K (.pointer (some ⟨H.next, 0, none⟩)) (H.push ⟨v.cells.toList, es, false⟩)⟩)⟩) := by
  rw [rn_op rfl]; simp only [evM, letP]
  exact bindP_if
def partsV (f : Fr) : List (Nat × Nat × Operand) → List (Nat × Nat × Value)
  | [] => []
  | p :: r => (p.1, p.2.1, ev f p.2.2) :: partsV f r
theorem partsV_eq (ps : List (Nat × Nat × Operand)) : (ps.map fun p => (p.1, p.2.1, ev f p.2.2)) = partsV f ps := by
  induction ps with
  | nil => rfl
  | cons p r ih => simp only [List.map_cons, partsV, ih]
theorem rn_build {zero : List Value} {parts : List (Nat × Nat × Operand)} : RunP tbl (.build zero parts) f H K = (@optP _ (fillC zero (partsV f parts)) ⟨fun cs => K (.agg cs.toArray) H⟩) := by
  rw [rn_op rfl]; simp only [evM, partsV_eq]
  cases fillC zero (partsV f parts) <;> rfl
theorem rn_buildSlice {zero : List Value} {es n : Nat} {parts : List (Nat × Nat × Operand)} : RunP tbl (.buildSlice zero es n parts) f H K = (@optP _ (fillC zero (partsV f parts)) ⟨fun cs => (@andP (cs.all one = true) ⟨K (.slice (some ⟨H.next, 0, none⟩) n n) (H.push ⟨cs, es, false⟩)⟩)⟩) := by
  rw [rn_op rfl]; simp only [evM, partsV_eq]
  cases fillC zero (partsV f parts) <;> try rfl
  exact bindP_if
theorem rn_load {agg : Bool} {n : Nat} {a : Operand} : RunP tbl (.load agg n a) f H K = (@ptrP (ev f a) ⟨fun p => (@optP _ (ldc H p n) ⟨fun cs => (@bindV (oneOf agg cs) ⟨fun v => K v H⟩)⟩)⟩) := by
  rw [rn_op rfl]; simp only [evM]
  cases ev f a <;> try rfl
  rename_i p
  cases p <;> try rfl
  rename_i p
  simp only [ptrP]
  cases ldc H p n <;> try rfl
  rename_i cs
  simp only [optP]
  cases oneOf agg cs <;> rfl
theorem rn_store {n : Nat} {a x : Operand} : RunP tbl (.store n a x) f H K = (@ptrP (ev f a) ⟨fun p => (@letP (ev f x) ⟨fun v => (@andP (v.cells.size = n) ⟨(@optP _ (stc H p v.cells.toList) ⟨fun H' => K undef H'⟩)⟩)⟩)⟩) := by
  rw [rn_op rfl]; simp only [evM]
  cases ev f a <;> try rfl
  rename_i p
  cases p <;> try rfl
  rename_i p
  simp only [ptrP, letP, andP]
  split
  · rename_i h
    simp only [h, true_and]
    cases stc H p (ev f x).cells.toList <;> rfl
  · rename_i h; simp [h, bindP]
def farV (v : Value) (b : Nat) : Bool := match v with | .pointer (some q) => decide (q.block ≠ b) | _ => false
theorem farB_nil {b : Nat} : farB f [] b = true := rfl
theorem farB_cons {t : Tmp} {r : List Tmp} {b : Nat} : farB f (t :: r) b = (farV (f t) b && farB f r b) := rfl
theorem farV_ptr {q : Addr} {b : Nat} : farV (.pointer (some q)) b = decide (q.block ≠ b) := rfl
theorem rn_storeX {n : Nat} {a x : Operand} {far : List Tmp} : RunP tbl (.storeX n a x far) f H K = (@ptrP (ev f a) ⟨fun p => (@andP (farB f far p.block = true) ⟨(@letP (ev f x) ⟨fun v => (@andP (v.cells.size = n) ⟨(@optP _ (stc H p v.cells.toList) ⟨fun H' => K undef H'⟩)⟩)⟩)⟩)⟩) := by
  rw [rn_op rfl]; simp only [evM]
  cases ev f a <;> try rfl
  rename_i p
  cases p <;> try rfl
  rename_i p
  simp only [ptrP, letP, andP]
  split
  · rename_i h0
    simp only [h0, true_and]
    split
    · rename_i h
      simp only [h, true_and]
      cases stc H p (ev f x).cells.toList <;> rfl
    · rename_i h; simp [h, bindP]
  · rename_i h; simp [h, bindP]
theorem rn_boxDead {x : Operand} : RunP tbl (.boxDead x) f H K = (@andP (0 < H.next ∧ (H.get 0).isNone = true) ⟨K (.pointer (some ⟨0, 0, none⟩)) H⟩) := by
  rw [rn_op rfl]; simp only [evM]
  exact bindP_if
theorem rn_newMap : RunP tbl .newMap f H K = K (.map (some 0)) H := rn_op rfl
def nilV : Value → Option Value
  | .pointer (some p) => some (.pointer (some p))
  | .func (.func g) a b => some (.func (.func g) a b)
  | _ => none
theorem rn_nilCheck {x : Operand} : RunP tbl (.nilCheck x) f H K = (@bindV (nilV (ev f x)) ⟨fun v => K v H⟩) := by
  rw [rn_op rfl]; simp only [evM, nilV]
  cases ev f x <;> try rfl
  · rename_i p; cases p <;> rfl
  · rename_i fn a b; cases fn <;> rfl
theorem rn_addOff {o : Nat} {x : Operand} : RunP tbl (.addOff o x) f H K = (@ptrP (ev f x) ⟨fun p => K (.pointer (some (addA p o))) H⟩) := by
  rw [rn_op rfl]; simp only [evM]
  cases ev f x <;> try rfl
  rename_i p; cases p <;> rfl
def idxSP (v : Value) (es : Nat) (i : Int) [K : Kn (Value → Prop)] : Prop :=
  match v with
  | .slice (some a) n _ => (@andP (0 ≤ i ∧ i < n) ⟨K.k (.pointer (some (addA a (i.toNat * es))))⟩)
  | _ => False
theorem rn_idxS {es : Nat} {x i : Operand} : RunP tbl (.idxS es x i) f H K = (@intP (ev f i) ⟨fun j => (@letP (ev f x) ⟨fun v => (@idxSP v es j ⟨fun v => K v H⟩)⟩)⟩) := by
  rw [rn_op rfl]; simp only [evM, letP]
  cases ev f i <;> (cases ev f x <;> try rfl)
  all_goals rename_i a n c; cases a
  all_goals try rfl
  all_goals exact bindP_if
theorem rn_idxA {len es : Nat} {x i : Operand} : RunP tbl (.idxA len es x i) f H K = (@intP (ev f i) ⟨fun j => (@ptrP (ev f x) ⟨fun a => (@andP (0 ≤ j ∧ j < len) ⟨K (.pointer (some (addA a (j.toNat * es)))) H⟩)⟩)⟩) := by
  rw [rn_op rfl]; simp only [evM]
  cases ev f i <;> (cases ev f x <;> try rfl)
  all_goals rename_i a; cases a
  all_goals try rfl
  all_goals exact bindP_if
def fieldV (agg : Bool) (off n : Nat) : Value → Option Value
  | .agg cs => if off + n ≤ cs.size then oneOf agg ((cs.toList.drop off).take n) else none
  | _ => none
theorem rn_field {agg : Bool} {off n : Nat} {x : Operand} : RunP tbl (.field agg off n x) f H K = (@bindV (fieldV agg off n (ev f x)) ⟨fun v => K v H⟩) := by
  rw [rn_op rfl]; simp only [evM, fieldV]
  cases ev f x <;> try rfl
  simp only
  split
  · cases oneOf agg _ <;> rfl
  · rfl
/-- A byte of a text. -/
def byteAt (s : ByteArray) (j : Int) : Int := (s.data.toList.getD j.toNat 0).toNat
theorem rn_strIdx {x i : Operand} : RunP tbl (.strIdx x i) f H K = (@strP (ev f x) ⟨fun s => (@intP (ev f i) ⟨fun j => (@andP (0 ≤ j ∧ j < s.size) ⟨K (.int .u8 (byteAt s j)) H⟩)⟩)⟩) := by
  rw [rn_op rfl]; simp only [evM]
  cases ev f x <;> try rfl
  cases ev f i <;> try rfl
  exact bindP_if
def aggAt (agg : Bool) (len es : Nat) (j : Int) : Value → Option Value
  | .agg cs => if 0 ≤ j ∧ j < len ∧ j.toNat * es + es ≤ cs.size then oneOf agg ((cs.toList.drop (j.toNat * es)).take es) else none
  | _ => none
theorem rn_arrIdx {agg : Bool} {len es : Nat} {x i : Operand} : RunP tbl (.arrIdx agg len es x i) f H K = (@intP (ev f i) ⟨fun j => (@bindV (aggAt agg len es j (ev f x)) ⟨fun v => K v H⟩)⟩) := by
  rw [rn_op rfl]; simp only [evM, aggAt]
  cases ev f i <;> (cases ev f x <;> try rfl)
  rename_i k n cs
  by_cases h : 0 ≤ n ∧ n < len ∧ n.toNat * es + es ≤ cs.size
  · simp only [intP, aggAt, if_pos h]
    cases oneOf agg ((cs.toList.drop (n.toNat * es)).take es) <;> rfl
  · simp only [intP, aggAt, if_neg h]; rfl
theorem rn_sliceStr {x : Operand} {lo hi : Option Operand} : RunP tbl (.sliceStr x lo hi) f H K = (@strP (ev f x) ⟨fun s => (@optP _ (bound f hi s.size s.size) ⟨fun h => (@optP _ (bound f lo 0 h) ⟨fun l => K (.string (s.extract l h)) H⟩)⟩)⟩) := by
  rw [rn_op rfl]; simp only [evM]
  cases ev f x <;> try rfl
  rename_i s
  simp only [strP]
  cases bound f hi s.size s.size <;> try rfl
  rename_i h
  simp only [optP]
  cases bound f lo 0 h <;> rfl
def slcAt (H : AH) (es : Nat) : Value → Nat → Nat → Option Value
  | .slice a n c, l, h => if h ≤ c then (match a with
          | none => some (.slice none (h - l) (c - l))
          | some p => (match H.get p.block with
            | some b => if b.es = es then
                if l = 0 then some (.slice (some p) h c)
                else if l < c then some (.slice (some (addA p (l * es))) (h - l) (c - l))
                else if H.get 0 = none then some (.slice (some ⟨0, 0, none⟩) 0 0) else none
              else none
            | none => none)) else none
  | _, _, _ => none
def slcN (v : Value) [K : Kn (Nat → Nat → Prop)] : Prop :=
  match v with
  | .slice _ n c => K.k n c
  | _ => False
theorem slcN_eq {a : Option Addr} {n c : Nat} {K : Nat → Nat → Prop} : (@slcN (.slice a n c) ⟨K⟩) = K n c := rfl
theorem rn_sliceS {es : Nat} {x : Operand} {lo hi : Option Operand} : RunP tbl (.sliceS es x lo hi) f H K = (@slcN (ev f x) ⟨fun n c => (@optP _ (bound f hi n c) ⟨fun h => (@optP _ (bound f lo 0 h) ⟨fun l => (@bindV (slcAt H es (ev f x) l h) ⟨fun v => K v H⟩)⟩)⟩)⟩) := by
  rw [rn_op rfl]; simp only [evM]
  cases ev f x <;> try rfl
  rename_i a n c
  simp only [slcN]
  cases bound f hi n c <;> try rfl
  rename_i h
  simp only [optP]
  cases bound f lo 0 h <;> try rfl
  rename_i l
  simp only [slcAt]
  split
  · cases a <;> try rfl
    rename_i p
    simp only
    cases H.get p.block <;> try rfl
    simp only
    (repeat' split) <;> rfl
  · rfl
theorem rn_sliceA {len es : Nat} {x : Operand} {lo hi : Option Operand} : RunP tbl (.sliceA len es x lo hi) f H K = (@ptrP (ev f x) ⟨fun p => (@optP _ (bound f hi len len) ⟨fun h => (@optP _ (bound f lo 0 h) ⟨fun l => (@optP _ (H.get p.block) ⟨fun b => (@andP (b.es = es ∧ p.off + len * es ≤ b.cells.length) ⟨K (.slice (some (if len = l then p else addA p (l * es))) (h - l) (len - l)) H⟩)⟩)⟩)⟩)⟩) := by
  rw [rn_op rfl]; simp only [evM]
  cases ev f x <;> try rfl
  rename_i p
  cases p <;> try rfl
  rename_i p
  simp only [ptrP]
  cases bound f hi len len <;> try rfl
  rename_i h
  simp only [optP]
  cases bound f lo 0 h <;> try rfl
  rename_i l
  simp only
  cases H.get p.block <;> try rfl
  exact bindP_if
theorem rn_toArr {n : Nat} {x : Operand} : RunP tbl (.toArr n x) f H K = (@bindV (match ev f x with | .slice (some a) l _ => if n ≤ l then some (.pointer (some a)) else none | _ => none) ⟨fun v => K v H⟩) := by
  rw [rn_op rfl]; simp only [evM]
  cases ev f x <;> try rfl
  rename_i a l c
  cases a <;> try rfl
  simp only
  split <;> rfl
theorem rn_mkIface {t : TypeId} {x : Operand} : RunP tbl (.mkIface t x) f H K = (@letP (ev f x) ⟨fun v => K (.iface t v) H⟩) := rn_op rfl
def evL (f : Fr) : List Operand → List Value
  | [] => []
  | x :: l => ev f x :: evL f l
theorem evL_eq (l : List Operand) : l.map (ev f) = evL f l := by
  induction l with
  | nil => rfl
  | cons x l ih => simp only [List.map_cons, evL, ih]
theorem rn_mkFunc {fn : Fn} {a b : List Operand} : RunP tbl (.mkFunc fn a b) f H K = (@letP (.func fn (evL f a).toArray (evL f b).toArray) ⟨fun v => K v H⟩) := by
  rw [rn_op rfl]; simp only [evM, evL_eq, bindP, letP]
theorem rn_mkSlice {zero : List Value} {es bytes : Nat} {l c : Operand} : RunP tbl (.mkSlice zero es bytes l c) f H K = (@intP (ev f l) ⟨fun n => (@intP (ev f c) ⟨fun m => (@andP (0 ≤ n ∧ n ≤ m ∧ m.toNat * bytes ≤ 140737488355328 ∧ m ≤ 9223372036854775807) ⟨K (.slice (some ⟨H.next, 0, none⟩) n.toNat m.toNat) (H.push ⟨rep m.toNat zero, es, false⟩)⟩)⟩)⟩) := by
  rw [rn_op rfl]; simp only [evM]
  cases ev f l <;> try rfl
  cases ev f c <;> try rfl
  simp only [intP, andP]
  split
  · rename_i h; simp only [h, bindP]; simp
  · rename_i h; simp only [h, bindP]; simp
theorem rn_extract {x : Operand} {i : Nat} : RunP tbl (.extract x i) f H K = (@bindV (match ev f x with | .tuple vs => vs[i]? | _ => none) ⟨fun v => K v H⟩) := by
  rw [rn_op rfl]; simp only [evM]
  cases ev f x <;> try rfl
  rename_i vs
  simp only
  cases vs[i]? <;> rfl
theorem rn_append {es bytes : Nat} {s x : Operand} : RunP tbl (.append es bytes s x) f H K = (@optP _ (added H es (ev f x)) ⟨fun p => (@bindP (appended H es bytes (ev f s) p.1 p.2) ⟨K⟩)⟩) := by
  rw [rn_op rfl]; simp only [evM]
  cases added H es (ev f x) <;> rfl
theorem rn_len {x : Operand} : RunP tbl (.len x) f H K = (@slcN (ev f x) ⟨fun n _ => K (.int .i64 n) H⟩) := by
  rw [rn_op rfl]; simp only [evM]
  cases ev f x <;> rfl
theorem rn_lenStr {x : Operand} : RunP tbl (.lenStr x) f H K = (@strP (ev f x) ⟨fun s => K (.int .i64 s.size) H⟩) := by
  rw [rn_op rfl]; simp only [evM]
  cases ev f x <;> rfl
theorem rn_lenC {n : Nat} : RunP tbl (.lenC n) f H K = K (.int .i64 n) H := rn_op rfl
theorem rn_min {x : Operand} {xs : List Operand} : RunP tbl (.min x xs) f H K = (@bindV (foldV minV (ev f x) (evL f xs)) ⟨fun v => K v H⟩) := by
  rw [rn_op rfl]; simp only [evM, evL_eq]
  cases foldV minV (ev f x) (evL f xs) <;> rfl
theorem rn_max {x : Operand} {xs : List Operand} : RunP tbl (.max x xs) f H K = (@bindV (foldV maxV (ev f x) (evL f xs)) ⟨fun v => K v H⟩) := by
  rw [rn_op rfl]; simp only [evM, evL_eq]
  cases foldV maxV (ev f x) (evL f xs) <;> rfl

/-! ### Values -/
-- No rule about frames is proved by plain rfl: the kernel would compare frames, and so values, at a guess.
theorem put_some {d : Tmp} {v : Value} : put f (some d) v = upd f d v := (And.intro rfl trivial : _ ∧ True).1
theorem put_none {v : Value} : put f none v = f := (And.intro rfl trivial : _ ∧ True).1
theorem bin_add {k : IntKind} {a b : Int} : binV .int .add (.int k a) (.int k b) = some (.int k (k.wrap (a + b))) := by simp [binV, intBin]
theorem bin_sub {k : IntKind} {a b : Int} : binV .int .sub (.int k a) (.int k b) = some (.int k (k.wrap (a - b))) := by simp [binV, intBin]
theorem bin_mul {k : IntKind} {a b : Int} : binV .int .mul (.int k a) (.int k b) = some (.int k (k.wrap (a * b))) := by simp [binV, intBin]
theorem bin_eql {k : IntKind} {a b : Int} : binV .int .eql (.int k a) (.int k b) = some (.bool (decide (a = b))) := by simp [binV, intBin]
theorem bin_neq {k : IntKind} {a b : Int} : binV .int .neq (.int k a) (.int k b) = some (.bool (!decide (a = b))) := by simp [binV, intBin]
theorem bin_lss {k : IntKind} {a b : Int} : binV .int .lss (.int k a) (.int k b) = some (.bool (decide (a < b))) := by simp [binV, intBin]
theorem bin_leq {k : IntKind} {a b : Int} : binV .int .leq (.int k a) (.int k b) = some (.bool (decide (a ≤ b))) := by simp [binV, intBin]
theorem bin_gtr {k : IntKind} {a b : Int} : binV .int .gtr (.int k a) (.int k b) = some (.bool (decide (b < a))) := by simp [binV, intBin]
theorem bin_geq {k : IntKind} {a b : Int} : binV .int .geq (.int k a) (.int k b) = some (.bool (decide (b ≤ a))) := by simp [binV, intBin]
theorem bin_and {k : IntKind} {a b : Int} : binV .int .and (.int k a) (.int k b) = some (.int k (bitsK .and k a b)) := by simp [binV, intBin]
theorem bin_or {k : IntKind} {a b : Int} : binV .int .or (.int k a) (.int k b) = some (.int k (bitsK .or k a b)) := by simp [binV, intBin]
theorem bin_xor {k : IntKind} {a b : Int} : binV .int .xor (.int k a) (.int k b) = some (.int k (bitsK .xor k a b)) := by simp [binV, intBin]
theorem bin_andNot {k : IntKind} {a b : Int} : binV .int .andNot (.int k a) (.int k b) = some (.int k (bitsK .andNot k a b)) := by simp [binV, intBin]
theorem bin_quo {k : IntKind} {a b : Int} : binV .int .quo (.int k a) (.int k b) = if b = 0 then none else some (.int k (k.wrap (a.tdiv b))) := by simp [binV, intBin]
theorem bin_rem {k : IntKind} {a b : Int} : binV .int .rem (.int k a) (.int k b) = if b = 0 then none else some (.int k (a.tmod b)) := by simp [binV, intBin]
theorem bin_shl {k k' : IntKind} {a b : Int} : binV .int .shl (.int k a) (.int k' b) = if b < 0 then none else some (.int k (shiftK .shl k a b)) := by simp [binV, shBin]
theorem bin_shr {k k' : IntKind} {a b : Int} : binV .int .shr (.int k a) (.int k' b) = if b < 0 then none else some (.int k (shiftK .shr k a b)) := by simp [binV, shBin]
theorem bin_beq {a b : Bool} : binV .bool .eql (.bool a) (.bool b) = some (.bool (a == b)) := rfl
theorem bin_bne {a b : Bool} : binV .bool .neq (.bool a) (.bool b) = some (.bool (!(a == b))) := rfl
theorem bin_cat {a b : ByteArray} : binV .str .add (.string a) (.string b) = if a.size + b.size ≤ 9223372036854775807 then some (.string (a ++ b)) else none := rfl
theorem bin_seq {a b : ByteArray} : binV .str .eql (.string a) (.string b) = some (.bool (decide (a = b))) := rfl
theorem bin_sne {a b : ByteArray} : binV .str .neq (.string a) (.string b) = some (.bool (!decide (a = b))) := rfl
theorem bin_nilL {b : Option Addr} : binV .ptr .eql (.pointer none) (.pointer b) = some (.bool b.isNone) := rfl
theorem bin_nilR {a : Option Addr} : binV .ptr .eql (.pointer a) (.pointer none) = some (.bool a.isNone) := by cases a <;> rfl
theorem bin_nilLn {b : Option Addr} : binV .ptr .neq (.pointer none) (.pointer b) = some (.bool (!b.isNone)) := rfl
theorem bin_nilRn {a : Option Addr} : binV .ptr .neq (.pointer a) (.pointer none) = some (.bool (!a.isNone)) := by cases a <;> rfl
theorem bin_slcR {a : Option Addr} {n c m k : Nat} : binV .slc .eql (.slice a n c) (.slice none m k) = some (.bool a.isNone) := by cases a <;> rfl
theorem bin_slcRn {a : Option Addr} {n c m k : Nat} : binV .slc .neq (.slice a n c) (.slice none m k) = some (.bool (!a.isNone)) := by cases a <;> rfl
theorem bin_ifcR {t : TypeId} {v : Value} : binV .ifc .eql (.iface t v) .nilIface = some (.bool false) := rfl
theorem bin_ifcRn {t : TypeId} {v : Value} : binV .ifc .neq (.iface t v) .nilIface = some (.bool true) := rfl
theorem un_not {b : Bool} : unV .not (.bool b) = some (.bool (!b)) := rfl
theorem un_neg {k : IntKind} {n : Int} : unV .neg (.int k n) = some (.int k (k.wrap (0 - n))) := rfl
theorem un_xor {k : IntKind} {n : Int} : unV .xor (.int k n) = some (.int k (bitsK .xor k (if k.signed then -1 else k.max) n)) := rfl
theorem foldV_nil {g : Value → Value → Option Value} {v : Value} : foldV g v [] = some v := rfl
theorem foldV_min {k k' : IntKind} {a b : Int} {l : List Value} : foldV minV (.int k a) (.int k' b :: l) = foldV minV (.int k (if b < a then b else a)) l := rfl
theorem foldV_max {k k' : IntKind} {a b : Int} {l : List Value} : foldV maxV (.int k a) (.int k' b :: l) = foldV maxV (.int k (if a < b then b else a)) l := rfl
theorem oneOf_one {v : Value} : oneOf false [v] = some v := rfl
theorem oneOf_agg {l : List Value} : oneOf true l = some (.agg l.toArray) := rfl
theorem back_p3 {H : AH} {v : Value} {H1 : AH} (h : ¬ H1.low < H.next) (hp : p3 v = true) : back H H1 v = (v, H) := by
  unfold back; rw [if_neg h, if_pos hp]
theorem finQ_normal {H H' : AH} {rs : List MRes} {Q : Value → AH → Prop} {f' : Fr} : finQ H rs Q .normal f' H' = (@optP _ (resL f' H' rs) ⟨fun vs => (@letP (tupV vs) ⟨fun v => Q (back H H' v).1 (back H H' v).2⟩)⟩) := by
  simp only [finQ]; cases resL f' H' rs <;> rfl
theorem finQ_ret {H H' : AH} {rs : List MRes} {Q : Value → AH → Prop} {f' : Fr} : finQ H rs Q .ret f' H' = (@optP _ (resL f' H' rs) ⟨fun vs => (@letP (tupV vs) ⟨fun v => Q (back H H' v).1 (back H H' v).2⟩)⟩) := by
  simp only [finQ]; cases resL f' H' rs <;> rfl
theorem resL_nil {H : AH} : resL f H [] = some [] := rfl
theorem resL_tmp {H : AH} {t : Tmp} {l : List MRes} : resL f H (.tmp t :: l) = (resL f H l).map fun vs => f t :: vs := by
  simp only [resL, resV]; cases resL f H l <;> rfl
theorem tupV_one {v : Value} : tupV [v] = v := rfl
theorem tupV_nil : tupV [] = .tuple #[] := rfl
theorem tupV_two {u v : Value} {l : List Value} : tupV (u :: v :: l) = .tuple (u :: v :: l).toArray := rfl
theorem p3_bool {b : Bool} : p3 (.bool b) = true := (And.intro rfl trivial : _ ∧ True).1
theorem p3_int {k : IntKind} {n : Int} : p3 (.int k n) = true := (And.intro rfl trivial : _ ∧ True).1
theorem p3_str {s : ByteArray} : p3 (.string s) = true := (And.intro rfl trivial : _ ∧ True).1
theorem p3_undef : p3 undef = true := (And.intro rfl trivial : _ ∧ True).1
theorem p3_nilS {n c : Nat} : p3 (.slice none n c) = true := (And.intro rfl trivial : _ ∧ True).1
theorem p3_nilP : p3 (.pointer none) = true := (And.intro rfl trivial : _ ∧ True).1
theorem p3_tup {l : List Value} : p3 (.tuple l.toArray) = l.all p2 := (And.intro rfl trivial : _ ∧ True).1
theorem p2_bool {b : Bool} : p2 (.bool b) = true := (And.intro rfl trivial : _ ∧ True).1
theorem p2_int {k : IntKind} {n : Int} : p2 (.int k n) = true := (And.intro rfl trivial : _ ∧ True).1
theorem p2_str {s : ByteArray} : p2 (.string s) = true := (And.intro rfl trivial : _ ∧ True).1
theorem p2_nilS {n c : Nat} : p2 (.slice none n c) = true := (And.intro rfl trivial : _ ∧ True).1
theorem p2_nilP : p2 (.pointer none) = true := (And.intro rfl trivial : _ ∧ True).1
theorem cells_agg {a : Array Value} : (Value.agg a).cells = a := rfl
theorem cells_int {k : IntKind} {n : Int} : (Value.int k n).cells = #[.int k n] := rfl
theorem cells_bool {b : Bool} : (Value.bool b).cells = #[.bool b] := rfl
theorem cells_str {s : ByteArray} : (Value.string s).cells = #[.string s] := rfl
theorem cells_ptr {a : Option Addr} : (Value.pointer a).cells = #[.pointer a] := rfl
theorem cells_slc {a : Option Addr} {n c : Nat} : (Value.slice a n c).cells = #[.slice a n c] := rfl
theorem cells_func {fn : Fn} {a b : Array Value} : (Value.func fn a b).cells = #[.func fn a b] := rfl
theorem one_map {a : Option Nat} : one (.map a) = true := (And.intro rfl trivial : _ ∧ True).1
theorem cells_map {a : Option Nat} : (Value.map a).cells = #[.map a] := rfl
theorem one_iface {t : TypeId} {v : Value} : one (.iface t v) = true := (And.intro rfl trivial : _ ∧ True).1
theorem cells_iface {t : TypeId} {v : Value} : (Value.iface t v).cells = #[.iface t v] := rfl
theorem one_nilI : one .nilIface = true := (And.intro rfl trivial : _ ∧ True).1
theorem cells_nilI : (Value.nilIface).cells = #[.nilIface] := rfl
theorem one_int {k : IntKind} {n : Int} : one (.int k n) = true := (And.intro rfl trivial : _ ∧ True).1
theorem one_bool {b : Bool} : one (.bool b) = true := (And.intro rfl trivial : _ ∧ True).1
theorem one_str {s : ByteArray} : one (.string s) = true := (And.intro rfl trivial : _ ∧ True).1
theorem one_ptr {a : Option Addr} : one (.pointer a) = true := (And.intro rfl trivial : _ ∧ True).1
theorem one_slc {a : Option Addr} {n c : Nat} : one (.slice a n c) = true := (And.intro rfl trivial : _ ∧ True).1
theorem one_func {fn : Fn} {a b : Array Value} : one (.func fn a b) = true := (And.intro rfl trivial : _ ∧ True).1
def ldcB : Option Blk → Nat → Nat → Option (List Value)
  | some b, off, n => if off + n ≤ b.cells.length then some ((b.cells.drop off).take n) else none
  | none, _, _ => none
theorem ldc_eq {H : AH} {a : Addr} {n : Nat} : ldc H a n = ldcB (H.get a.block) a.off n := by
  unfold ldc ldcB; cases H.get a.block <;> rfl
theorem ldcB_some {b : Blk} {off n : Nat} : ldcB (some b) off n = if off + n ≤ b.cells.length then some ((b.cells.drop off).take n) else none := rfl
theorem addA_eq {b o n : Nat} : addA ⟨b, o, none⟩ n = ⟨b, o + n, none⟩ := rfl
theorem lw_enter {H : AH} : H.enter.low = H.next := (And.intro rfl trivial : _ ∧ True).1
theorem nx_enter {H : AH} : H.enter.next = H.next := (And.intro rfl trivial : _ ∧ True).1
theorem gt_enter {H : AH} {id : Nat} : H.enter.get id = H.get id := (And.intro rfl trivial : _ ∧ True).1
theorem lw_push {H : AH} {b : Blk} : (H.push b).low = H.low := (And.intro rfl trivial : _ ∧ True).1
theorem gt_push {H : AH} {b : Blk} {id : Nat} : (H.push b).get id = if id = H.next then some b else H.get id := by
  split
  · rename_i h; subst h; exact AH.get_push_eq H b
  · rename_i h
    rcases Nat.lt_or_ge id H.next with h' | h'
    · exact AH.get_push_lt H b h'
    · have e1 : H.get id = none := by unfold AH.get; rw [List.getElem?_eq_none h']; rfl
      have e2 : (H.push b).get id = none := by
        unfold AH.get; rw [List.getElem?_eq_none (by have := AH.next_push H b; unfold AH.next at this h' h; omega)]; rfl
      rw [e1, e2]
theorem lw_set {H : AH} {b : Option Blk} {id : Nat} : (H.set id b).low = min H.low id := rfl
theorem upd_self {d : Tmp} {v : Value} : upd f d v d = v := if_pos rfl
theorem upd_ne {d t : Tmp} {v : Value} (h : t ≠ d) : upd f d v t = f t := if_neg h
theorem ev_tmp {t : Tmp} : ev f (.tmp t) = f t := (And.intro rfl trivial : _ ∧ True).1
theorem ev_const {v : Value} : ev f (.const v) = v := (And.intro rfl trivial : _ ∧ True).1
theorem ev_func {g : FuncId} : ev f (.func g) = .func (.func g) #[] #[] := (And.intro rfl trivial : _ ∧ True).1
theorem entry_at {args : List Value} {t : Tmp} : entry args t = args.getD t undef := (And.intro rfl trivial : _ ∧ True).1
def boundV (v : Value) (most : Nat) : Option Nat :=
  match asNat v with
  | some n => if n ≤ most then some n else none
  | none => none
theorem bound_none {d m : Nat} : bound f none d m = some d := (And.intro rfl trivial : _ ∧ True).1
theorem bound_some {o : Operand} {d m : Nat} : bound f (some o) d m = boundV (ev f o) m := (And.intro rfl trivial : _ ∧ True).1
theorem boundV_int {k : IntKind} {n : Int} {m : Nat} : boundV (.int k n) m = if 0 ≤ n ∧ n.toNat ≤ m then some n.toNat else none := by
  unfold boundV asNat
  by_cases h : 0 ≤ n <;> simp [h]
def calleeV : Value → List Value → Option (FuncId × List Value)
  | .func (.func n) first captured, args => some (n, first.toList ++ args ++ captured.toList)
  | _, _ => none
theorem calleeV_eq {n : FuncId} {a b : Array Value} {args : List Value} : calleeV (.func (.func n) a b) args = some (n, a.toList ++ args ++ b.toList) := rfl
theorem callee_eq {g : Operand} {args : List Operand} : callee f g args = calleeV (ev f g) (evL f args) := by
  unfold callee
  rw [evL_eq]
  cases ev f g <;> try rfl
  rename_i fn a b
  cases fn <;> rfl
end
end Go.Proofs.Ytidpkoaomfbljaa.AM
/- Slices, words: common lemmas. -/
namespace Go.Proofs.Ytidpkoaomfbljaa.AM
open Go
set_option linter.all false
section
variable {tbl : Tbl} [hT : TMono tbl]

/-- A slice of one-cell elements. -/
def Sl (H : AH) (es : Nat) (v : Value) (n : Nat) (l : List Value) : Prop := (∃ a c, v = .slice a 0 c ∧ n = 0 ∧ l = []) ∨ ∃ a c, v = .slice (some a) n c ∧ ldc H a (n * es) = some l
theorem Sl.shape {H : AH} {es n : Nat} {v : Value} {l : List Value} (h : Sl H es v n l) : ∃ a c, v = .slice a n c := by
  rcases h with ⟨a, c, rfl, rfl, rfl⟩ | ⟨a, c, rfl, h⟩
  · exact ⟨a, c, rfl⟩
  · exact ⟨some a, c, rfl⟩
theorem ldc_len {H : AH} {a : Addr} {n : Nat} {l : List Value} (h : ldc H a n = some l) : l.length = n := by
  unfold ldc at h
  split at h
  · split at h
    · simp only [Option.some.injEq] at h; subst h; simp; omega
    · simp at h
  · simp at h
theorem ldc_sub {H : AH} {a : Addr} {n i m : Nat} {l : List Value} (h : ldc H a n = some l) (hi : i + m ≤ n) : ldc H (addA a i) m = some ((l.drop i).take m) := by
  rw [ldc_eq] at h ⊢
  simp only [addA]
  cases hb : H.get a.block with
  | none => rw [hb] at h; simp [ldcB] at h
  | some b =>
    rw [hb] at h
    rw [ldcB_some] at h ⊢
    split at h
    · rename_i hle
      simp only [Option.some.injEq] at h
      rw [if_pos (by omega), ← h, List.drop_take, List.drop_drop, List.take_take]
      congr 2
      omega
    · simp at h
theorem Sl.len {H : AH} {es n : Nat} {v : Value} {l : List Value} (h : Sl H es v n l) : l.length = n * es := by
  rcases h with ⟨a, c, rfl, rfl, rfl⟩ | ⟨a, c, rfl, h⟩
  · simp
  · exact ldc_len h
/-- Element number i is read. -/
theorem Sl.at_ {H : AH} {es n : Nat} {v : Value} {l : List Value} (h : Sl H es v n l) {i : Nat} (hi : i < n) {K : Value → Prop} (hK : ∀ p : Addr, p.block < H.next → ldcB (H.get p.block) p.off es = some ((l.drop (i * es)).take es) → K (.pointer (some p))) : (@idxSP v es (i : Int) ⟨K⟩) := by
  rcases h with ⟨a, c, rfl, rfl, rfl⟩ | ⟨a, c, rfl, h⟩
  · omega
  · unfold idxSP
    simp only
    refine ⟨⟨by omega, by omega⟩, ?_⟩
    rw [Int.toNat_natCast]
    have h2 := ldc_sub h (i := i * es) (m := es) (by
      have := Nat.mul_le_mul_right es (Nat.succ_le_of_lt hi)
      rw [Nat.succ_mul] at this
      exact this)
    exact hK _ (ldc_lt h2) (by rw [← ldc_eq]; exact h2)
theorem take_one {α : Type} {l : List α} {i : Nat} (h : i < l.length) : (l.drop i).take 1 = [l[i]] := by
  rw [List.drop_eq_getElem_cons h]; rfl
def I64 (x : Int) : Value := .int .i64 x
theorem Sl.int {H : AH} {v : Value} {l : List Int} (h : Sl H 1 v l.length (l.map I64)) {i : Nat} (hi : i < l.length) {K : Value → Prop} (hK : ∀ p : Addr, p.block < H.next → ldcB (H.get p.block) p.off 1 = some [.int .i64 l[i]] → K (.pointer (some p))) : (@idxSP v 1 (i : Int) ⟨K⟩) :=
  h.at_ hi fun p h1 h2 => hK p h1 (by rw [h2, Nat.mul_one, take_one (by simpa using hi)]; simp [I64])
def firstL : List Int → Int
  | [] => 0
  | x :: r => if x = 0 then firstL r else x
theorem w64 {x : Int} (h1 : -9223372036854775808 ≤ x) (h2 : x ≤ 9223372036854775807) : IntKind.wrap .i64 x = x := by
  rw [IntKind.wrap_i64]
  omega
/-! ### Tables -/
def lookT (l : List (Nat × Ent)) : Tbl := fun n => l.lookup n
theorem lookup_mem {l : List (Nat × Ent)} {n : Nat} {e : Ent} (h : l.lookup n = some e) : (n, e) ∈ l := by
  induction l with
  | nil => simp at h
  | cons p l ih =>
    obtain ⟨m, x⟩ := p
    rw [List.lookup_cons] at h
    split at h
    · rename_i hb
      have : n = m := by simpa using hb
      subst this
      simp only [Option.some.injEq] at h
      subst h
      simp
    · exact List.mem_cons_of_mem _ (ih h)
theorem lookT_mono {l : List (Nat × Ent)} (h : ∀ p ∈ l, ∀ g, p.2 = .nat g → NatMono g) : TMono (lookT l) := ⟨fun n g hg => h _ (lookup_mem hg) g rfl⟩
end
end Go.Proofs.Ytidpkoaomfbljaa.AM
/- Slices of one's own: appends, and what a call gives back. -/
namespace Go.Proofs.Ytidpkoaomfbljaa.AM
open Go
set_option linter.all false

/-- A slice that nobody else has, full, in a block that is no older than base. -/
def Own (base : Nat) (H : AH) (es : Nat) (v : Value) (n : Nat) (l : List Value) : Prop :=
  (v = .slice none 0 0 ∧ n = 0 ∧ l = []) ∨ ∃ b, v = .slice (some ⟨b, 0, none⟩) n n ∧ H.get b = some ⟨l, es, false⟩ ∧ l.length = n * es ∧ base ≤ b ∧ 0 < n
theorem added_slc {H : AH} {es n c : Nat} {a : Addr} : added H es (.slice (some a) n c) = orZ n ((ldc H a (n * es)).map fun l => (n, l)) := by
  simp only [added]; cases ldc H a (n * es) <;> rfl
theorem orZ_some {n : Nat} {x : Nat × List Value} : orZ n (some x) = some x := (And.intro rfl trivial : _ ∧ True).1
theorem ldc_all {H : AH} {b es n : Nat} {l : List Value} (h : H.get b = some ⟨l, es, false⟩) (hl : l.length = n * es) : ldc H ⟨b, 0, none⟩ (n * es) = some l := by
  rw [ldc_eq]
  simp only [h, ldcB_some]
  rw [if_pos (by simp [hl]), ← hl]
  simp
theorem Own.sl {base : Nat} {H : AH} {es n : Nat} {v : Value} {l : List Value} (h : Own base H es v n l) : Sl H es v n l := by
  rcases h with ⟨rfl, rfl, rfl⟩ | ⟨b, rfl, h1, h2, h3, h4⟩
  · exact .inl ⟨none, 0, rfl, rfl, rfl⟩
  · exact .inr ⟨_, _, rfl, ldc_all h1 h2⟩
theorem Own.append {base : Nat} {H : AH} {es bytes n k : Nat} {s : Value} {l new : List Value} (h : Own base H es s n l) (hb : base ≤ H.next) (hk : 0 < k) (hn : new.length = k * es) (hs : (n + k) * bytes ≤ 140737488355328) :
    ∃ s' H', appended H es bytes s k new = some (s', H') ∧ Own base H' es s' (n + k) (l ++ new) ∧ (∀ id, id < base → H'.get id = H.get id) ∧ H'.next = H.next + 1 ∧ (∀ m, m ≤ base → m ≤ H.low → m ≤ H'.low) := by
  rcases h with ⟨rfl, rfl, rfl⟩ | ⟨b, rfl, h1, h2, h3, h4⟩
  · refine ⟨.slice (some ⟨H.next, 0, none⟩) k k, H.push ⟨new, es, false⟩, ?_, .inr ⟨H.next, by simp, by simpa using AH.get_push_eq H _, by simpa using hn, hb, by omega⟩, fun id hid => AH.get_push_lt H _ (by omega), AH.next_push H _, fun m _ h => h⟩
    simp only [appended]
    rw [if_pos (by simp), if_neg (by omega), if_pos (by simpa using hs)]
  · refine ⟨.slice (some ⟨H.next, 0, none⟩) (n + k) (n + k), (H.set b none).push ⟨l ++ new, es, false⟩, ?_, .inr ⟨H.next, rfl, ?_, by rw [List.length_append, h2, hn, Nat.add_mul], hb, by omega⟩, fun id hid => ?_, ?_, fun m hm h => ?_⟩
    · simp only [appended, h1]
      rw [if_pos (by simp), if_neg (by omega), ldc_all h1 h2]
      simp only
      rw [if_pos hs]
    · rw [← AH.next_set H b none]; exact AH.get_push_eq _ _
    · rw [AH.get_push_lt _ _ (by rw [AH.next_set]; omega)]
      exact AH.get_set_ne H none (by omega)
    · rw [AH.next_push, AH.next_set]
    · show m ≤ min H.low b
      omega
/-- What a call hands back that made a slice. -/
def mkS (H : AH) (n : Nat) : Value := if n = 0 then .slice none 0 0 else .slice (some ⟨H.next, 0, none⟩) n n
def mkH (H : AH) (es n : Nat) (l : List Value) : AH := if n = 0 then H else H.push ⟨l, es, false⟩
theorem back_own {base : Nat} {H H1 : AH} {es n : Nat} {v : Value} {l : List Value} (h : Own base H1 es v n l) (hb : H.next ≤ base) (hl : H.next ≤ H1.low) (hp : l.all p1 = true) : back H H1 v = (mkS H n, mkH H es n l) := by
  rcases h with ⟨rfl, rfl, rfl⟩ | ⟨b, rfl, h1, h2, h3, h4⟩
  · exact back_p3 (by omega) rfl
  · unfold back
    rw [if_neg (by omega), if_neg (by simp [p3, p2, p1])]
    simp only [moveV, h1]
    rw [if_neg (by omega), if_pos hp]
    simp only [mkS, mkH, if_neg (show ¬ n = 0 by omega)]
    rfl
theorem back_own2 {base : Nat} {H H1 : AH} {es n : Nat} {v y : Value} {l : List Value} (h : Own base H1 es v n l) (hb : H.next ≤ base) (hl : H.next ≤ H1.low) (hp : l.all p1 = true) (hy : p2 y = true) : back H H1 (.tuple #[v, y]) = (.tuple #[mkS H n, y], mkH H es n l) := by
  rcases h with ⟨rfl, rfl, rfl⟩ | ⟨b, rfl, h1, h2, h3, h4⟩
  · exact back_p3 (by omega) (by simp [p3, hy]; rfl)
  · unfold back
    rw [if_neg (by omega), if_neg (by simp [p3, p2, p1])]
    simp only [moveV, h1]
    rw [if_neg (by omega), if_pos hp]
    simp only [hy, if_true, mkS, mkH, if_neg (show ¬ n = 0 by omega)]
    rfl
theorem own_mk {H : AH} {es n : Nat} {l : List Value} (hl : l.length = n * es) : Own H.next (mkH H es n l) es (mkS H n) n l := by
  unfold mkS mkH
  by_cases h : n = 0
  · subst h
    simp only [if_true]
    exact .inl ⟨rfl, rfl, List.eq_nil_of_length_eq_zero (by simpa using hl)⟩
  · simp only [if_neg h]
    exact .inr ⟨H.next, rfl, AH.get_push_eq H _, hl, Nat.le_refl _, by omega⟩
theorem mkH_next {H : AH} {es n : Nat} {l : List Value} : H.next ≤ (mkH H es n l).next := by
  unfold mkH; split
  · exact Nat.le_refl _
  · rw [AH.next_push]; omega
theorem mkH_low {H : AH} {es n : Nat} {l : List Value} : (mkH H es n l).low = H.low := by
  unfold mkH; split <;> rfl
theorem mkH_get {H : AH} {es n id : Nat} {l : List Value} (h : id < H.next) : (mkH H es n l).get id = H.get id := by
  unfold mkH; split
  · rfl
  · exact AH.get_push_lt H _ h
end Go.Proofs.Ytidpkoaomfbljaa.AM
/- The relation between the abstract heap and the model's world. -/
namespace Go.Proofs.Ytidpkoaomfbljaa.AM
open Go Go.RowKit
set_option linter.all false

/-- Where a block lies: its number, how far its first cell lies behind the row's head, how many cells the row has, how many an element has. -/
structure Loc where
  blk : Nat
  sh : Nat
  sz : Nat
  es : Nat
abbrev CMap := Nat → Option Loc

/-- An abstract value and the model's. -/
inductive VR (n : Nat) (c : CMap) : Value → Value → Prop
  | plain {v : Value} (h : p1 v = true) : VR n c v v
  | ptr {a : Addr} {l : Loc} (hn : a.block < n) (hc : c a.block = some l) (hs : a.spot = none) : VR n c (.pointer (some a)) (.pointer (some ⟨l.blk, l.sh + a.off, none⟩))
  | ptrDead {a a' : Addr} (hn : a.block < n) (hc : c a.block = none) : VR n c (.pointer (some a)) (.pointer (some a'))
  | slice {a : Addr} {l : Loc} {m k k' : Nat} (hn : a.block < n) (hc : c a.block = some l) (hs : a.spot = none) (hk : k ≤ k') (hb : l.sh + a.off + k' * l.es ≤ l.sz) : VR n c (.slice (some a) m k) (.slice (some ⟨l.blk, l.sh + a.off, none⟩) m k')
  | sliceDead {a a' : Addr} {m k k' : Nat} (hn : a.block < n) (hc : c a.block = none) : VR n c (.slice (some a) m k) (.slice (some a') m k')
  | func {fn : Fn} {f f' g g' : Array Value} (hf : f.size = f'.size) (hg : g.size = g'.size) (h1 : ∀ j, j < f.size → VR n c (f.getD j undef) (f'.getD j undef)) (h2 : ∀ j, j < g.size → VR n c (g.getD j undef) (g'.getD j undef)) : VR n c (.func fn f g) (.func fn f' g')
  | iface {t : TypeId} {v v' : Value} (h : VR n c v v') : VR n c (.iface t v) (.iface t v')
  | mapDead {a a' : Nat} : VR n c (.map (some a)) (.map (some a'))
  | agg {f f' : Array Value} (hf : f.size = f'.size) (h : ∀ j, j < f.size → VR n c (f.getD j undef) (f'.getD j undef)) : VR n c (.agg f) (.agg f')
  | tuple {f f' : Array Value} (hf : f.size = f'.size) (h : ∀ j, j < f.size → VR n c (f.getD j undef) (f'.getD j undef)) : VR n c (.tuple f) (.tuple f')

theorem VR.mono {n n' : Nat} {c c' : CMap} (hn : n ≤ n') (hc : ∀ id, id < n → c' id = c id ∨ c' id = none) {v v' : Value} (h : VR n c v v') : VR n' c' v v' := by
  induction h with
  | plain h => exact .plain h
  | @ptr a l h1 h2 h3 =>
    rcases hc _ h1 with e | e
    · exact .ptr (by omega) (by rw [e]; exact h2) h3
    · exact .ptrDead (by omega) e
  | @ptrDead a a' h1 h2 =>
    rcases hc _ h1 with e | e
    · exact .ptrDead (by omega) (by rw [e]; exact h2)
    · exact .ptrDead (by omega) e
  | @slice a l m k k' h1 h2 h3 h4 h5 =>
    rcases hc _ h1 with e | e
    · exact .slice (by omega) (by rw [e]; exact h2) h3 h4 h5
    · exact .sliceDead (by omega) e
  | @sliceDead a a' m k k' h1 h2 =>
    rcases hc _ h1 with e | e
    · exact .sliceDead (by omega) (by rw [e]; exact h2)
    · exact .sliceDead (by omega) e
  | func hf hg h1 h2 i1 i2 => exact .func hf hg i1 i2
  | iface h i => exact .iface i
  | mapDead => exact .mapDead
  | agg hf h i => exact .agg hf i
  | tuple hf h i => exact .tuple hf i

theorem p1_of_empty {f g : Array Value} {fn : Fn} (h : p1 (.func fn f g) = true) : f = #[] ∧ g = #[] := by
  simp only [p1, Bool.and_eq_true, Array.isEmpty_iff] at h; exact h
/-- What holds no address is itself. -/
theorem VR.eq1 {n : Nat} {c : CMap} {v v' : Value} (h : VR n c v v') (hp : p1 v = true) : v' = v := by
  cases h with
  | plain _ => rfl
  | ptr _ _ _ => simp [p1] at hp
  | ptrDead _ _ => simp [p1] at hp
  | slice _ _ _ _ _ => simp [p1] at hp
  | sliceDead _ _ => simp [p1] at hp
  | @func fn f f' g g' hf hg h1 h2 =>
    obtain ⟨rfl, rfl⟩ := p1_of_empty hp
    have e1 : f' = #[] := Array.eq_empty_of_size_eq_zero (by simpa using hf.symm)
    have e2 : g' = #[] := Array.eq_empty_of_size_eq_zero (by simpa using hg.symm)
    rw [e1, e2]
  | iface _ => simp [p1] at hp
  | mapDead => simp [p1] at hp
  | agg _ _ => simp [p1] at hp
  | tuple _ _ => simp [p1] at hp
theorem getD_get {l : Array Value} {j : Nat} (h : j < l.size) : l.getD j undef = l[j] := by simp [h]
theorem arr_ext {f f' : Array Value} (hf : f.size = f'.size) (h : ∀ j, j < f.size → f'.getD j undef = f.getD j undef) : f' = f := by
  apply Array.ext hf.symm
  intro i h1 h2
  have := h i h2
  rw [getD_get h2, getD_get h1] at this
  exact this
theorem all_getD {f : Array Value} {p : Value → Bool} (h : f.toList.all p = true) {j : Nat} (hj : j < f.size) : p (f.getD j undef) = true := by
  rw [getD_get hj]
  exact List.all_eq_true.1 h _ (by simp)
theorem VR.eq2 {n : Nat} {c : CMap} {v v' : Value} (h : VR n c v v') (hp : p2 v = true) : v' = v := by
  cases h with
  | plain _ => rfl
  | @agg f f' hf h => rw [arr_ext hf fun j hj => (h j hj).eq1 (all_getD hp hj)]
  | ptr h1 h2 h3 => exact (VR.ptr h1 h2 h3).eq1 hp
  | ptrDead h1 h2 => simp [p2, p1] at hp
  | slice h1 h2 h3 h4 h5 => simp [p2, p1] at hp
  | sliceDead h1 h2 => simp [p2, p1] at hp
  | func hf hg h1 h2 => exact (VR.func hf hg h1 h2).eq1 hp
  | iface _ => simp [p2, p1] at hp
  | mapDead => simp [p2, p1] at hp
  | tuple _ _ => simp [p2, p1] at hp
theorem VR.eq3 {n : Nat} {c : CMap} {v v' : Value} (h : VR n c v v') (hp : p3 v = true) : v' = v := by
  cases h with
  | plain _ => rfl
  | @tuple f f' hf h => rw [arr_ext hf fun j hj => (h j hj).eq2 (all_getD hp hj)]
  | @agg f f' hf h => exact (VR.agg hf h).eq2 hp
  | ptr h1 h2 h3 => exact (VR.ptr h1 h2 h3).eq1 hp
  | ptrDead h1 h2 => simp [p3, p2, p1] at hp
  | slice h1 h2 h3 h4 h5 => simp [p3, p2, p1] at hp
  | sliceDead h1 h2 => simp [p3, p2, p1] at hp
  | func hf hg h1 h2 => exact (VR.func hf hg h1 h2).eq1 hp
  | iface _ => simp [p3, p2, p1] at hp
  | mapDead => simp [p3, p2, p1] at hp
theorem VR.of2 {n : Nat} {c : CMap} {v : Value} (hp : p2 v = true) : VR n c v v := by
  cases v <;> first
    | exact .plain hp
    | exact .agg rfl fun j hj => .plain (all_getD hp hj)
theorem VR.of3 {n : Nat} {c : CMap} {v : Value} (hp : p3 v = true) : VR n c v v := by
  cases v <;> first
    | exact .of2 hp
    | exact .tuple rfl fun j hj => .of2 (all_getD hp hj)
theorem VR.undef {n : Nat} {c : CMap} : VR n c Go.undef Go.undef := .of3 rfl

/-- What can lie in one cell keeps that. -/
theorem VR.one {n : Nat} {c : CMap} {v v' : Value} (h : VR n c v v') (ho : AM.one v = true) : v'.oneCell' = true := by
  cases h with
  | plain h => cases v <;> first | rfl | (simp [p1] at h)
  | _ => first | rfl | (simp [AM.one] at ho)

/-- Rows of values. -/
def VRL (n : Nat) (c : CMap) (l l' : List Value) : Prop := l.length = l'.length ∧ ∀ j, j < l.length → VR n c (l.getD j Go.undef) (l'.getD j Go.undef)
theorem VRL.mono {n n' : Nat} {c c' : CMap} (hn : n ≤ n') (hc : ∀ id, id < n → c' id = c id ∨ c' id = none) {l l' : List Value} (h : VRL n c l l') : VRL n' c' l l' :=
  ⟨h.1, fun j hj => (h.2 j hj).mono hn hc⟩
theorem VRL.nil {n : Nat} {c : CMap} : VRL n c [] [] := ⟨rfl, fun j hj => by simp at hj⟩
theorem VRL.cons {n : Nat} {c : CMap} {v v' : Value} {l l' : List Value} (h : VR n c v v') (hl : VRL n c l l') : VRL n c (v :: l) (v' :: l') := by
  refine ⟨by simp [hl.1], fun j hj => ?_⟩
  cases j with
  | zero => simpa using h
  | succ j => simpa using hl.2 j (by simpa using hj)
theorem VRL.uncons {n : Nat} {c : CMap} {v : Value} {l m : List Value} (h : VRL n c (v :: l) m) : ∃ v' l', m = v' :: l' ∧ VR n c v v' ∧ VRL n c l l' := by
  cases m with
  | nil => simp [VRL] at h
  | cons v' l' =>
    refine ⟨v', l', rfl, by simpa using h.2 0 (by simp), by simpa using h.1, fun j hj => ?_⟩
    simpa using h.2 (j + 1) (by simpa using hj)
theorem VRL.nil_inv {n : Nat} {c : CMap} {m : List Value} (h : VRL n c [] m) : m = [] := by
  have := h.1; simpa using this.symm
theorem VRL.map {n : Nat} {c : CMap} {α : Type} (l : List α) {f g : α → Value} (h : ∀ x ∈ l, VR n c (f x) (g x)) : VRL n c (l.map f) (l.map g) := by
  induction l with
  | nil => exact .nil
  | cons x l ih => exact .cons (h x (by simp)) (ih fun y hy => h y (by simp [hy]))
theorem VRL.append {n : Nat} {c : CMap} {l l' m m' : List Value} (h : VRL n c l l') (k : VRL n c m m') : VRL n c (l ++ m) (l' ++ m') := by
  induction l generalizing l' with
  | nil => rw [h.nil_inv]; exact k
  | cons v l ih =>
    obtain ⟨v', l'', rfl, h1, h2⟩ := h.uncons
    exact .cons h1 (ih h2)
theorem VRL.drop {n : Nat} {c : CMap} {l l' : List Value} (h : VRL n c l l') (k : Nat) : VRL n c (l.drop k) (l'.drop k) := by
  induction k generalizing l l' with
  | zero => exact h
  | succ k ih =>
    cases l with
    | nil => rw [h.nil_inv]; exact .nil
    | cons v l => obtain ⟨v', l'', rfl, h1, h2⟩ := h.uncons; exact ih h2
theorem VRL.take {n : Nat} {c : CMap} {l l' : List Value} (h : VRL n c l l') (k : Nat) : VRL n c (l.take k) (l'.take k) := by
  induction k generalizing l l' with
  | zero => exact .nil
  | succ k ih =>
    cases l with
    | nil => rw [h.nil_inv]; exact .nil
    | cons v l => obtain ⟨v', l'', rfl, h1, h2⟩ := h.uncons; exact .cons h1 (ih h2)
theorem VRL.set {n : Nat} {c : CMap} {l l' : List Value} (h : VRL n c l l') (k : Nat) {v v' : Value} (hv : VR n c v v') : VRL n c (l.set k v) (l'.set k v') := by
  induction k generalizing l l' with
  | zero =>
    cases l with
    | nil => rw [h.nil_inv]; exact .nil
    | cons x l => obtain ⟨y, l'', rfl, h1, h2⟩ := h.uncons; exact .cons hv h2
  | succ k ih =>
    cases l with
    | nil => rw [h.nil_inv]; exact .nil
    | cons x l => obtain ⟨y, l'', rfl, h1, h2⟩ := h.uncons; exact .cons h1 (ih h2)
theorem VRL.splice {n : Nat} {c : CMap} {vs vs' : List Value} : ∀ {l l' : List Value} (off : Nat), VRL n c l l' → VRL n c vs vs' → VRL n c (AM.splice l off vs) (AM.splice l' off vs') := by
  induction vs generalizing vs' with
  | nil => intro l l' off h k; rw [k.nil_inv]; exact h
  | cons v vs ih =>
    intro l l' off h k
    obtain ⟨v', vs'', rfl, h1, h2⟩ := k.uncons
    exact ih (off + 1) (h.set off h1) h2
theorem VRL.replicate {n : Nat} {c : CMap} {v v' : Value} (h : VR n c v v') (k : Nat) : VRL n c (List.replicate k v) (List.replicate k v') := by
  induction k with
  | zero => exact .nil
  | succ k ih => exact .cons h ih
theorem VRL.refl {n : Nat} {c : CMap} {l : List Value} (h : l.all p1 = true) : VRL n c l l := by
  induction l with
  | nil => exact .nil
  | cons v l ih => simp only [List.all_cons, Bool.and_eq_true] at h; exact .cons (.plain h.1) (ih h.2)
theorem VRL.eq1 {n : Nat} {c : CMap} {l l' : List Value} (h : VRL n c l l') (hp : l.all p1 = true) : l' = l := by
  induction l generalizing l' with
  | nil => exact h.nil_inv
  | cons v l ih =>
    obtain ⟨v', l'', rfl, h1, h2⟩ := h.uncons
    simp only [List.all_cons, Bool.and_eq_true] at hp
    rw [h1.eq1 hp.1, ih h2 hp.2]
theorem VRL.one {n : Nat} {c : CMap} {l l' : List Value} (h : VRL n c l l') (hp : l.all AM.one = true) : ∀ v ∈ l', v.oneCell' = true := by
  induction l generalizing l' with
  | nil => rw [h.nil_inv]; simp
  | cons v l ih =>
    obtain ⟨v', l'', rfl, h1, h2⟩ := h.uncons
    simp only [List.all_cons, Bool.and_eq_true] at hp
    intro x hx
    rcases List.mem_cons.1 hx with rfl | hx
    · exact h1.one hp.1
    · exact ih h2 hp.2 x hx
theorem VRL.agg {n : Nat} {c : CMap} {l l' : List Value} (h : VRL n c l l') : VR n c (.agg l.toArray) (.agg l'.toArray) :=
  .agg (by simpa using h.1) fun j hj => by simpa using h.2 j (by simpa using hj)
theorem VRL.of_agg {n : Nat} {c : CMap} {f : Array Value} {v' : Value} (h : VR n c (.agg f) v') : ∃ f', v' = .agg f' ∧ VRL n c f.toList f'.toList := by
  cases h with
  | plain h => simp [p1] at h
  | @agg f f' hf h => exact ⟨f', rfl, by simpa using hf, fun j hj => by simpa using h j (by simpa using hj)⟩
theorem VRL.of_tuple {n : Nat} {c : CMap} {f : Array Value} {v' : Value} (h : VR n c (.tuple f) v') : ∃ f', v' = .tuple f' ∧ VRL n c f.toList f'.toList := by
  cases h with
  | plain h => simp [p1] at h
  | @tuple f f' hf h => exact ⟨f', rfl, by simpa using hf, fun j hj => by simpa using h j (by simpa using hj)⟩
theorem VRL.tuple {n : Nat} {c : CMap} {l l' : List Value} (h : VRL n c l l') : VR n c (.tuple l.toArray) (.tuple l'.toArray) :=
  .tuple (by simpa using h.1) fun j hj => by simpa using h.2 j (by simpa using hj)
/-- A value's cells. -/
theorem VR.cells {n : Nat} {c : CMap} {v v' : Value} (h : VR n c v v') : VRL n c v.cells.toList v'.cells.toList := by
  cases h with
  | @agg f f' hf h => exact ⟨by simpa [Value.cells] using hf, fun j hj => by simpa [Value.cells] using h j (by simpa [Value.cells] using hj)⟩
  | plain h => cases v <;> first | exact .cons (.plain h) .nil | simp [p1] at h
  | ptr h1 h2 h3 => exact .cons (.ptr h1 h2 h3) .nil
  | ptrDead h1 h2 => exact .cons (.ptrDead h1 h2) .nil
  | slice h1 h2 h3 h4 h5 => exact .cons (.slice h1 h2 h3 h4 h5) .nil
  | sliceDead h1 h2 => exact .cons (.sliceDead h1 h2) .nil
  | func hf hg h1 h2 => exact .cons (.func hf hg h1 h2) .nil
  | iface h => exact .cons (.iface h) .nil
  | mapDead => exact .cons .mapDead .nil
  | tuple hf h => exact .cons (.tuple hf h) .nil

/-! ### The heap -/
structure BlkR (N : Nat) (c : CMap) (n : Nat) (b : Blk) (l : Loc) (w : World) : Prop where
  es : l.es = b.es
  ones : b.cells.all AM.one = true
  row : ∃ (cs : Array Value) (ty : TypeId) (fz : Nat × Nat) (mid : List Value), w.heap[l.blk]? = some (.cells cs ty fz) ∧ cs.size = l.sz ∧ (b.ro = false → N ≤ l.blk ∧ ∀ j, j < l.sz → ¬ (fz.1 ≤ j ∧ j < fz.2)) ∧ l.sh + b.cells.length ≤ l.sz ∧
    (∀ j, j < b.cells.length → cs[l.sh + j]? = some (mid.getD j Go.undef)) ∧ VRL n c b.cells mid
structure Sim (N : Nat) (c : CMap) (H : AH) (w : World) : Prop where
  live : ∀ id, (H.get id).isSome = (c id).isSome
  blk : ∀ id b l, H.get id = some b → c id = some l → BlkR N c H.next b l w
  inj : ∀ id id' b l l', id ≠ id' → H.get id = some b → b.ro = false → c id = some l → c id' = some l' → l.blk ≠ l'.blk
  size : N ≤ w.heap.size
structure ExtW (N : Nat) (c : CMap) (H : AH) (w : World) (c' : CMap) (H' : AH) (w' : World) : Prop where
  nx : H.next ≤ H'.next
  dom : ∀ id, id < H.next → c' id = c id ∨ c' id = none
  low : H'.low ≤ H.low
  same : ∀ id, id < H.next → id < H'.low → c' id = c id ∧ H'.get id = H.get id ∧ ∀ l, c id = some l → w'.heap[l.blk]? = w.heap[l.blk]?
  below : Below N w w'
theorem ExtW.refl (N : Nat) (c : CMap) (H : AH) (w : World) : ExtW N c H w c H w :=
  ⟨Nat.le_refl _, fun _ _ => .inl rfl, Nat.le_refl _, fun _ _ _ => ⟨rfl, rfl, fun _ _ => rfl⟩, Below.refl _ _⟩
theorem ExtW.trans {N : Nat} {c c1 c2 : CMap} {H H1 H2 : AH} {w w1 w2 : World} (h : ExtW N c H w c1 H1 w1) (k : ExtW N c1 H1 w1 c2 H2 w2) : ExtW N c H w c2 H2 w2 where
  nx := Nat.le_trans h.nx k.nx
  dom := fun id hid => by
    rcases k.dom id (Nat.lt_of_lt_of_le hid h.nx) with e | e
    · rw [e]; exact h.dom id hid
    · exact .inr e
  low := Nat.le_trans k.low h.low
  same := fun id hid hl => by
    obtain ⟨e1, e2, e3⟩ := h.same id hid (Nat.lt_of_lt_of_le hl k.low)
    obtain ⟨f1, f2, f3⟩ := k.same id (Nat.lt_of_lt_of_le hid h.nx) hl
    exact ⟨f1.trans e1, f2.trans e2, fun l hc => (f3 l (by rw [e1]; exact hc)).trans (e3 l hc)⟩
  below := h.below.trans k.below

section heap
variable {N : Nat} {c : CMap} {H : AH} {w : World}
theorem get_lt {H : AH} {id : Nat} {b : Blk} (h : H.get id = some b) : id < H.next := by
  unfold AH.get at h
  by_cases hl : id < H.blks.length
  · exact hl
  · rw [List.getElem?_eq_none (by omega)] at h; simp at h
theorem Sim.c_lt (hs : Sim N c H w) {id : Nat} {l : Loc} (h : c id = some l) : id < H.next := by
  have := hs.live id
  rw [h] at this
  obtain ⟨b, hb⟩ := Option.isSome_iff_exists.1 this
  exact get_lt hb
theorem Sim.at_ (hs : Sim N c H w) {id : Nat} {b : Blk} (h : H.get id = some b) : ∃ l, c id = some l ∧ BlkR N c H.next b l w := by
  have := hs.live id
  rw [h] at this
  obtain ⟨l, hl⟩ := Option.isSome_iff_exists.1 this.symm
  exact ⟨l, hl, hs.blk id b l h hl⟩
@[simp] theorem next_push (H : AH) (b : Blk) : (H.push b).next = H.next + 1 := by simp [AH.push, AH.next]
@[simp] theorem next_set (H : AH) (id : Nat) (b : Option Blk) : (H.set id b).next = H.next := by simp [AH.set, AH.next]
@[simp] theorem low_push (H : AH) (b : Blk) : (H.push b).low = H.low := rfl
@[simp] theorem low_set (H : AH) (id : Nat) (b : Option Blk) : (H.set id b).low = min H.low id := rfl
theorem get_push (H : AH) (b : Blk) (id : Nat) : (H.push b).get id = if id = H.next then some b else H.get id := by
  unfold AH.get AH.push AH.next
  simp only [List.getElem?_append]
  split
  · rename_i h; rw [if_neg (by omega)]
  · rename_i h
    split
    · rename_i h2; rw [h2]; simp
    · rename_i h2
      rw [List.getElem?_eq_none (by simp; omega), List.getElem?_eq_none (by omega)]
theorem get_set (H : AH) (id : Nat) (b : Option Blk) (j : Nat) (hid : id < H.next) : (H.set id b).get j = if j = id then b else H.get j := by
  unfold AH.get AH.set
  unfold AH.next at hid
  simp only [List.getElem?_set]
  by_cases h : id = j
  · subst h; simp [hid]
  · rw [if_neg h, if_neg (by omega)]

/-- A new row is made. -/
theorem Sim.push (hs : Sim N c H w) {b : Blk} {cs : Array Value} {ty : TypeId} {fz : Nat × Nat} {rest : List Value} {mid : List Value} (hcs : cs.toList = mid ++ rest) (hm : VRL H.next c b.cells mid) (ho : b.cells.all AM.one = true) (hfz : ∀ j, j < cs.size → ¬ (fz.1 ≤ j ∧ j < fz.2)) :
    Sim N (fun id => if id = H.next then some ⟨w.heap.size, 0, cs.size, b.es⟩ else c id) (H.push b) (w.alloc (.cells cs ty fz)) ∧ ExtW N c H w (fun id => if id = H.next then some ⟨w.heap.size, 0, cs.size, b.es⟩ else c id) (H.push b) (w.alloc (.cells cs ty fz)) := by
  have hdom : ∀ id, id < H.next → (fun id => if id = H.next then some (⟨w.heap.size, 0, cs.size, b.es⟩ : Loc) else c id) id = c id ∨ (fun id => if id = H.next then some (⟨w.heap.size, 0, cs.size, b.es⟩ : Loc) else c id) id = none :=
    fun id hid => .inl (if_neg (by omega))
  have hmono : ∀ {l l' : List Value}, VRL H.next c l l' → VRL (H.push b).next (fun id => if id = H.next then some ⟨w.heap.size, 0, cs.size, b.es⟩ else c id) l l' :=
    fun h => h.mono (by simp) hdom
  have hold : ∀ (l : Loc) id b', H.get id = some b' → c id = some l → l.blk < w.heap.size := fun l id b' h1 h2 => by
    obtain ⟨cs', ty', fz', mid', h3, _⟩ := (hs.blk id b' l h1 h2).row
    exact (Array.getElem?_eq_some_iff.1 h3).1
  refine ⟨⟨fun id => ?_, fun id b' l h1 h2 => ?_, fun id id' b' l l' hne h1 hro h2 h3 => ?_, ?_⟩, ⟨by simp, hdom, Nat.le_refl _, fun id hid _ => ⟨if_neg (by omega), by rw [get_push, if_neg (by omega)], fun l hl => ?_⟩, (Below.refl N w).alloc hs.size _⟩⟩
  · rw [get_push]
    by_cases e : id = H.next
    · simp [e]
    · simp only [if_neg e]; exact hs.live id
  · rw [get_push] at h1
    by_cases e : id = H.next
    · rw [if_pos e] at h1
      simp only [if_pos e] at h2
      obtain rfl := Option.some.inj h1
      obtain rfl := Option.some.inj h2
      have hl := hm.1
      have hsz : cs.size = mid.length + rest.length := by rw [← Array.length_toList, hcs]; simp
      refine ⟨rfl, ho, cs, ty, fz, mid, by show (w.heap.push _)[w.heap.size]? = _; simp, rfl, fun _ => ⟨hs.size, hfz⟩, by simp; omega, fun j hj => ?_, hmono hm⟩
      rw [← Array.getElem?_toList, hcs, Nat.zero_add, List.getElem?_append_left (by omega)]
      simp [List.getElem?_eq_getElem (show j < mid.length by omega)]
    · rw [if_neg e] at h1
      simp only [if_neg e] at h2
      obtain ⟨cs', ty', fz', mid', k1, k2, k3, k4, k5, k6⟩ := (hs.blk id b' l h1 h2).row
      refine ⟨(hs.blk id b' l h1 h2).es, (hs.blk id b' l h1 h2).ones, cs', ty', fz', mid', ?_, k2, k3, k4, k5, hmono k6⟩
      rw [Below.heap_alloc _ _ _ (hold l id b' h1 h2)]; exact k1
  · rw [get_push] at h1
    by_cases e : id = H.next
    · simp only [if_pos e] at h2
      obtain rfl := Option.some.inj h2
      have e' : id' ≠ H.next := fun h => hne (by omega)
      simp only [if_neg e'] at h3
      have hlt := hs.c_lt h3
      have := hs.live id'
      rw [h3] at this
      obtain ⟨b2, hb2⟩ := Option.isSome_iff_exists.1 this
      have := hold l' id' b2 hb2 h3
      simp only; omega
    · rw [if_neg e] at h1
      simp only [if_neg e] at h2
      by_cases e' : id' = H.next
      · simp only [if_pos e'] at h3
        obtain rfl := Option.some.inj h3
        have := hold l id b' h1 h2
        simp only; omega
      · simp only [if_neg e'] at h3
        exact hs.inj id id' b' l l' hne h1 hro h2 h3
  · have := hs.size; simp; omega
  · have := hs.live id
    rw [hl] at this
    obtain ⟨b2, hb2⟩ := Option.isSome_iff_exists.1 this
    exact Below.heap_alloc _ _ _ (hold l id b2 hb2 hl)

/-- Two maps that say the same of each block. -/
theorem c_old (hs : Sim N c H w) {id : Nat} {l : Loc} (h : c id = some l) : l.blk < w.heap.size := by
  have := hs.live id
  rw [h] at this
  obtain ⟨b, hb⟩ := Option.isSome_iff_exists.1 this
  obtain ⟨cs, ty, fz, mid, h3, _⟩ := (hs.blk id b l hb h).row
  exact (Array.getElem?_eq_some_iff.1 h3).1
theorem splice_ones : ∀ (vs l : List Value) (off : Nat), l.all AM.one = true → vs.all AM.one = true → (splice l off vs).all AM.one = true
  | [], l, off, h, _ => h
  | v :: vs, l, off, h, k => by
    simp only [List.all_cons, Bool.and_eq_true] at k
    refine splice_ones vs _ _ ?_ k.2
    rw [List.all_eq_true] at h ⊢
    intro x hx
    rcases List.mem_or_eq_of_mem_set hx with hx | rfl
    · exact h x hx
    · exact k.1
theorem splice_length : ∀ (vs l : List Value) (off : Nat), (splice l off vs).length = l.length
  | [], l, off => rfl
  | v :: vs, l, off => by rw [splice, splice_length vs]; simp
theorem splice_get : ∀ (vs l : List Value) (off j : Nat), off + vs.length ≤ l.length → (splice l off vs)[j]? = if off ≤ j ∧ j < off + vs.length then vs[j - off]? else l[j]?
  | [], l, off, j, _ => by simp only [splice, List.length_nil]; rw [if_neg (by omega)]
  | v :: vs, l, off, j, h => by
    rw [splice, splice_get vs _ _ _ (by simp at h ⊢; omega)]
    simp only [List.length_cons] at h ⊢
    by_cases h1 : off + 1 ≤ j ∧ j < off + 1 + vs.length
    · rw [if_pos h1, if_pos (by omega)]
      obtain ⟨k, rfl⟩ : ∃ k, j = off + 1 + k := ⟨j - (off + 1), by omega⟩
      rw [show off + 1 + k - (off + 1) = k by omega, show off + 1 + k - off = k + 1 by omega]; simp
    · rw [if_neg h1, List.getElem?_set]
      by_cases h2 : off = j
      · rw [if_pos h2, if_pos (by omega), if_pos (by omega)]; subst h2; simp
      · rw [if_neg h2, if_neg (by omega)]
theorem run_storeRow (P : Program) (g o : Nat) (t : TypeId) (fz : Nat × Nat) : ∀ (vs : List Value) (i : Nat) (cur : Array Value) (w : World), w.heap[g]? = some (.cells cur t fz) → (∀ j, j < cur.size → ¬ (fz.1 ≤ j ∧ j < fz.2)) → o + i + vs.length ≤ cur.size → (∀ v ∈ vs, v.oneCell' = true) →
    ∃ w', (storeCells ⟨g, o, none⟩ vs i).run P w = .ok () w' ∧ w'.heap[g]? = some (.cells (splice cur.toList (o + i) vs).toArray t fz) ∧ (∀ k, k ≠ g → w'.heap[k]? = w.heap[k]?) ∧ w'.heap.size = w.heap.size ∧ w'.os = w.os ∧ w'.tape = w.tape ∧ w'.output = w.output
  | [], i, cur, w, hg, _, _, _ => ⟨w, rfl, by simpa [splice] using hg, fun _ _ => rfl, rfl, rfl, rfl, rfl⟩
  | v :: rest, i, cur, w, hg, hfz, hl, h1 => by
    have hi : o + i < cur.size := by simp at hl; omega
    have hadd : (⟨g, o, none⟩ : Addr).add i = ⟨g, o + i, none⟩ := by unfold Addr.add; split <;> simp_all
    have hcell : w.cell? ⟨g, o + i, none⟩ = some cur[o + i] := by simp [World.cell?, hg, hi]
    have hfro : w.frozen? ⟨g, o + i, none⟩ = false := by
      obtain ⟨lo, hi'⟩ := fz
      have := hfz _ hi
      simp only [World.frozen?, hg, Bool.and_eq_false_iff, decide_eq_false_iff_not]
      simp only at this
      omega
    have hst : (store ((⟨g, o, none⟩ : Addr).add i) v).run P w = .ok () (w.setCell ⟨g, o + i, none⟩ v) := by
      rw [hadd, run_store P w _ v _ (h1 v (by simp)), hcell]
      simp [hfro]
    have hnew : (w.setCell ⟨g, o + i, none⟩ v).heap[g]? = some (.cells (cur.setIfInBounds (o + i) v) t fz) := by
      simp only [World.setCell, Array.getElem?_modify, if_true, hg, Option.map_some]; simp
    obtain ⟨w', e1, e2, e3, e4, e5, e6, e7⟩ := run_storeRow P g o t fz rest (i + 1) (cur.setIfInBounds (o + i) v) _ hnew (by simpa using hfz) (by simp at hl ⊢; omega) (fun x hx => h1 x (by simp [hx]))
    refine ⟨w', ?_, ?_, fun k hk => (e3 k hk).trans (Below.heap_setCell _ _ _ _ (by simpa using hk)), by rw [e4]; simp, by rw [e5]; rfl, by rw [e6]; rfl, by rw [e7]; rfl⟩
    · simp only [storeCells, Sem.run_bind, hst, Result.andThen_ok, e1]
    · rw [e2]; simp [splice, Nat.add_assoc]
/-- A run of cells is written. -/
theorem Sim.store (hs : Sim N c H w) {id off : Nat} {b : Blk} {l : Loc} (hb : H.get id = some b) (hc : c id = some l) (hro : b.ro = false) {vs vs' : List Value} (hv : VRL H.next c vs vs') (hle : off + vs.length ≤ b.cells.length) (hone : vs.all AM.one = true) (P : Program) :
    ∃ w', (storeCells ⟨l.blk, l.sh + off, none⟩ vs').run P w = .ok () w' ∧ Sim N c (H.set id (some { b with cells := splice b.cells off vs })) w' ∧ ExtW N c H w c (H.set id (some { b with cells := splice b.cells off vs })) w' := by
  obtain ⟨cs, ty, fz, mid, k1, k2, k3, k4, k5, k6⟩ := (hs.blk id b l hb hc).row
  obtain ⟨hN, hfz⟩ := k3 hro
  have hlt := get_lt hb
  have h1 := hv.one hone
  obtain ⟨w', e1, e2, e3, e4, e5, e6, e7⟩ := run_storeRow P l.blk (l.sh + off) ty fz vs' 0 cs w k1 (by rw [k2]; exact hfz) (by have := hv.1; omega) h1
  refine ⟨w', e1, ⟨fun j => ?_, fun j b' l' g1 g2 => ?_, fun j j' b' l1 l2 hne g1 gro g2 g3 => ?_, by rw [e4]; exact hs.size⟩, ⟨by simp, fun _ _ => .inl rfl, Nat.min_le_left _ _, fun j hj hlow => ⟨rfl, ?_, fun l' g => ?_⟩, e5, e6, e7, by rw [e4]; exact Nat.le_refl _, fun k hk => e3 k (by omega)⟩⟩
  · rw [get_set _ _ _ _ hlt]
    split
    · rename_i e; subst e; rw [hc]; rfl
    · exact hs.live j
  · rw [get_set _ _ _ _ hlt] at g1
    split at g1
    · rename_i e
      subst e
      obtain rfl := Option.some.inj g1
      rw [hc] at g2
      obtain rfl := Option.some.inj g2
      refine ⟨(hs.blk j b l hb hc).es, splice_ones _ _ _ (hs.blk j b l hb hc).ones hone, _, ty, fz, splice mid off vs', e2, by simp [splice_length, k2], fun _ => ⟨hN, hfz⟩, by rw [splice_length]; exact k4, fun i hi => ?_, by simpa using k6.splice off hv⟩
      rw [splice_length] at hi
      have hm := k6.1
      have hv1 := hv.1
      have hcl : cs.toList.length = l.sz := by simp [k2]
      simp only [List.getElem?_toArray]
      rw [splice_get _ _ _ _ (by rw [hcl]; omega)]
      have : (splice mid off vs')[i]? = some ((splice mid off vs').getD i Go.undef) := by
        rw [List.getD_eq_getElem?_getD]
        have : i < (splice mid off vs').length := by rw [splice_length]; omega
        rw [List.getElem?_eq_getElem this]; rfl
      rw [← this, splice_get _ _ _ _ (by omega)]
      by_cases h : off ≤ i ∧ i < off + vs'.length
      · rw [if_pos h, if_pos (by omega), show l.sh + i - (l.sh + off + 0) = i - off by omega]
      · rw [if_neg h, if_neg (by omega)]
        have := k5 i hi
        rw [Array.getElem?_toList, this, List.getD_eq_getElem?_getD, List.getElem?_eq_getElem (show i < mid.length by omega)]; rfl
    · rename_i e
      obtain ⟨cs', ty', fz', mid', q1, q2, q3, q4, q5, q6⟩ := (hs.blk j b' l' g1 g2).row
      refine ⟨(hs.blk j b' l' g1 g2).es, (hs.blk j b' l' g1 g2).ones, cs', ty', fz', mid', ?_, q2, q3, q4, q5, by simpa using q6⟩
      rw [e3 _ (fun h => hs.inj id j b l l' (fun h => e h.symm) hb hro hc g2 h.symm)]; exact q1
  · rw [get_set _ _ _ _ hlt] at g1
    split at g1
    · rename_i e
      subst e
      exact hs.inj j j' b l1 l2 hne hb hro g2 g3
    · exact hs.inj j j' b' l1 l2 hne g1 gro g2 g3
  · rw [get_set _ _ _ _ hlt]
    simp only [low_set] at hlow
    rw [if_neg (by omega)]
  · simp only [low_set] at hlow
    exact e3 _ (fun h => hs.inj id j b l l' (by omega) hb hro hc g h.symm)
/-- Blocks that are let go. -/
theorem Sim.kill (hs : Sim N c H w) {id : Nat} {b : Blk} (hb : H.get id = some b) :
    Sim N (fun j => if j = id then none else c j) (H.set id none) w ∧ ExtW N c H w (fun j => if j = id then none else c j) (H.set id none) w := by
  have hlt := get_lt hb
  have hdom : ∀ j, j < H.next → (fun j => if j = id then none else c j) j = c j ∨ (fun j => if j = id then none else c j) j = none := fun j _ => by
    by_cases e : j = id
    · right; simp [e]
    · left; simp [e]
  refine ⟨⟨fun j => ?_, fun j b' l' g1 g2 => ?_, fun j j' b' l1 l2 hne g1 gro g2 g3 => ?_, hs.size⟩, ⟨by simp, hdom, Nat.min_le_left _ _, fun j hj hlow => ?_, Below.refl _ _⟩⟩
  · rw [get_set _ _ _ _ hlt]
    by_cases e : j = id
    · simp [e]
    · simp only [if_neg e]; exact hs.live j
  · rw [get_set _ _ _ _ hlt] at g1
    by_cases e : j = id
    · rw [if_pos e] at g1; exact absurd g1 (by simp)
    · rw [if_neg e] at g1
      simp only [if_neg e] at g2
      obtain ⟨cs', ty', fz', mid', q1, q2, q3, q4, q5, q6⟩ := (hs.blk j b' l' g1 g2).row
      exact ⟨(hs.blk j b' l' g1 g2).es, (hs.blk j b' l' g1 g2).ones, cs', ty', fz', mid', q1, q2, q3, q4, q5, q6.mono (by simp) hdom⟩
  · rw [get_set _ _ _ _ hlt] at g1
    by_cases e : j = id
    · rw [if_pos e] at g1; exact absurd g1 (by simp)
    · rw [if_neg e] at g1
      simp only [if_neg e] at g2
      by_cases e' : j' = id
      · simp [e'] at g3
      · simp only [if_neg e'] at g3
        exact hs.inj j j' b' l1 l2 hne g1 gro g2 g3
  · simp only [low_set] at hlow
    exact ⟨if_neg (by omega), by rw [get_set _ _ _ _ hlt, if_neg (by omega)], fun _ _ => rfl⟩
/-- A draw turns nothing. -/
theorem Sim.same (hs : Sim N c H w) {w' : World} (h : w'.heap = w.heap) : Sim N c H w' :=
  ⟨hs.live, fun id b l h1 h2 => by
    obtain ⟨cs', ty', fz', mid', q1, q2⟩ := (hs.blk id b l h1 h2).row
    exact ⟨(hs.blk id b l h1 h2).es, (hs.blk id b l h1 h2).ones, cs', ty', fz', mid', by rw [h]; exact q1, q2⟩, hs.inj, by rw [h]; exact hs.size⟩
theorem ExtW.drew (N : Nat) (c : CMap) (H : AH) (w : World) : ExtW N c H w c H w.drew :=
  ⟨Nat.le_refl _, fun _ _ => .inl rfl, Nat.le_refl _, fun _ _ _ => ⟨rfl, rfl, fun _ _ => rfl⟩, (Below.refl _ _).drew⟩
theorem all_take_drop {l : List Value} {p : Value → Bool} (h : l.all p = true) (a n : Nat) : ((l.drop a).take n).all p = true := by
  rw [List.all_eq_true] at h ⊢
  intro x hx
  exact h x (List.mem_of_mem_drop (List.mem_of_mem_take hx))
/-- Cells that are read. -/
theorem Sim.read (hs : Sim N c H w) {a : Addr} {n : Nat} {cs : List Value} (h : ldc H a n = some cs) : ∃ l cs', c a.block = some l ∧ cs.length = n ∧ cs.all AM.one = true ∧ VRL H.next c cs cs' ∧ ∀ j v, cs'[j]? = some v → w.cell? ⟨l.blk, l.sh + a.off + j, none⟩ = some v := by
  unfold ldc at h
  cases hb : H.get a.block with
  | none => rw [hb] at h; simp at h
  | some b =>
    rw [hb] at h
    simp only at h
    by_cases hle : a.off + n ≤ b.cells.length
    · rw [if_pos hle] at h
      obtain rfl := Option.some.inj h
      obtain ⟨l, hc, hr⟩ := hs.at_ hb
      obtain ⟨ar, ty, fz, mid, k1, k2, k3, k4, k5, k6⟩ := hr.row
      refine ⟨l, (mid.drop a.off).take n, hc, by simp; omega, all_take_drop hr.ones _ _, (k6.drop a.off).take n, fun j v hj => ?_⟩
      have hm := k6.1
      rw [List.getElem?_take] at hj
      split at hj
      · rw [List.getElem?_drop] at hj
        have := k5 (a.off + j) (by omega)
        simp only [World.cell?, k1, Option.isSome_none, Bool.false_eq_true, if_false]
        rw [Nat.add_assoc, this, List.getD_eq_getElem?_getD, hj]; rfl
      · simp at hj
    · rw [if_neg hle] at h; simp at h
end heap
theorem Sim.under {N : Nat} {c : CMap} {H : AH} {w w' : World} (hs : Sim N c H w) (hb : Below w.heap.size w w') : Sim N c H w' ∧ ExtW N c H w c H w' := by
  have hblk : ∀ (id : Nat) (l : Loc), c id = some l → w'.heap[l.blk]? = w.heap[l.blk]? := fun id l h => hb.block _ (c_old hs h)
  refine ⟨⟨hs.live, fun id b l h1 h2 => ?_, hs.inj, Nat.le_trans hs.size hb.size⟩, ⟨Nat.le_refl _, fun _ _ => .inl rfl, Nat.le_refl _, fun id _ _ => ⟨rfl, rfl, fun l h => hblk id l h⟩, ⟨hb.os, hb.tape, hb.output, hb.size, fun k hk => hb.block k (Nat.lt_of_lt_of_le hk hs.size)⟩⟩⟩
  obtain ⟨e1, e2, cs, ty, fz, mid, h3, h4, h5, h6, h7, h8⟩ := hs.blk id b l h1 h2
  exact ⟨e1, e2, cs, ty, fz, mid, by rw [hblk id l h2]; exact h3, h4, h5, h6, h7, h8⟩
theorem sim_lone (w : World) : Sim w.heap.size (fun _ => none) AH.lone w := by
  refine ⟨fun id => ?_, fun id b l hb hc => by simp at hc, fun id id' b l l' _ _ _ hc _ => by simp at hc, Nat.le_refl _⟩
  have : AH.lone.get id = none := by
    unfold AH.lone AH.get
    cases id with
    | zero => rfl
    | succ n => simp
  rw [this]; rfl
end Go.Proofs.Ytidpkoaomfbljaa.AM
/- Operations are compiled; what a compiled operation computes is what the model's operation does. -/
namespace Go.Proofs.Ytidpkoaomfbljaa.AM
open Go Go.RowKit
set_option linter.all false

def opdOk : Operand → Bool
  | .tmp _ => true
  | .const v => p3 v
  | .func _ => true
  | .global _ => false
def isAggT : TypeDesc → Bool
  | .struct _ | .array _ _ => true
  | _ => false
/-- How many cells an element of a slice of this variable has. -/
def esOf (P : Program) (t : TypeId) : Nat :=
  match P.underlying t with
  | some (.array _ e) => P.cellsOf e
  | _ => 1
def partsOf (P : Program) (place : Nat → Option (Nat × TypeId)) : List (Nat × Operand) → Option (List (Nat × Nat × Operand))
  | [] => some []
  | (i, x) :: r => match place i, partsOf P place r with
    | some (off, t), some l => (match P.info? t with | some ti => some ((off, ti.size, x) :: l) | none => none)
    | _, _ => none
def tkOf : TypeDesc → Option TK
  | .int _ => some .int
  | .bool => some .bool
  | .string => some .str
  | .pointer _ => some .ptr
  | .slice _ => some .slc
  | .func _ _ _ => some .fnc
  | .interface _ => some .ifc
  | _ => none
def scalarK (P : Program) (t : TypeId) : Option TK :=
  if P.cellsOf t = 1 then
  match P.underlying t with
  | some (.int _) => some .int
  | some .bool => some .bool
  | some .string => some .str
  | _ => none
  else none
def offsOf (P : Program) : List Field → Option (List (Nat × TK))
  | [] => some []
  | f :: r => if f.name = "_" then offsOf P r else
    match scalarK P f.type, offsOf P r with
    | some k, some l => some ((f.offset, k) :: l)
    | _, _ => none
def compBuiltin (P : Program) (b : Builtin) (ts : List TypeId) (xs : List Operand) : Option MI :=
  match b, ts, xs with
  | .len, [t], [x] => (match P.underlying t with
    | some .string => some (.lenStr x)
    | some (.slice _) => some (.len x)
    | some (.array n _) => some (.lenC n)
    | some (.pointer e) => (match P.underlying e with | some (.array n _) => some (.lenC n) | _ => none)
    | _ => none)
  | .cap, [t], [x] => (match P.underlying t with | some (.slice _) => some (.cap x) | _ => none)
  | .min, _, x :: xs => some (.min x xs)
  | .max, _, x :: xs => some (.max x xs)
  | .append, [t, u], [s, x] => (match P.underlying t with
    | some (.slice e) => (match P.info? e with
      | some ei =>
        if ei.size = 0 ∨ ei.bytes = 0 then none else
        (match P.underlying u with
        | some (.slice _) => (match ei.zero with | some z => if ei.size = z.cells.size then some (.append ei.size ei.bytes s x) else none | none => none)
        | some .string => (match ei.zero with | some z => if ei.size = z.cells.size then some (.append ei.size ei.bytes s x) else none | none => none)
        | _ => none)
      | none => none)
    | _ => none)
  | .copy, [t, _], [d, s] => (match P.underlying t with
    | some (.slice e) => (match P.info? e with | some ei => some (.copy ei.size d s) | none => none)
    | _ => none)
  | _, _, _ => none
/-- Variables that hold maps are not read, unless they are great. -/
def deadT (P : Program) (t : TypeId) : Bool :=
  match P.info? t with
  | some i => (match i.zero with | some z => decide (z.cells.size ≤ 10) && z.cells.toList.any (fun | .map _ => true | _ => false) | none => false)
  | none => false
def compOp (P : Program) (o : Oper) : Option MI :=
  match o.op with
  | .move x | .assign x => some (.mov x)
  | .pick c a b => some (.pick c a b)
  | .alloc t => (match P.info? t with
    | some i => (match i.zero with | some z => if z.cells.toList.all p1 = true then some (.alloc z.cells.toList (esOf P t)) else none | none => none)
    | none => none)
  | .box t x => if deadT P t = true then some (.boxDead x) else some (.box (esOf P t) x)
  | .build t parts => (match P.info? t with
    | some i => (match i.zero with
      | some z => if z.cells.toList.all p1 = true then (match P.underlying t with
        | some (.struct fs) => if fs.toList.all (fun f => (P.info? f.type).isSome) = true then (match partsOf P (fun j => (fs[j]?).map fun f => (f.offset, f.type)) parts.toList with | some l => some (.build z.cells.toList l) | none => none) else none
        | some (.array _ e) => if (P.info? e).isSome = true then (match partsOf P (fun j => some (j * P.cellsOf e, e)) parts.toList with | some l => some (.build z.cells.toList l) | none => none) else none
        | _ => none) else none
      | none => none)
    | none => none)
  | .buildSlice t n parts => (match P.underlying t with
    | some (.slice e) => (match P.info? e with
      | some i => (match i.zero with
        | some z =>
          if z.cells.toList.all p1 = true ∧ n * i.size ≤ 2 ^ 24 ∧ 0 < i.size ∧ z.cells.size = i.size then (match partsOf P (fun j => some (j * i.size, e)) parts.toList with
            | some l => some (.buildSlice (rep n z.cells.toList) i.size n l)
            | none => none) else none
        | none => none)
      | none => none)
    | _ => none)
  | .load t a => (match P.underlying t, P.info? t with
    | some d, some i => if isAggT d = true then some (.load true i.size a) else some (.load false 1 a)
    | _, _ => none)
  | .store t a x => (match P.info? t with | some i => some (.store i.size a x) | none => none)
  | .nilCheck x => some (.nilCheck x)
  | .binOp op t x y _ => (match P.underlying t with
    | some (.array n e) => if P.eqGuardType P.depth t = false ∧ (P.info? e).isSome = true then (match scalarK P e, op with
      | some k, .eql => some (.eqc false ((List.range n).map fun i => (i, k)) x y)
      | some k, .neq => some (.eqc true ((List.range n).map fun i => (i, k)) x y)
      | _, _ => none) else none
    | some (.struct fs) => if P.eqGuardType P.depth t = false ∧ P.stoodInHeld t = false then (match offsOf P fs.toList, op with
      | some l, .eql => some (.eqc false l x y)
      | some l, .neq => some (.eqc true l x y)
      | _, _ => none) else none
    | some d => (match tkOf d with | some k => some (.bin k op x y) | none => none)
    | none => none)
  | .unOp op _ x => some (.un op x)
  | .convert s d x => (match P.underlying s, P.underlying d with
    | some (.int _), some (.int k) => some (.conv k x)
    | some .string, some .string => some (.strMov x)
    | some .string, some (.slice e) => (match P.underlying e with | some (.int .u8) => some (.toBytes x) | _ => none)
    | some (.slice e), some .string => (match P.underlying e with | some (.int .u8) => some (.toStr x) | _ => none)
    | _, _ => none)
  | .makeMap _ none => some .newMap
  | .sliceToArrayPointer t x => (match P.underlying t with | some (.array n _) => some (.toArr n x) | _ => none)
  | .makeInterface t x => (match P.underlying t with | some (.interface _) => none | some _ => some (.mkIface t x) | none => none)
  | .makeFunc fn a b => some (.mkFunc fn a.toList b.toList)
  | .makeSlice t l c => (match P.underlying t with
    | some (.slice e) => (match P.info? e with
      | some i => (match i.zero with | some z => if i.size = z.cells.size ∧ 0 < i.size ∧ z.cells.toList.all p1 = true then some (.mkSlice z.cells.toList i.size i.bytes l c) else none | none => none)
      | none => none)
    | _ => none)
  | .slice t x lo hi none => (match P.underlying t with
    | some .string => some (.sliceStr x lo hi)
    | some (.slice e) => (match P.info? e with | some i => some (.sliceS i.size x lo hi) | none => none)
    | some (.array n e) => (match P.info? e with | some i => some (.sliceA n i.size x lo hi) | none => none)
    | some (.pointer q) => (match P.underlying q with
      | some (.array n e) => (match P.info? e with | some i => some (.sliceA n i.size x lo hi) | none => none)
      | _ => none)
    | _ => none)
  | .fieldAddr s x j => (match P.underlying s with
    | some (.struct fs) => (match fs[j]? with
      | some f => (match P.info? f.type with | some i => if i.size = 0 then none else some (.addOff f.offset x) | none => none)
      | none => none)
    | _ => none)
  | .field s x j => (match P.underlying s with
    | some (.struct fs) => (match fs[j]? with
      | some f => (match P.info? f.type, P.underlying f.type with
        | some i, some d => if isAggT d = true then some (.field true f.offset i.size x) else some (.field false f.offset 1 x)
        | _, _ => none)
      | none => none)
    | _ => none)
  | .indexAddr t x i => (match P.underlying t with
    | some (.slice e) => (match P.info? e with | some ei => some (.idxS ei.size x i) | none => none)
    | some (.array n e) => (match P.info? e with | some ei => some (.idxA n ei.size x i) | none => none)
    | _ => none)
  | .index t x i => (match P.underlying t with
    | some .string => some (.strIdx x i)
    | some (.array n e) => (match P.info? e, P.underlying e with
      | some ei, some d => if isAggT d = true then some (.arrIdx true n ei.size x i) else if ei.size = 1 then some (.arrIdx false n 1 x i) else none
      | _, _ => none)
    | _ => none)
  | .extract x i => some (.extract x i)
  | .call c => (match c.callee with
    | .builtin b => compBuiltin P b c.argTypes.toList c.args.toList
    | .value g => some (.call false g c.args.toList)
    | .invoke _ _ => none)
  | _ => none

section
variable {P : Program} {N : Nat} {c : CMap} {H : AH} {w : World} {f : Fr} {ρ : Operand → Value}
/-- What an operation that yields a value does. -/
def Does (P : Program) (N : Nat) (c : CMap) (H : AH) (w : World) (r : Sem Value) (v : Value) (H' : AH) : Prop :=
  ∃ v' c' w', r.run P w = .ok v' w' ∧ VR H'.next c' v v' ∧ Sim N c' H' w' ∧ ExtW N c H w c' H' w'
theorem Does.pure (hs : Sim N c H w) {r : Sem Value} {v v' : Value} (hr : r.run P w = .ok v' w) (hv : VR H.next c v v') : Does P N c H w r v H :=
  ⟨v', c, w, hr, hv, hs, .refl _ _ _ _⟩

/-! ### Inversions -/
theorem VR.bool {n : Nat} {c : CMap} {b : Bool} {v' : Value} (h : VR n c (.bool b) v') : v' = .bool b := h.eq1 rfl
theorem VR.int {n : Nat} {c : CMap} {k : IntKind} {x : Int} {v' : Value} (h : VR n c (.int k x) v') : v' = .int k x := h.eq1 rfl
theorem VR.str {n : Nat} {c : CMap} {s : ByteArray} {v' : Value} (h : VR n c (.string s) v') : v' = .string s := h.eq1 rfl
theorem VR.nilF {n : Nat} {c : CMap} {v' : Value} (h : VR n c .nilFunc v') : v' = .nilFunc := h.eq1 rfl
theorem VR.ptrI {n : Nat} {c : CMap} {a : Option Addr} {v' : Value} (h : VR n c (.pointer a) v') : ∃ a', v' = .pointer a' ∧ a'.isNone = a.isNone := by
  cases h with
  | plain h => exact ⟨a, rfl, rfl⟩
  | ptr h1 h2 h3 => exact ⟨_, rfl, rfl⟩
  | ptrDead h1 h2 => exact ⟨_, rfl, rfl⟩
theorem VR.ptrL {n : Nat} {c : CMap} {a : Addr} {l : Loc} {v' : Value} (h : VR n c (.pointer (some a)) v') (hc : c a.block = some l) : v' = .pointer (some ⟨l.blk, l.sh + a.off, none⟩) ∧ a.block < n := by
  cases h with
  | plain h => simp [p1] at h
  | ptr h1 h2 h3 => rw [hc] at h2; obtain rfl := Option.some.inj h2; exact ⟨rfl, h1⟩
  | ptrDead h1 h2 => rw [hc] at h2; simp at h2
theorem VR.ptrSpot {n : Nat} {c : CMap} {a : Addr} {l : Loc} {v' : Value} (h : VR n c (.pointer (some a)) v') (hc : c a.block = some l) : a.spot = none := by
  cases h with
  | plain h => simp [p1] at h
  | ptr h1 h2 h3 => exact h3
  | ptrDead h1 h2 => rw [hc] at h2; simp at h2
theorem VR.slcI {n : Nat} {c : CMap} {a : Option Addr} {m k : Nat} {v' : Value} (h : VR n c (.slice a m k) v') : ∃ a' k', v' = .slice a' m k' ∧ a'.isNone = a.isNone := by
  cases h with
  | plain h => exact ⟨a, k, rfl, rfl⟩
  | slice h1 h2 h3 => exact ⟨_, _, rfl, rfl⟩
  | sliceDead h1 h2 => exact ⟨_, _, rfl, rfl⟩
theorem VR.slcN {n : Nat} {c : CMap} {m k : Nat} {v' : Value} (h : VR n c (.slice none m k) v') : v' = .slice none m k := h.eq1 rfl
theorem VR.slcL {n : Nat} {c : CMap} {a : Addr} {m k : Nat} {l : Loc} {v' : Value} (h : VR n c (.slice (some a) m k) v') (hc : c a.block = some l) : ∃ k', v' = .slice (some ⟨l.blk, l.sh + a.off, none⟩) m k' ∧ a.block < n ∧ k ≤ k' ∧ l.sh + a.off + k' * l.es ≤ l.sz := by
  cases h with
  | plain h => simp [p1] at h
  | slice h1 h2 h3 h4 h5 => rw [hc] at h2; obtain rfl := Option.some.inj h2; exact ⟨_, rfl, h1, h4, h5⟩
  | sliceDead h1 h2 => rw [hc] at h2; simp at h2
theorem VR.slcSpot {n : Nat} {c : CMap} {a : Addr} {m k : Nat} {l : Loc} {v' : Value} (h : VR n c (.slice (some a) m k) v') (hc : c a.block = some l) : a.spot = none := by
  cases h with
  | plain h => simp [p1] at h
  | slice h1 h2 h3 h4 h5 => exact h3
  | sliceDead h1 h2 => rw [hc] at h2; simp at h2
theorem VR.funcI {n : Nat} {c : CMap} {fn : Fn} {a b : Array Value} {v' : Value} (h : VR n c (.func fn a b) v') : ∃ a' b', v' = .func fn a' b' ∧ VRL n c a.toList a'.toList ∧ VRL n c b.toList b'.toList := by
  cases h with
  | plain h => obtain ⟨rfl, rfl⟩ := p1_of_empty h; exact ⟨_, _, rfl, .nil, .nil⟩
  | @func fn f f' g g' hf hg h1 h2 => exact ⟨_, _, rfl, ⟨by simpa using hf, fun j hj => by simpa using h1 j (by simpa using hj)⟩, ⟨by simpa using hg, fun j hj => by simpa using h2 j (by simpa using hj)⟩⟩

theorem VR.ifcI {n : Nat} {c : CMap} {t : TypeId} {u v' : Value} (h : VR n c (.iface t u) v') : ∃ u', v' = .iface t u' ∧ VR n c u u' := by
  cases h with
  | plain h => simp [p1] at h
  | iface h => exact ⟨_, rfl, h⟩
theorem VR.nilI {n : Nat} {c : CMap} {v' : Value} (h : VR n c .nilIface v') : v' = .nilIface := h.eq1 rfl

theorem add_eq (b o n : Nat) : (⟨b, o, none⟩ : Addr).add n = ⟨b, o + n, none⟩ := by unfold Addr.add; split <;> simp_all
theorem run_underlying {t : TypeId} {d : TypeDesc} (h : P.underlying t = some d) : (underlying t).run P w = .ok d w := by simp [underlying, h]
theorem run_typeInfo {t : TypeId} {i : TypeInfo} (h : P.info? t = some i) : (typeInfo t).run P w = .ok i w := by simp [typeInfo, h]
theorem run_sizeOf {t : TypeId} {i : TypeInfo} (h : P.info? t = some i) : (sizeOf t).run P w = .ok i.size w := by simp [sizeOf, run_typeInfo h]
theorem run_zeroValue {t : TypeId} {i : TypeInfo} {z : Value} (h : P.info? t = some i) (hz : i.zero = some z) : (zeroValue t).run P w = .ok z w := by simp [zeroValue, run_typeInfo h, hz]
theorem run_isAgg {t : TypeId} {d : TypeDesc} (h : P.underlying t = some d) : (isAgg t).run P w = .ok (isAggT d) w := by
  simp only [isAgg, Sem.run_bind, run_underlying h, Result.andThen_ok]
  cases d <;> rfl
end
end Go.Proofs.Ytidpkoaomfbljaa.AM
/- What a compiled operation computes is what the model's operation does: the operations that leave the heap alone. -/
namespace Go.Proofs.Ytidpkoaomfbljaa.AM
open Go Go.RowKit
set_option linter.all false
section
variable {P : Program} {N : Nat} {c : CMap} {H : AH} {w : World} {f : Fr} {ρ : Operand → Value}

theorem guard_pass {op : BinOp} {t : TypeId} {ox oy : Operand} {a b : Value} (h1 : ∀ x y, a = .agg x → b = .agg y → False) (h2 : a = .nilIface → b = .nilIface → False) : (eqGuard op t ox oy a b).run P w = .ok () w := by
  unfold eqGuard
  generalize (!(match op with | .eql => true | .neq => true | _ => false)) = t1
  cases t1
  · rw [if_neg (by simp)]
    split
    · exact (h2 rfl rfl).elim
    · exact (h1 _ _ rfl rfl).elim
    · rfl
  · rfl
theorem depth_succ : ∃ d, Op.maxDepth = d + 1 := ⟨9999, rfl⟩
theorem run_eq_bool {t : TypeId} {a b : Bool} (hu : P.underlying t = some .bool) : (Op.equal t (.bool a) (.bool b)).run P w = .ok (a == b) w := by
  obtain ⟨d, hd⟩ := depth_succ
  unfold Op.equal
  rw [hd]
  simp [Op.equalIn, run_underlying hu]
theorem run_eq_ptr {t e : TypeId} {a b : Option Addr} {r : Bool} (hu : P.underlying t = some (.pointer e)) (h : eqNil a b = some r) : (Op.equal t (.pointer a) (.pointer b)).run P w = .ok r w := by
  obtain ⟨d, hd⟩ := depth_succ
  unfold Op.equal
  rw [hd]
  cases a <;> cases b <;> simp only [eqNil, Option.some.injEq, reduceCtorEq] at h <;> subst h <;> simp [Op.equalIn, run_underlying hu]
theorem run_eq_slc {t e : TypeId} {a b : Option Addr} {m1 k1 m2 k2 : Nat} {r : Bool} (hu : P.underlying t = some (.slice e)) (h : eqNil a b = some r) : (Op.equal t (.slice a m1 k1) (.slice b m2 k2)).run P w = .ok r w := by
  obtain ⟨d, hd⟩ := depth_succ
  unfold Op.equal
  rw [hd]
  cases a <;> cases b <;> simp only [eqNil, Option.some.injEq, reduceCtorEq] at h <;> subst h <;> simp [Op.equalIn, run_underlying hu]
theorem eqNil_congr {a b a' b' : Option Addr} (ha : a'.isNone = a.isNone) (hb : b'.isNone = b.isNone) : eqNil a' b' = eqNil a b := by
  cases a <;> cases b <;> cases a' <;> cases b' <;> simp_all [eqNil]
theorem run_eql {t : TypeId} {x y v : Value} {r : Bool} {op : BinOp} (h1 : ∀ k a k' b, x = .int k a → y = .int k' b → False) (h2 : ∀ k a k' b, x = .float k a → y = .float k' b → False) (h3 : ∀ k a b k' c d, x = .complex k a b → y = .complex k' c d → False) (h4 : ∀ a b, x = .string a → y = .string b → False) (he : (Op.equal t x y).run P w = .ok r w) (h : eqOp op (some r) = some v) : (binOp op t x y).run P w = .ok v w := by
  cases op <;> simp only [eqOp, Option.some.injEq, reduceCtorEq] at h <;> subst h
  · unfold binOp
    split <;> first | (simp [he]; done) | (exfalso; first | exact h1 _ _ _ _ rfl rfl | exact h2 _ _ _ _ rfl rfl | exact h3 _ _ _ _ _ _ rfl rfl | exact h4 _ _ rfl rfl | (simp_all; done))
  · unfold binOp
    split <;> first | (simp [he]; done) | (exfalso; first | exact h1 _ _ _ _ rfl rfl | exact h2 _ _ _ _ rfl rfl | exact h3 _ _ _ _ _ _ rfl rfl | exact h4 _ _ rfl rfl | (simp_all; done))
theorem str_beq (a b : ByteArray) : (a.toList == b.toList) = decide (a = b) := by
  rw [Lib.toList_data, Lib.toList_data]
  by_cases h : a = b
  · subst h; simp
  · have : a.data.toList ≠ b.data.toList := fun e => h (by
      cases a; cases b; simp only [ByteArray.mk.injEq]; exact Array.toList_inj.1 e)
    simp [h, show ¬ a.data = b.data from fun e => this (by rw [e])]
theorem run_intBin {op : BinOp} {t : TypeId} {k : IntKind} {a b : Int} {v : Value} (h1 : op ≠ .shl) (h2 : op ≠ .shr) (h : intBin op k a b = some v) : (binOp op t (.int k a) (.int k b)).run P w = .ok v w ∧ p1 v = true := by
  cases op <;> simp only [intBin, Option.some.injEq, reduceCtorEq, ne_eq] at h h1 h2 <;> first
    | (subst h; refine ⟨?_, rfl⟩; simp [binOp, Op.intArith, Op.intBits, Op.intCmp, bitsK]; done)
    | (subst h; refine ⟨?_, rfl⟩; simp [binOp, Op.intCmp]; rfl)
    | (split at h
       · simp at h
       · rename_i hb; obtain rfl := Option.some.inj h; refine ⟨?_, rfl⟩; simp [binOp, Op.intDiv, hb])
theorem run_bin {op : BinOp} {t : TypeId} {d : TypeDesc} {k : TK} {ox oy : Operand} {x y x' y' v : Value} {n : Nat} (hu : P.underlying t = some d) (hk : tkOf d = some k) (hx : VR n c x x') (hy : VR n c y y') (h : binV k op x y = some v) :
    (do eqGuard op t ox oy x' y'; binOp op t x' y' : Sem Value).run P w = .ok v w ∧ p1 v = true := by
  have hg : (∀ p q, x' = .agg p → y' = .agg q → False) → (x' = .nilIface → y' = .nilIface → False) → (binOp op t x' y').run P w = .ok v w → (do eqGuard op t ox oy x' y'; binOp op t x' y' : Sem Value).run P w = .ok v w := fun h1 h2 h3 => by
    simp only [Sem.run_bind, guard_pass h1 h2, Result.andThen_ok, h3]
  unfold binV at h
  split at h
  · -- whole numbers
    rename_i kx a ky b
    obtain rfl := hx.int
    obtain rfl := hy.int
    split at h
    · unfold shBin at h
      split at h
      · simp at h
      · rename_i hb
        obtain rfl := Option.some.inj h
        exact ⟨hg (by simp) (by simp) (by simp [binOp, Op.shift, hb, shiftK]), rfl⟩
    · unfold shBin at h
      split at h
      · simp at h
      · rename_i hb
        obtain rfl := Option.some.inj h
        exact ⟨hg (by simp) (by simp) (by simp [binOp, Op.shift, hb, shiftK]), rfl⟩
    · rename_i h1 h2
      split at h
      · rename_i e
        subst e
        obtain ⟨r1, r2⟩ := run_intBin (P := P) (w := w) (t := t) (fun e => h1 e) (fun e => h2 e) h
        exact ⟨hg (by simp) (by simp) r1, r2⟩
      · simp at h
  · -- bools
    rename_i a b
    obtain rfl := hx.bool
    obtain rfl := hy.bool
    have hd : d = .bool := by cases d <;> simp [tkOf] at hk; rfl
    subst hd
    exact ⟨hg (by simp) (by simp) (run_eql (by simp) (by simp) (by simp) (by simp) (run_eq_bool hu) h), by cases op <;> simp only [eqOp, Option.some.injEq, reduceCtorEq] at h <;> subst h <;> rfl⟩
  · -- strings
    rename_i a b
    obtain rfl := hx.str
    obtain rfl := hy.str
    cases op <;> simp only [strBin, reduceCtorEq, Option.some.injEq] at h <;> first
      | (subst h; refine ⟨hg (by simp) (by simp) ?_, rfl⟩; simp [binOp, Op.stringOp, str_beq]; done)
      | (split at h
         · rename_i hb
           obtain rfl := Option.some.inj h
           refine ⟨hg (by simp) (by simp) ?_, rfl⟩
           have : ¬ (((a.size + b.size : Nat) : Int) > IntKind.i64.max) := by
             have e : IntKind.i64.max = 9223372036854775807 := by decide
             rw [e]; omega
           simp only [binOp, Op.stringOp]
           rw [if_neg this]; rfl
         · simp at h)
  · -- pointers
    rename_i a b
    obtain ⟨a', rfl, ha⟩ := hx.ptrI
    obtain ⟨b', rfl, hb⟩ := hy.ptrI
    obtain ⟨e, rfl⟩ : ∃ e, d = .pointer e := by cases d <;> simp [tkOf] at hk; exact ⟨_, rfl⟩
    rw [← eqNil_congr ha hb] at h
    cases hq : eqNil a' b' with
    | none => rw [hq] at h; cases op <;> simp [eqOp] at h
    | some r =>
      rw [hq] at h
      exact ⟨hg (by simp) (by simp) (run_eql (by simp) (by simp) (by simp) (by simp) (run_eq_ptr hu hq) h), by cases op <;> simp only [eqOp, Option.some.injEq, reduceCtorEq] at h <;> subst h <;> rfl⟩
  · -- slices
    rename_i a m1 k1 b m2 k2
    obtain ⟨a', k1', rfl, ha⟩ := hx.slcI
    obtain ⟨b', k2', rfl, hb⟩ := hy.slcI
    obtain ⟨e, rfl⟩ : ∃ e, d = .slice e := by cases d <;> simp [tkOf] at hk; exact ⟨_, rfl⟩
    rw [← eqNil_congr ha hb] at h
    cases hq : eqNil a' b' with
    | none => rw [hq] at h; cases op <;> simp [eqOp] at h
    | some r =>
      rw [hq] at h
      exact ⟨hg (by simp) (by simp) (run_eql (by simp) (by simp) (by simp) (by simp) (run_eq_slc hu hq) h), by cases op <;> simp only [eqOp, Option.some.injEq, reduceCtorEq] at h <;> subst h <;> rfl⟩
  · obtain rfl := hx.nilF
    obtain rfl := hy.nilF
    obtain ⟨p1, p2, p3, rfl⟩ : ∃ p1 p2 p3, d = .func p1 p2 p3 := by cases d <;> simp [tkOf] at hk; exact ⟨_, _, _, rfl⟩
    have he : (Op.equal t .nilFunc .nilFunc).run P w = .ok true w := by
      obtain ⟨d, hd⟩ := depth_succ
      unfold Op.equal; rw [hd]; simp [Op.equalIn, run_underlying hu]
    exact ⟨hg (by simp) (by simp) (run_eql (by simp) (by simp) (by simp) (by simp) he h), by cases op <;> simp only [eqOp, Option.some.injEq, reduceCtorEq] at h <;> subst h <;> rfl⟩
  · obtain rfl := hx.nilF
    obtain ⟨a1, a2, rfl, _, _⟩ := hy.funcI
    obtain ⟨p1, p2, p3, rfl⟩ : ∃ p1 p2 p3, d = .func p1 p2 p3 := by cases d <;> simp [tkOf] at hk; exact ⟨_, _, _, rfl⟩
    have he : ∀ fn, (Op.equal t .nilFunc (.func fn a1 a2)).run P w = .ok false w := fun fn => by
      obtain ⟨d, hd⟩ := depth_succ
      unfold Op.equal; rw [hd]; simp [Op.equalIn, run_underlying hu]
    exact ⟨hg (by simp) (by simp) (run_eql (by simp) (by simp) (by simp) (by simp) (he _) h), by cases op <;> simp only [eqOp, Option.some.injEq, reduceCtorEq] at h <;> subst h <;> rfl⟩
  · obtain rfl := hy.nilF
    obtain ⟨a1, a2, rfl, _, _⟩ := hx.funcI
    obtain ⟨p1, p2, p3, rfl⟩ : ∃ p1 p2 p3, d = .func p1 p2 p3 := by cases d <;> simp [tkOf] at hk; exact ⟨_, _, _, rfl⟩
    have he : ∀ fn, (Op.equal t (.func fn a1 a2) .nilFunc).run P w = .ok false w := fun fn => by
      obtain ⟨d, hd⟩ := depth_succ
      unfold Op.equal; rw [hd]; simp [Op.equalIn, run_underlying hu]
    exact ⟨hg (by simp) (by simp) (run_eql (by simp) (by simp) (by simp) (by simp) (he _) h), by cases op <;> simp only [eqOp, Option.some.injEq, reduceCtorEq] at h <;> subst h <;> rfl⟩
  · obtain rfl := hx.nilI
    obtain ⟨u', rfl, _⟩ := hy.ifcI
    obtain ⟨ms, rfl⟩ : ∃ ms, d = .interface ms := by cases d <;> simp [tkOf] at hk; exact ⟨_, rfl⟩
    have he : ∀ t1, (Op.equal t .nilIface (.iface t1 u')).run P w = .ok false w := fun t1 => by
      obtain ⟨d, hd⟩ := depth_succ
      unfold Op.equal; rw [hd]; simp [Op.equalIn, run_underlying hu]
    exact ⟨hg (by simp) (by simp) (run_eql (by simp) (by simp) (by simp) (by simp) (he _) h), by cases op <;> simp only [eqOp, Option.some.injEq, reduceCtorEq] at h <;> subst h <;> rfl⟩
  · obtain rfl := hy.nilI
    obtain ⟨u', rfl, _⟩ := hx.ifcI
    obtain ⟨ms, rfl⟩ : ∃ ms, d = .interface ms := by cases d <;> simp [tkOf] at hk; exact ⟨_, rfl⟩
    have he : ∀ t1, (Op.equal t (.iface t1 u') .nilIface).run P w = .ok false w := fun t1 => by
      obtain ⟨d, hd⟩ := depth_succ
      unfold Op.equal; rw [hd]; simp [Op.equalIn, run_underlying hu]
    exact ⟨hg (by simp) (by simp) (run_eql (by simp) (by simp) (by simp) (by simp) (he _) h), by cases op <;> simp only [eqOp, Option.some.injEq, reduceCtorEq] at h <;> subst h <;> rfl⟩
  · simp at h
end
end Go.Proofs.Ytidpkoaomfbljaa.AM
/- More of the same: values taken apart and put together, addresses, strings. -/
namespace Go.Proofs.Ytidpkoaomfbljaa.AM
open Go Go.RowKit
set_option linter.all false
section
variable {P : Program} {N : Nat} {c : CMap} {H : AH} {w : World} {f : Fr} {ρ : Operand → Value}

theorem run_un {op : UnOp} {x x' v : Value} {n : Nat} (hx : VR n c x x') (h : unV op x = some v) : (Op.unary op x').run P w = .ok v w ∧ p1 v = true := by
  unfold unV at h
  split at h
  · obtain rfl := hx.bool; obtain rfl := Option.some.inj h; exact ⟨by simp [Op.unary], rfl⟩
  · obtain rfl := hx.int; obtain rfl := Option.some.inj h; exact ⟨by simp [Op.unary, Op.intArith], rfl⟩
  · obtain rfl := hx.int; obtain rfl := Option.some.inj h; exact ⟨by simp [Op.unary, Op.intBits, bitsK], rfl⟩
  · simp at h
theorem run_part1 {t : TypeId} {d : TypeDesc} {i : TypeInfo} (hu : P.underlying t = some d) (hi : P.info? t = some i) (ha : isAggT d = true) (cs : Array Value) (off : Nat) : (part t cs off).run P w = .ok (.agg (cs.extract off (off + i.size))) w := by
  simp [part, run_isAgg hu, ha, run_sizeOf hi]
theorem run_part0 {t : TypeId} {d : TypeDesc} (hu : P.underlying t = some d) (ha : isAggT d = false) {cs : Array Value} {off : Nat} {v : Value} (hv : cs[off]? = some v) : (part t cs off).run P w = .ok v w := by
  simp [part, run_isAgg hu, ha, hv]
theorem extract_list (cs : Array Value) (a n : Nat) : cs.extract a (a + n) = ((cs.toList.drop a).take n).toArray := by
  rw [← Array.toList_inj]; simp [Array.toList_extract, List.extract]
/-- A part of an aggregate. -/
theorem part_ok {t : TypeId} {d : TypeDesc} {i : TypeInfo} (hu : P.underlying t = some d) (hi : P.info? t = some i) {cs cs' : Array Value} (hv : VRL H.next c cs.toList cs'.toList) {off n : Nat} {agg : Bool} (hagg : (isAggT d = true ∧ agg = true ∧ n = i.size) ∨ (isAggT d = false ∧ agg = false ∧ n = 1)) (hle : off + n ≤ cs.size) {v : Value} (h : oneOf agg ((cs.toList.drop off).take n) = some v) :
    ∃ v', (part t cs' off).run P w = .ok v' w ∧ VR H.next c v v' := by
  have hsz : cs.size = cs'.size := by simpa using hv.1
  rcases hagg with ⟨ha, rfl, rfl⟩ | ⟨ha, rfl, rfl⟩
  · simp only [oneOf, if_true, Option.some.injEq] at h
    subst h
    exact ⟨_, run_part1 hu hi ha cs' off, by rw [extract_list]; exact ((hv.drop off).take _).agg⟩
  · simp only [oneOf, Bool.false_eq_true, if_false] at h
    have hlt : off < cs.toList.length := by simp; omega
    have hlt' : off < cs'.toList.length := by simp; omega
    rw [List.drop_eq_getElem_cons hlt] at h
    simp only [List.take_succ_cons, List.take_zero, Option.some.injEq] at h
    subst h
    refine ⟨cs'[off]'(by simpa using hlt'), run_part0 hu ha (by simp [show off < cs'.size by simpa using hlt']), ?_⟩
    have := hv.2 off hlt
    simpa [List.getD_eq_getElem?_getD, show off < cs.size by simpa using hlt, show off < cs'.size by simpa using hlt'] using this
theorem run_field {s : TypeId} {fs : Array Field} {j : Nat} {fd : Field} {d : TypeDesc} {i : TypeInfo} (hs : P.underlying s = some (.struct fs)) (hj : fs[j]? = some fd) (hu : P.underlying fd.type = some d) (hi : P.info? fd.type = some i) {x' : Value} {cs : Array Value} (hx : VR H.next c (.agg cs) x') {n : Nat} {agg : Bool} (hagg : (isAggT d = true ∧ agg = true ∧ n = i.size) ∨ (isAggT d = false ∧ agg = false ∧ n = 1)) (hle : fd.offset + n ≤ cs.size) {v : Value} (h : oneOf agg ((cs.toList.drop fd.offset).take n) = some v) :
    ∃ v', (Instr.field s x' j).run P w = .ok v' w ∧ VR H.next c v v' := by
  obtain ⟨cs', rfl, hv⟩ := VRL.of_agg hx
  obtain ⟨v', e, hr⟩ := part_ok (P := P) (w := w) hu hi hv hagg hle h
  exact ⟨v', by simp [Instr.field, run_underlying hs, hj, asAgg, e], hr⟩
theorem run_arrIdx {t e : TypeId} {len : Nat} {d : TypeDesc} {i : TypeInfo} (ht : P.underlying t = some (.array len e)) (hu : P.underlying e = some d) (hi : P.info? e = some i) {x' : Value} {cs : Array Value} (hx : VR H.next c (.agg cs) x') {n : Nat} {agg : Bool} (hn : n = i.size) (hagg : (isAggT d = true ∧ agg = true) ∨ (isAggT d = false ∧ agg = false ∧ n = 1)) {k : IntKind} {j : Int} (h0 : 0 ≤ j) (h1 : j < len) (hle : j.toNat * n + n ≤ cs.size) {v : Value} (h : oneOf agg ((cs.toList.drop (j.toNat * n)).take n) = some v) :
    ∃ v', (Instr.index t x' (.int k j)).run P w = .ok v' w ∧ VR H.next c v v' := by
  obtain ⟨cs', rfl, hv⟩ := VRL.of_agg hx
  obtain ⟨v', he, hr⟩ := part_ok (P := P) (w := w) (t := e) (off := j.toNat * n) hu hi hv (by rcases hagg with ⟨a, b⟩ | ⟨a, b, cc⟩; exact .inl ⟨a, b, hn⟩; exact .inr ⟨a, b, cc⟩) hle h
  exact ⟨v', by simp [Instr.index, run_underlying ht, asIntOf, h0, h1, run_sizeOf hi, ← hn, he], hr⟩
theorem run_strIdx {t : TypeId} (ht : P.underlying t = some .string) {s : ByteArray} {k : IntKind} {j : Int} (h0 : 0 ≤ j) (h1 : j < s.size) : (Instr.index t (.string s) (.int k j)).run P w = .ok (.int .u8 (s.data.toList.getD j.toNat 0).toNat) w := by
  have hlt : j.toNat < s.size := by omega
  have e : s[j.toNat]? = some (s.data.toList.getD j.toNat 0) := by
    rw [getElem?_pos s j.toNat hlt]
    have : j.toNat < s.data.size := hlt
    rw [List.getD_eq_getElem?_getD, Array.getElem?_toList, Array.getElem?_eq_getElem this]; rfl
  simp [Instr.index, run_underlying ht, asIntOf, h0, e]
theorem asNat_some {v : Value} {n : Nat} (h : asNat v = some n) : ∃ k j, v = .int k j ∧ 0 ≤ j ∧ j.toNat = n := by
  unfold asNat at h
  split at h
  · rename_i k j
    split at h
    · rename_i h0; exact ⟨k, j, rfl, h0, Option.some.inj h⟩
    · simp at h
  · simp at h
theorem bound_ok {x : Option Operand} {d m n : Nat} (hE : ∀ o, x = some o → VR H.next c (ev f o) (ρ o)) (h : bound f x d m = some n) {g : Option Value → Sem Nat} (hg1 : ∀ k j, 0 ≤ j → j.toNat ≤ m → (g (some (.int k j))).run P w = .ok j.toNat w) (hg0 : (g none).run P w = .ok d w) : (g (x.map ρ)).run P w = .ok n w := by
  unfold bound at h
  cases x with
  | none => simp only [Option.some.injEq] at h; subst h; exact hg0
  | some o =>
    simp only at h
    cases hq : asNat (ev f o) with
    | none => rw [hq] at h; simp at h
    | some k =>
      rw [hq] at h
      simp only at h
      split at h
      · rename_i hle
        obtain rfl := Option.some.inj h
        obtain ⟨kd, j, e1, e2, e3⟩ := asNat_some hq
        have := hE o rfl
        rw [e1] at this
        rw [Option.map_some, this.int, ← e3]
        exact hg1 kd j e2 (by omega)
      · simp at h
theorem bound_le {x : Option Operand} {d m n : Nat} (h : bound f x d m = some n) (hd : d ≤ m) : n ≤ m := by
  unfold bound at h
  split at h
  · obtain rfl := Option.some.inj h; exact hd
  · split at h
    · split at h
      · obtain rfl := Option.some.inj h; assumption
      · simp at h
    · simp at h
theorem run_bound (k : IntKind) (j : Int) (m : Nat) (code : BoundsCode) (h0 : 0 ≤ j) (hm : j.toNat ≤ m) : (Instr.sliceBound (.int k j) m code).run P w = .ok j.toNat w := by
  simp [Instr.sliceBound, asIntOf, h0, show j ≤ (m : Int) by omega]
theorem run_bounds {lo hi : Option Operand} {len cap l h cap' : Nat} {b : Bool} (hL : ∀ o, lo = some o → VR H.next c (ev f o) (ρ o)) (hH : ∀ o, hi = some o → VR H.next c (ev f o) (ρ o)) (h1 : bound f hi len cap = some h) (h2 : bound f lo 0 h = some l) (hc : cap ≤ cap') :
    (Instr.sliceBounds b len cap' (lo.map ρ) (hi.map ρ) none).run P w = .ok (l, h, cap') w := by
  have e1 := bound_ok (P := P) (w := w) hH h1 (g := fun o => match o with | some v => Instr.sliceBound v cap' (if b then .sliceAcap else .sliceAlen) | none => pure len) (fun k j a b' => run_bound k j cap' _ a (by omega)) (by simp)
  have e2 := bound_ok (P := P) (w := w) hL h2 (g := fun o => match o with | some v => Instr.sliceBound v h .sliceB | none => pure 0) (fun k j a b' => run_bound k j h _ a b') (by simp)
  unfold Instr.sliceBounds
  cases hi with
  | none =>
    cases lo with
    | none => simp at e1 e2 ⊢; exact ⟨e2.symm ▸ rfl, e1⟩
    | some y => simp at e1 e2 ⊢; subst e1; simp [e2]
  | some x =>
    cases lo with
    | none => simp at e1 e2 ⊢; simp [e1, e2]
    | some y => simp at e1 e2 ⊢; simp [e1, e2]
theorem run_min {x y x' y' v : Value} {n : Nat} (hx : VR n c x x') (hy : VR n c y y') (h : minV x y = some v) : (Builtin.min2 x' y').run P w = .ok v w ∧ p1 v = true := by
  unfold minV at h
  split at h
  · obtain rfl := hx.int; obtain rfl := hy.int; obtain rfl := Option.some.inj h; exact ⟨by simp [Builtin.min2], rfl⟩
  · simp at h
theorem run_max {x y x' y' v : Value} {n : Nat} (hx : VR n c x x') (hy : VR n c y y') (h : maxV x y = some v) : (Builtin.max2 x' y').run P w = .ok v w ∧ p1 v = true := by
  unfold maxV at h
  split at h
  · obtain rfl := hx.int; obtain rfl := hy.int; obtain rfl := Option.some.inj h; exact ⟨by simp [Builtin.max2], rfl⟩
  · simp at h
theorem run_fold {g : Value → Value → Option Value} {s : Value → Value → Sem Value} {n : Nat} (hg : ∀ x y x' y' v, VR n c x x' → VR n c y y' → g x y = some v → (s x' y').run P w = .ok v w ∧ p1 v = true) :
    ∀ (l l' : List Value) (x x' v : Value), VR n c x x' → VRL n c l l' → foldV g x l = some v → ∃ v', (l'.foldlM s x').run P w = .ok v' w ∧ VR n c v v'
  | [], l', x, x', v, hx, hl, h => by
    rw [hl.nil_inv]
    simp only [foldV, Option.some.injEq] at h
    subst h
    exact ⟨x', by simp, hx⟩
  | y :: l, l', x, x', v, hx, hl, h => by
    obtain ⟨y', l'', rfl, h1, h2⟩ := hl.uncons
    simp only [foldV] at h
    cases hq : g x y with
    | none => rw [hq] at h; simp at h
    | some u =>
      rw [hq] at h
      obtain ⟨r1, r2⟩ := hg x y x' y' u hx h1 hq
      obtain ⟨v', r3, r4⟩ := run_fold hg l l'' u u v (.plain r2) h2 h
      exact ⟨v', by simp [List.foldlM_cons, r1, r3], r4⟩
end
end Go.Proofs.Ytidpkoaomfbljaa.AM
/- More of the same: what is built, what is loaded, stored, made. -/
namespace Go.Proofs.Ytidpkoaomfbljaa.AM
open Go Go.RowKit
set_option linter.all false
section
variable {P : Program} {N : Nat} {c : CMap} {H : AH} {w : World} {f : Fr} {ρ : Operand → Value}

/-! ### Aggregates that are built -/
theorem fold_splice : ∀ (vs : List Value) (off k : Nat) (cs : Array Value), ((vs.zipIdx k).foldl (fun cs (x : Value × Nat) => cs.setIfInBounds (off + x.2) x.1) cs).toList = splice cs.toList (off + k) vs
  | [], off, k, cs => rfl
  | v :: vs, off, k, cs => by
    simp only [List.zipIdx_cons, List.foldl_cons]
    rw [fold_splice vs off (k + 1) _]
    simp [splice, Nat.add_assoc]
theorem fill_ok (place : Nat → Option (Nat × Nat)) : ∀ (ps : List (Nat × Value)) (qs : List (Nat × Nat × Value)) (cs cs' : Array Value) (r : List Value), 
    ps.length = qs.length → (∀ (j i : Nat) (v : Value), ps[j]? = some (i, v) → ∃ (off n : Nat) (u : Value), qs[j]? = some (off, n, u) ∧ place i = some (off, n) ∧ VR H.next c u v) → VRL H.next c cs.toList cs'.toList → fillC cs.toList qs = some r →
    ∃ r' : Array Value, Instr.fill place cs' ps = some r' ∧ VRL H.next c r r'.toList
  | [], qs, cs, cs', r, hlen, _, hv, h => by
    obtain rfl : qs = [] := List.eq_nil_of_length_eq_zero hlen.symm
    simp only [fillC, Option.some.injEq] at h
    subst h
    exact ⟨cs', rfl, hv⟩
  | (i, v) :: ps, qs, cs, cs', r, hlen, hp, hv, h => by
    obtain ⟨off, n, u, hq, hpl, hr⟩ := hp 0 i v rfl
    cases qs with
    | nil => simp at hq
    | cons q qs =>
      simp only [List.getElem?_cons_zero, Option.some.injEq] at hq
      subst hq
      simp only [fillC] at h
      split at h
      · rename_i hcond
        have hcu := hr.cells
        have hsz : v.cells.size = n := by have := hcu.1; simp at this; omega
        have hcs : cs'.size = cs.size := by have := hv.1; simpa using this.symm
        have hstep : VRL H.next c (splice cs.toList off u.cells.toList) (v.cells.zipIdx.foldl (fun cs (x, j) => cs.setIfInBounds (off + j) x) cs').toList := by
          have e := fold_splice v.cells.toList off 0 cs'
          have e2 : (v.cells.zipIdx.foldl (fun cs (x : Value × Nat) => cs.setIfInBounds (off + x.2) x.1) cs').toList = splice cs'.toList off v.cells.toList := by
            rw [Nat.add_zero] at e; rw [← e, ← Array.foldl_toList]; simp
          exact e2 ▸ hv.splice off hcu
        have ht : (splice cs.toList off u.cells.toList) = ((splice cs.toList off u.cells.toList).toArray).toList := by simp
        rw [ht] at h hstep
        obtain ⟨r', e1, e2⟩ := fill_ok place ps qs _ _ r (by simpa using hlen) (fun j i' v' hj => by simpa using hp (j + 1) i' v' (by simpa using hj)) hstep h
        refine ⟨r', ?_, e2⟩
        simp only [Instr.fill, hpl]
        have hc2 := hcond.2
        simp only [Array.length_toList] at hc2
        rw [if_neg (by simp [hsz]; omega)]
        exact e1
      · simp at h
theorem parts_ok {place : Nat → Option (Nat × TypeId)} (hE : ∀ x, opdOk x = true → VR H.next c (ev f x) (ρ x)) : ∀ (ps : List (Nat × Operand)) (l : List (Nat × Nat × Operand)), partsOf P place ps = some l → (∀ p ∈ ps, opdOk p.2 = true) →
    ps.length = l.length ∧ ∀ (j i : Nat) (x : Operand), ps[j]? = some (i, x) → ∃ (off n : Nat) (t : TypeId) (ti : TypeInfo), l[j]? = some (off, n, x) ∧ place i = some (off, t) ∧ P.info? t = some ti ∧ n = ti.size ∧ VR H.next c (ev f x) (ρ x)
  | [], l, h, _ => by simp only [partsOf, Option.some.injEq] at h; subst h; exact ⟨rfl, fun j i x hj => by simp at hj⟩
  | (i, x) :: ps, l, h, ho => by
    simp only [partsOf] at h
    split at h
    · rename_i off t l' hp hl
      split at h
      · rename_i ti hti
        obtain rfl := Option.some.inj h
        obtain ⟨h1, h2⟩ := parts_ok hE ps l' hl (fun p hp' => ho p (by simp [hp']))
        refine ⟨by simpa using h1, fun j i' x' hj => ?_⟩
        cases j with
        | zero =>
          simp only [List.getElem?_cons_zero, Option.some.injEq, Prod.mk.injEq] at hj
          obtain ⟨rfl, rfl⟩ := hj
          exact ⟨off, ti.size, t, ti, rfl, hp, hti, rfl, hE _ (ho (i, x) (by simp))⟩
        | succ j => simpa using h2 j i' x' (by simpa using hj)
      · simp at h
    · simp at h
theorem fill_of {place : Nat → Option (Nat × TypeId)} {place' : Nat → Option (Nat × Nat)} (hE : ∀ x, opdOk x = true → VR H.next c (ev f x) (ρ x)) {ps : Array (Nat × Operand)} {l : List (Nat × Nat × Operand)} (hl : partsOf P place ps.toList = some l) (ho : ∀ p ∈ ps.toList, opdOk p.2 = true) (hpl : ∀ i off t ti, place i = some (off, t) → P.info? t = some ti → place' i = some (off, ti.size)) {cs cs' : Array Value} (hv : VRL H.next c cs.toList cs'.toList) {r : List Value} (h : fillC cs.toList (l.map fun p => (p.1, p.2.1, ev f p.2.2)) = some r) :
    ∃ r' : Array Value, Instr.fill place' cs' (ps.map fun (i, x) => (i, ρ x)).toList = some r' ∧ VRL H.next c r r'.toList := by
  obtain ⟨h1, h2⟩ := parts_ok (P := P) hE ps.toList l hl ho
  refine fill_ok place' _ _ cs cs' r (by simpa using h1) (fun j i v hj => ?_) hv h
  simp only [Array.toList_map, List.getElem?_map, Option.map_eq_some_iff, Prod.exists, Prod.mk.injEq] at hj
  obtain ⟨i0, x, e1, rfl, rfl⟩ := hj
  obtain ⟨off, n, t, ti, e2, e3, e4, e5, e6⟩ := h2 j i0 x e1
  exact ⟨off, n, ev f x, by simp [e2], by rw [e5]; exact hpl _ _ _ _ e3 e4, e6⟩
end
end Go.Proofs.Ytidpkoaomfbljaa.AM
/- More of the same: memory. -/
namespace Go.Proofs.Ytidpkoaomfbljaa.AM
open Go Go.RowKit
set_option linter.all false
section
variable {P : Program} {N : Nat} {c : CMap} {H : AH} {w : World} {f : Fr} {ρ : Operand → Value}

theorem run_cells {a : Addr} {l : Loc} {cs : List Value} {n : Nat} (hn : cs.length = n) (h : ∀ j v, cs[j]? = some v → w.cell? ⟨l.blk, l.sh + a.off + j, none⟩ = some v) : (loadCells ⟨l.blk, l.sh + a.off, none⟩ n).run P w = .ok cs.toArray w := by
  subst hn
  exact run_loadCells_list (P := P) w _ cs fun j v hj => by rw [add_eq]; exact h j v hj
theorem load_ok (hs : Sim N c H w) {t : TypeId} {d : TypeDesc} {i : TypeInfo} (hu : P.underlying t = some d) (hi : P.info? t = some i) {a : Addr} {v' : Value} (ha : VR H.next c (.pointer (some a)) v') {agg : Bool} {n : Nat} (hagg : (isAggT d = true ∧ agg = true ∧ n = i.size) ∨ (isAggT d = false ∧ agg = false ∧ n = 1)) {cs : List Value} (hl : ldc H a n = some cs) {v : Value} (h : oneOf agg cs = some v) :
    Does P N c H w (Instr.loadAt t v') v H := by
  obtain ⟨l, cs', hc, hlen, _, hv, hr⟩ := hs.read hl
  obtain ⟨rfl, _⟩ := ha.ptrL hc
  have hn' : cs'.length = n := by rw [← hv.1]; exact hlen
  rcases hagg with ⟨h1, rfl, rfl⟩ | ⟨h1, rfl, rfl⟩
  · simp only [oneOf, if_true, Option.some.injEq] at h
    subst h
    exact .pure hs (v' := .agg cs'.toArray) (by simp [Instr.loadAt, Instr.sureAddr, loadVar, run_isAgg hu, h1, run_sizeOf hi, run_cells hn' hr]) hv.agg
  · simp only [oneOf, Bool.false_eq_true, if_false] at h
    split at h
    · rename_i x
      obtain rfl := Option.some.inj h
      obtain ⟨x', l', rfl, hx, hl'⟩ := hv.uncons
      exact .pure hs (v' := x') (by
        have := hr 0 x' rfl
        rw [Nat.add_zero] at this
        simp [Instr.loadAt, Instr.sureAddr, loadVar, run_isAgg hu, h1, this]) hx
    · simp at h
theorem load_ok' (hs : Sim N c H w) {t : TypeId} {d : TypeDesc} {i : TypeInfo} (hu : P.underlying t = some d) (hi : P.info? t = some i) {a : Addr} {v' : Value} (ha : VR H.next c (.pointer (some a)) v') {agg : Bool} {n : Nat} (hagg : (isAggT d = true ∧ agg = true ∧ n = i.size) ∨ (isAggT d = false ∧ agg = false ∧ n = 1)) {cs : List Value} (hl : ldc H a n = some cs) {v : Value} (h : oneOf agg cs = some v) :
    ∃ v2, (Instr.loadAt t v').run P w = .ok v2 w ∧ VR H.next c v v2 := by
  obtain ⟨l, cs', hc, hlen, _, hv, hr⟩ := hs.read hl
  obtain ⟨rfl, _⟩ := ha.ptrL hc
  have hn' : cs'.length = n := by rw [← hv.1]; exact hlen
  rcases hagg with ⟨h1, rfl, rfl⟩ | ⟨h1, rfl, rfl⟩
  · simp only [oneOf, if_true, Option.some.injEq] at h
    subst h
    exact ⟨.agg cs'.toArray, by simp [Instr.loadAt, Instr.sureAddr, loadVar, run_isAgg hu, h1, run_sizeOf hi, run_cells hn' hr], hv.agg⟩
  · simp only [oneOf, Bool.false_eq_true, if_false] at h
    split at h
    · rename_i x
      obtain rfl := Option.some.inj h
      obtain ⟨x', l', rfl, hx, hl'⟩ := hv.uncons
      exact ⟨x', by
        have := hr 0 x' rfl
        rw [Nat.add_zero] at this
        simp [Instr.loadAt, Instr.sureAddr, loadVar, run_isAgg hu, h1, this], hx⟩
    · simp at h
theorem store_ok (hs : Sim N c H w) {t : TypeId} {i : TypeInfo} (hi : P.info? t = some i) {a : Addr} {v' x x' : Value} (ha : VR H.next c (.pointer (some a)) v') (hx : VR H.next c x x') (hn : x.cells.size = i.size) {H' : AH} (h : stc H a x.cells.toList = some H') :
    ∃ w', (Instr.storeAt t v' x').run P w = .ok () w' ∧ Sim N c H' w' ∧ ExtW N c H w c H' w' := by
  unfold stc at h
  split at h
  case isFalse => simp at h
  rename_i hone
  unfold stU at h
  cases hb : H.get a.block with
  | none => rw [hb] at h; simp at h
  | some b =>
    rw [hb] at h
    simp only at h
    split at h
    · rename_i hcond
      obtain ⟨hro, hle⟩ := hcond
      obtain rfl := Option.some.inj h
      obtain ⟨l, hc, hr⟩ := hs.at_ hb
      obtain ⟨rfl, _⟩ := ha.ptrL hc
      have hcx := hx.cells
      obtain ⟨w', e1, e2, e3⟩ := hs.store hb hc hro hcx hle hone P
      have hsz : x'.cells.size = i.size := by have := hcx.1; simp at this; omega
      exact ⟨w', by simp [Instr.storeAt, Instr.sureAddr, storeVar, run_sizeOf hi, hsz, e1], e2, e3⟩
    · simp at h
theorem p1_one {l : List Value} (h : l.all p1 = true) : l.all one = true := by
  rw [List.all_eq_true] at h ⊢
  intro x hx
  have := h x hx
  cases x <;> first | rfl | (simp [p1] at this)
/-- A new row, all of whose cells are told. -/
theorem new_ok (hs : Sim N c H w) {b : Blk} {cs : Array Value} {ty : TypeId} (hv : VRL H.next c b.cells cs.toList) (ho : b.cells.all one = true) : ∃ c', Sim N c' (H.push b) (w.alloc (.cells cs ty)) ∧ ExtW N c H w c' (H.push b) (w.alloc (.cells cs ty)) ∧ c' H.next = some ⟨w.heap.size, 0, cs.size, b.es⟩ ∧ VR (H.push b).next c' (.pointer (some ⟨H.next, 0, none⟩)) (.pointer (some ⟨w.heap.size, 0, none⟩)) := by
  obtain ⟨h1, h2⟩ := hs.push (b := b) (cs := cs) (ty := ty) (fz := (0, 0)) (rest := []) (by simp) hv ho (by simp)
  refine ⟨_, h1, h2, if_pos rfl, ?_⟩
  exact VR.ptr (a := ⟨H.next, 0, none⟩) (l := ⟨w.heap.size, 0, cs.size, b.es⟩) (by simp) (if_pos rfl) rfl
theorem alloc_ok (hs : Sim N c H w) {t : TypeId} {i : TypeInfo} {z : Value} (hi : P.info? t = some i) (hz : i.zero = some z) (hp : z.cells.toList.all p1 = true) (es : Nat) :
    Does P N c H w (Instr.alloc t true (.tuple #[])) (.pointer (some ⟨H.next, 0, none⟩)) (H.push ⟨z.cells.toList, es, false⟩) := by
  obtain ⟨c', h1, h2, _, h3⟩ := new_ok hs (b := ⟨z.cells.toList, es, false⟩) (cs := z.cells) (ty := t) (.refl hp) (p1_one hp)
  exact ⟨_, c', _, by simp [Instr.alloc, run_zeroValue hi hz, newVar, newRow], h3, h1, h2⟩
theorem box_ok (hs : Sim N c H w) {t : TypeId} {x x' : Value} (hx : VR H.next c x x') (hone : x.cells.toList.all one = true) (es : Nat) :
    Does P N c H w (Instr.box t x') (.pointer (some ⟨H.next, 0, none⟩)) (H.push ⟨x.cells.toList, es, false⟩) := by
  obtain ⟨c', h1, h2, _, h3⟩ := new_ok hs (b := ⟨x.cells.toList, es, false⟩) (cs := x'.cells) (ty := t) hx.cells hone
  exact ⟨_, c', _, by simp [Instr.box, newVar, newRow], h3, h1, h2⟩
/-- The slice of a new row. -/
theorem new_slice (hs : Sim N c H w) {b : Blk} {cs : Array Value} {ty : TypeId} {fz : Nat × Nat} {rest mid : List Value} (hcs : cs.toList = mid ++ rest) (hv : VRL H.next c b.cells mid) (ho : b.cells.all one = true) (hfz : ∀ j, j < cs.size → ¬ (fz.1 ≤ j ∧ j < fz.2)) {n k k' : Nat} (hk : k ≤ k') (hkk : k' * b.es ≤ cs.size) :
    ∃ c', Sim N c' (H.push b) (w.alloc (.cells cs ty fz)) ∧ ExtW N c H w c' (H.push b) (w.alloc (.cells cs ty fz)) ∧ VR (H.push b).next c' (.slice (some ⟨H.next, 0, none⟩) n k) (.slice (some ⟨w.heap.size, 0, none⟩) n k') := by
  obtain ⟨h1, h2⟩ := hs.push (b := b) (cs := cs) (ty := ty) (fz := fz) (rest := rest) hcs hv ho hfz
  refine ⟨_, h1, h2, ?_⟩
  exact VR.slice (a := ⟨H.next, 0, none⟩) (l := ⟨w.heap.size, 0, cs.size, b.es⟩) (by simp) (if_pos rfl) rfl hk (by simp; exact hkk)
/-- A thing that nobody reads is made. -/
theorem Sim.alloc (hs : Sim N c H w) (o : Obj) : Sim N c H (w.alloc o) ∧ ExtW N c H w c H (w.alloc o) := by
  have hold : ∀ (l : Loc) id b', H.get id = some b' → c id = some l → l.blk < w.heap.size := fun l id b' h1 h2 => by
    obtain ⟨cs', ty', fz', mid', h3, _⟩ := (hs.blk id b' l h1 h2).row
    exact (Array.getElem?_eq_some_iff.1 h3).1
  refine ⟨⟨hs.live, fun id b l h1 h2 => ?_, hs.inj, by show N ≤ (w.heap.push o).size; simp; have := hs.size; omega⟩, ⟨Nat.le_refl _, fun _ _ => .inl rfl, Nat.le_refl _, fun id hid _ => ⟨rfl, rfl, fun l hl => ?_⟩, (Below.refl N w).alloc hs.size _⟩⟩
  · obtain ⟨cs', ty', fz', mid', k1, k2, k3, k4, k5, k6⟩ := (hs.blk id b l h1 h2).row
    exact ⟨(hs.blk id b l h1 h2).es, (hs.blk id b l h1 h2).ones, cs', ty', fz', mid', by rw [Below.heap_alloc _ _ _ (hold l id b h1 h2)]; exact k1, k2, k3, k4, k5, k6⟩
  · have := hs.live id
    rw [hl] at this
    obtain ⟨b, hb⟩ := Option.isSome_iff_exists.1 this
    exact Below.heap_alloc _ _ _ (hold l id b hb hl)
theorem range_flatten (z : Array Value) : ∀ n, 0 < z.size → ((Array.range (n * z.size)).map (fun i => z[i % z.size]!)).toList = (List.replicate n z.toList).flatten := by
  intro n hz
  apply List.ext_getElem?
  intro j
  simp only [Array.toList_map, Array.toList_range, List.getElem?_map]
  by_cases hj : j < n * z.size
  · rw [List.getElem?_range hj]
    have e : ((List.replicate n z.toList).flatten)[j]? = z.toList[j % z.size]? := by
      induction n generalizing j with
      | zero => simp at hj
      | succ n ih =>
        rw [List.replicate_succ, List.flatten_cons]
        by_cases h : j < z.size
        · rw [List.getElem?_append_left (by simpa using h), Nat.mod_eq_of_lt h]
        · rw [List.getElem?_append_right (by simp; omega), ih _ (by simp [Nat.succ_mul] at hj ⊢; omega)]
          simp only [Array.length_toList]
          rw [← Nat.mod_eq_sub_mod (by omega)]
    rw [e]
    have := Nat.mod_lt j hz
    simp [this, getElem!_pos]
  · rw [List.getElem?_eq_none (by simp; omega), List.getElem?_eq_none (by simp; omega)]; rfl
theorem rep_eq (n : Nat) (z : List Value) : rep n z = (List.replicate n z).flatten := by
  unfold rep
  split
  · rename_i z
    induction n with
    | zero => rfl
    | succ n ih => rw [List.replicate_succ, List.replicate_succ, List.flatten_cons, ih]; rfl
  · rfl
theorem rep_p1 {n : Nat} {z : List Value} (h : z.all p1 = true) : (rep n z).all p1 = true := by
  rw [rep_eq]
  induction n with
  | zero => rfl
  | succ n ih => rw [List.replicate_succ, List.flatten_cons, List.all_append, h, ih]; rfl
theorem rep_length (n : Nat) (z : List Value) : (rep n z).length = n * z.length := by
  rw [rep_eq]; simp
theorem made_list (z : Array Value) (n : Nat) (h : 0 < z.size) : (madeCells z (n * z.size)).toList = rep n z.toList := by
  rw [rep_eq]; exact range_flatten z n h
theorem mkSlice_ok (hs : Sim N c H w) {t e : TypeId} {i : TypeInfo} {z : Value} (ht : P.underlying t = some (.slice e)) (hi : P.info? e = some i) (hz : i.zero = some z) (hsz : i.size = z.cells.size) (h1 : 0 < i.size) (hp : z.cells.toList.all p1 = true) {k k2 : IntKind} {n m : Int} (h0 : 0 ≤ n) (hnm : n ≤ m) (hb : m.toNat * i.bytes ≤ 140737488355328) (hm : m ≤ 9223372036854775807) :
    Does P N c H w (Instr.makeSlice t (.int k n) (.int k2 m)) (.slice (some ⟨H.next, 0, none⟩) n.toNat m.toNat) (H.push ⟨rep m.toNat z.cells.toList, i.size, false⟩) := by
  have hbig : (i.bytes : Int) * m ≤ 281474976710656 := by
    obtain ⟨q, rfl⟩ := Int.eq_ofNat_of_zero_le (show 0 ≤ m by omega)
    simp only [Int.toNat_natCast] at hb
    have h3 : ((i.bytes * q : Nat) : Int) = (i.bytes : Int) * (q : Int) := Int.natCast_mul _ _
    rw [Nat.mul_comm] at hb
    rw [← h3]
    generalize i.bytes * q = y at hb
    omega
  have hr := run_make (P := P) w t e i z ht hi hz k k2 n m h0 hnm hbig hm
  obtain ⟨c', g1, g2, g3⟩ := new_slice hs (b := ⟨rep m.toNat z.cells.toList, i.size, false⟩) (cs := madeCells z.cells (m.toNat * i.size)) (ty := e) (fz := (0, 0)) (rest := []) (mid := rep m.toNat z.cells.toList) (by rw [hsz, made_list _ _ (by omega)]; simp) (.refl (rep_p1 hp)) (p1_one (rep_p1 hp)) (by simp) (n := n.toNat) (k := m.toNat) (k' := m.toNat) (Nat.le_refl _) (by rw [size_madeCells]; exact Nat.le_refl _)
  exact ⟨_, c', _, hr, g3, g1, g2⟩
end
end Go.Proofs.Ytidpkoaomfbljaa.AM
/- More of the same: append, copy, strings and bytes. -/
namespace Go.Proofs.Ytidpkoaomfbljaa.AM
open Go Go.RowKit
set_option linter.all false
section
variable {P : Program} {N : Nat} {c : CMap} {H : AH} {w : World} {f : Fr} {ρ : Operand → Value}

/-- A block that no live number leads to is taken in under a new number, some of its cells being written. -/
theorem Sim.adopt (hs : Sim N c H w) {g sh : Nat} {b : Blk} {cs : Array Value} {ty : TypeId} {fz : Nat × Nat} {w' : World} (hfree : ∀ id l, c id = some l → l.blk ≠ g) (hN : N ≤ g) (hg : w'.heap[g]? = some (.cells cs ty fz)) (hfz : ∀ j, j < cs.size → ¬ (fz.1 ≤ j ∧ j < fz.2)) (hoth : ∀ k, k ≠ g → w'.heap[k]? = w.heap[k]?) (hsz : w'.heap.size = w.heap.size) (hb : Below N w w') {mid : List Value} (hone : b.cells.all one = true) (hle : sh + b.cells.length ≤ cs.size) (hcs : ∀ j, j < b.cells.length → cs[sh + j]? = some (mid.getD j Go.undef)) (hm : VRL H.next c b.cells mid) :
    Sim N (fun id => if id = H.next then some ⟨g, sh, cs.size, b.es⟩ else c id) (H.push b) w' ∧ ExtW N c H w (fun id => if id = H.next then some ⟨g, sh, cs.size, b.es⟩ else c id) (H.push b) w' := by
  have hdom : ∀ id, id < H.next → (fun id => if id = H.next then some (⟨g, sh, cs.size, b.es⟩ : Loc) else c id) id = c id ∨ (fun id => if id = H.next then some (⟨g, sh, cs.size, b.es⟩ : Loc) else c id) id = none :=
    fun id hid => .inl (if_neg (by omega))
  have hmono : ∀ {l l' : List Value}, VRL H.next c l l' → VRL (H.push b).next (fun id => if id = H.next then some ⟨g, sh, cs.size, b.es⟩ else c id) l l' :=
    fun h => h.mono (by simp) hdom
  refine ⟨⟨fun id => ?_, fun id b' l h1 h2 => ?_, fun id id' b' l l' hne h1 hro h2 h3 => ?_, by rw [hsz]; exact hs.size⟩, ⟨by simp, hdom, Nat.le_refl _, fun id hid _ => ⟨if_neg (by omega), by rw [get_push, if_neg (by omega)], fun l hl => hoth _ (hfree id l hl)⟩, hb⟩⟩
  · rw [get_push]
    by_cases e : id = H.next
    · simp [e]
    · simp only [if_neg e]; exact hs.live id
  · rw [get_push] at h1
    by_cases e : id = H.next
    · rw [if_pos e] at h1
      simp only [if_pos e] at h2
      obtain rfl := Option.some.inj h1
      obtain rfl := Option.some.inj h2
      exact ⟨rfl, hone, cs, ty, fz, mid, hg, rfl, fun _ => ⟨hN, hfz⟩, hle, hcs, hmono hm⟩
    · rw [if_neg e] at h1
      simp only [if_neg e] at h2
      obtain ⟨cs', ty', fz', mid', k1, k2, k3, k4, k5, k6⟩ := (hs.blk id b' l h1 h2).row
      exact ⟨(hs.blk id b' l h1 h2).es, (hs.blk id b' l h1 h2).ones, cs', ty', fz', mid', (hoth _ (hfree id l h2)).trans k1, k2, k3, k4, k5, hmono k6⟩
  · rw [get_push] at h1
    by_cases e : id = H.next
    · simp only [if_pos e] at h2
      obtain rfl := Option.some.inj h2
      have e' : id' ≠ H.next := fun h => hne (by omega)
      simp only [if_neg e'] at h3
      exact fun h => hfree id' l' h3 h.symm
    · rw [if_neg e] at h1
      simp only [if_neg e] at h2
      by_cases e' : id' = H.next
      · simp only [if_pos e'] at h3
        obtain rfl := Option.some.inj h3
        exact hfree id l h2
      · simp only [if_neg e'] at h3
        exact hs.inj id id' b' l l' hne h1 hro h2 h3
/-- Cells are written behind a slice's end, and the longer slice has a number of its own. -/
theorem Sim.regrow (hs : Sim N c H w) {id off m : Nat} {b : Blk} {l : Loc} (hb : H.get id = some b) (hc : c id = some l) (hro : b.ro = false) {old new new' : List Value} (hold : ldc H ⟨id, off, none⟩ m = some old) (hnew : VRL H.next c new new') (hone : new.all one = true) (hfit : l.sh + off + m + new.length ≤ l.sz) (P : Program) :
    ∃ w' c', (storeCells ⟨l.blk, l.sh + off + m, none⟩ new').run P w = .ok () w' ∧ Sim N c' ((H.set id none).push ⟨old ++ new, b.es, false⟩) w' ∧ ExtW N c H w c' ((H.set id none).push ⟨old ++ new, b.es, false⟩) w' ∧ c' H.next = some ⟨l.blk, l.sh + off, l.sz, b.es⟩ := by
  obtain ⟨l2, old', hc2, hlen, hoo, hv, hr⟩ := hs.read hold
  simp only at hc2
  rw [hc] at hc2
  obtain rfl := Option.some.inj hc2
  obtain ⟨cs, ty, fz, mid, k1, k2, k3, k4, k5, k6⟩ := (hs.blk id b l hb hc).row
  obtain ⟨hN, hfz⟩ := k3 hro
  have hone' := hnew.one hone
  have hnl := hnew.1
  obtain ⟨w', e1, e2, e3, e4, e5, e6, e7⟩ := run_storeRow P l.blk (l.sh + off + m) ty fz new' 0 cs w k1 (by rw [k2]; exact hfz) (by omega) hone'
  obtain ⟨s1, x1⟩ := hs.kill hb
  have hsize : (splice cs.toList (l.sh + off + m + 0) new').toArray.size = l.sz := by simp [splice_length, k2]
  have hol : old'.length = m := by rw [← hv.1]; exact hlen
  have had := s1.adopt (g := l.blk) (sh := l.sh + off) (b := ⟨old ++ new, b.es, false⟩) (cs := (splice cs.toList (l.sh + off + m + 0) new').toArray) (ty := ty) (fz := fz) (w' := w') (mid := old' ++ new')
    (fun j l' hj => by
      by_cases e : j = id
      · simp [e] at hj
      · simp only [if_neg e] at hj
        exact fun h => hs.inj id j b l l' (fun h => e h.symm) hb hro hc hj h.symm)
    hN e2 (by rw [hsize]; exact hfz) e3 e4 ⟨e5, e6, e7, by omega, fun k hk => e3 k (by omega)⟩
    (by rw [List.all_append, hoo, hone]; rfl) (by rw [hsize]; simp; omega)
    (fun j hj => by
      simp only [List.length_append] at hj
      have hlc : cs.toList.length = l.sz := by simp [k2]
      simp only [List.getElem?_toArray]
      rw [splice_get _ _ _ _ (by omega), List.getD_eq_getElem?_getD]
      by_cases hjm : j < m
      · rw [if_neg (by omega), List.getElem?_append_left (by omega)]
        have := hr j old'[j] (List.getElem?_eq_getElem (by omega))
        simp only [World.cell?, k1, Option.isSome_none, Bool.false_eq_true, if_false] at this
        rw [Array.getElem?_toList, this, List.getElem?_eq_getElem (by omega)]; rfl
      · rw [if_pos (by omega), List.getElem?_append_right (by omega), show l.sh + off + j - (l.sh + off + m + 0) = j - old'.length by omega, List.getElem?_eq_getElem (by omega)]; rfl)
    ((hv.append hnew).mono (by simp) x1.dom)
  obtain ⟨s2, x2⟩ := had
  refine ⟨w', _, e1, s2, x1.trans x2, ?_⟩
  simp only [next_set, if_true]
  rw [hsize]
/-- What is appended. -/
theorem added_ok (hs : Sim N c H w) {e : TypeId} {x x' : Value} (hx : VR H.next c x x') {es k : Nat} {new : List Value} (h : added H es x = some (k, new)) {tx : TypeId} (hk : (∃ e', P.underlying tx = some (.slice e')) ∨ P.underlying tx = some .string) :
    ∃ new', Src P es tx x' k new' w ∧ VRL H.next c new new' ∧ new.all one = true ∧ new.length = k * es := by
  unfold added at h
  split at h
  · rename_i n cp
    split at h
    · rename_i h0
      subst h0
      simp only [Option.some.injEq, Prod.mk.injEq] at h
      obtain ⟨rfl, rfl⟩ := h
      rw [hx.slcN]
      rcases hk with ⟨e', hk⟩ | hk
      · exact ⟨[], Src.ofNil w hk cp, .nil, rfl, by simp⟩
      · refine ⟨[], ⟨.inr hk, fun _ => rfl, ?_, ?_, by simp, fun _ h => by cases h⟩, .nil, rfl, by simp⟩ <;> rfl
    · simp at h
  · rename_i a n cp
    unfold orZ at h
    split at h
    · rename_i y hy
      simp only [Option.some.injEq] at h
      subst h
      split at hy
      case h_2 => simp at hy
      rename_i l hl
      simp only [Option.some.injEq, Prod.mk.injEq] at hy
      obtain ⟨rfl, rfl⟩ := hy
      obtain ⟨lc, cs', hc, hlen, hone, hv, hr⟩ := hs.read hl
      obtain ⟨k', rfl, _, _, _⟩ := hx.slcL hc
      have hl' : cs'.length = n * es := by rw [← hv.1]; exact hlen
      have hnews : ∀ j u, cs'[j]? = some u → w.cell? ((⟨lc.blk, lc.sh + a.off, none⟩ : Addr).add j) = some u := fun j u hj => by rw [add_eq]; exact hr j u hj
      rcases hk with ⟨e', hk⟩ | hk
      · exact ⟨cs', Src.ofSlice w hk _ n k' cs' hl' hnews (hv.one hone), hv, hone, hlen⟩
      · exact ⟨cs', ⟨.inr hk, fun _ => rfl, run_firstCells_some w es n _ n k' cs' hl' hnews, run_firstCells_some w.drew es n _ n k' cs' hl' (by simpa using hnews), hl', hv.one hone⟩, hv, hone, hlen⟩
    · split at h
      case isFalse => simp at h
      rename_i h0
      subst h0
      simp only [Option.some.injEq, Prod.mk.injEq] at h
      obtain ⟨rfl, rfl⟩ := h
      obtain ⟨a'', k', rfl⟩ : ∃ a'' k', x' = .slice (some a'') 0 k' := by
        cases hx with
        | plain hp => simp [p1] at hp
        | slice _ _ _ _ _ => exact ⟨_, _, rfl⟩
        | sliceDead _ _ => exact ⟨_, _, rfl⟩
      rcases hk with ⟨e', hk⟩ | hk
      · exact ⟨[], Src.ofSlice w hk a'' 0 k' [] (by simp) (fun j u hj => by simp at hj) (by simp), .nil, rfl, by simp⟩
      · exact ⟨[], ⟨.inr hk, fun _ => rfl, run_firstCells_some w es 0 a'' 0 k' [] (by simp) (fun j u hj => by simp at hj), run_firstCells_some w.drew es 0 a'' 0 k' [] (by simp) (fun j u hj => by simp at hj), by simp, by simp⟩, .nil, rfl, by simp⟩
  · rename_i s
    split at h
    · rename_i h1
      subst h1
      simp only [Option.some.injEq, Prod.mk.injEq] at h
      obtain ⟨rfl, rfl⟩ := h
      rw [hx.str]
      have hall1 : (byteCells s).all p1 = true := by
        rw [List.all_eq_true]
        intro x hx
        obtain ⟨b, _, rfl⟩ := List.mem_map.1 hx
        rfl
      have hlen : (byteCells s).length = s.size := Go.byteCells_length s
      have hall := p1_one hall1
      have hall' : ∀ u ∈ byteCells s, u.oneCell' = true := by
        intro x hx
        obtain ⟨b, _, rfl⟩ := List.mem_map.1 hx
        rfl
      exact ⟨_, ⟨hk, fun _ => rfl, firstCells_string s w, firstCells_string s w.drew, by rw [Nat.mul_one]; exact hlen, hall'⟩, .refl hall1, hall, by rw [hlen, Nat.mul_one]⟩
    · simp at h
  · simp at h
theorem stU_inv {H H' : AH} {a : Addr} {vs : List Value} (h : stU H a vs = some H') : ∃ b, H.get a.block = some b ∧ b.ro = false ∧ a.off + vs.length ≤ b.cells.length ∧ H' = H.set a.block (some { b with cells := splice b.cells a.off vs }) := by
  unfold stU at h
  cases hb : H.get a.block with
  | none => rw [hb] at h; simp at h
  | some b =>
    rw [hb] at h
    simp only at h
    split at h
    · rename_i hc; exact ⟨b, rfl, hc.1, hc.2, (Option.some.inj h).symm⟩
    · simp at h
/-- A row that has grown. -/
theorem grown_ok {r : Sem Value} {e : TypeId} {z : Value} {need cap0 n0 : Nat} {b : Blk} {all' : List Value} (hs : Sim N c H w) (hr : r.run P w = .ok (.slice (some ⟨w.heap.size, 0, none⟩) n0 (grownCap w n0 cap0 e)) (w.drew.alloc (.cells (all'.toArray ++ Builtin.zeroCells z.cells (grownCap w n0 cap0 e - n0)) e))) (hzs : b.es = z.cells.size) (hs0 : 0 < b.es) (hnew : VRL H.next c b.cells all') (hone : b.cells.all one = true) (hlen : b.cells.length = n0 * b.es) (hn : n0 = need) :
    Does P N c H w r (.slice (some ⟨H.next, 0, none⟩) need need) (H.push b) := by
  subst hn
  have hge := grownCap_ge w n0 cap0 e
  have hd : Sim N c H w.drew := hs.same rfl
  have hsz : (Builtin.zeroCells z.cells (grownCap w n0 cap0 e - n0)).size = (grownCap w n0 cap0 e - n0) * z.cells.size := by simp [Builtin.zeroCells]
  obtain ⟨c', h1, h2, h3⟩ := new_slice hd (b := b) (cs := all'.toArray ++ Builtin.zeroCells z.cells (grownCap w n0 cap0 e - n0)) (ty := e) (fz := (0, 0)) (rest := (Builtin.zeroCells z.cells (grownCap w n0 cap0 e - n0)).toList) (mid := all') (by simp) hnew hone (by simp) (n := n0) (k := n0) (k' := grownCap w n0 cap0 e) hge (by
    rw [Array.size_append, hsz, ← hzs, List.size_toArray, ← hnew.1, hlen, ← Nat.add_mul]
    exact Nat.mul_le_mul_right _ (by omega))
  exact ⟨_, c', _, hr, h3, h1, (ExtW.drew N c H w).trans h2⟩
/-- append. -/
theorem append_ok (hs : Sim N c H w) {t tx ty e : TypeId} {i : TypeInfo} {z : Value} (ht : P.underlying t = some (.slice e)) (hi : P.info? e = some i) (hz : i.zero = some z) (hzs : i.size = z.cells.size) (hs0 : 0 < i.size) {s s' x' : Value} (hv : VR H.next c s s') {k : Nat} {new new' : List Value} (hS : Src P i.size tx x' k new' w) (hnew : VRL H.next c new new') (hone : new.all one = true) (hlen : new.length = k * i.size) {v : Value} {H' : AH} (h : appended H i.size i.bytes s k new = some (v, H')) (hb0 : 0 < i.bytes) :
    Does P N c H w (Builtin.append_ #[t, tx] ty #[s', x']) v H' := by
  unfold appended at h
  split at h
  · rename_i n cp
    rw [hv.slcN]
    split at h
    · rename_i hcond
      obtain ⟨rfl, rfl⟩ := hcond
      split at h
      · rename_i hk0
        subst hk0
        simp only [Option.some.injEq, Prod.mk.injEq] at h
        obtain ⟨rfl, rfl⟩ := h
        have hnil : new' = [] := by
          have := hnew.1
          rw [hlen, Nat.zero_mul] at this
          exact List.eq_nil_of_length_eq_zero this.symm
        subst hnil
        exact .pure hs (run_append_nothing w t tx ty e i ht hi none 0 0 (Nat.le_refl _) x' hS) (.plain rfl)
      · split at h
        · rename_i hk0 hkb
          simp only [Option.some.injEq, Prod.mk.injEq] at h
          obtain ⟨rfl, rfl⟩ := h
          have hkp : k ≤ 140737488355328 := Nat.le_trans (Nat.le_mul_of_pos_right _ hb0) hkb
          have hr := run_append_grow_src w t tx ty e i z ht hi hz none 0 0 [] (run_firstCells_none w.drew i.size 0 0 0) x' k new' hS (by omega) (by omega) (by rw [Nat.zero_add]; exact growslice_fits (by omega) hkb)
          exact grown_ok (b := ⟨new, i.size, false⟩) (all' := new') hs (by simpa using hr) hzs hs0 hnew hone (by simpa using hlen) (by simp)
        · simp at h
    · simp at h
  · rename_i a n cp
    split at h
    · simp at h
    · rename_i b hb
      obtain ⟨l, hc, hbr⟩ := hs.at_ hb
      obtain ⟨k', rfl, ha, hk1, hk2⟩ := hv.slcL hc
      have hbl := hbr.es
      split at h
      · rename_i hcond
        obtain ⟨hes, hro⟩ := hcond
        rw [hbl, hes] at hk2
        split at h
        · -- in place
          rename_i hroom
          cases hst : stU H (addA a (n * i.size)) new with
          | none => rw [hst] at h; simp at h
          | some H2 =>
            rw [hst] at h
            simp only [Option.some.injEq, Prod.mk.injEq] at h
            obtain ⟨rfl, rfl⟩ := h
            obtain ⟨b2, hb2, hro2, hle2, rfl⟩ := stU_inv hst
            have hb2' : H.get a.block = some b2 := hb2
            rw [hb] at hb2'
            obtain rfl := Option.some.inj hb2'
            obtain ⟨w', e1, e2, e3⟩ := hs.store (off := a.off + n * i.size) hb hc hro hnew hle2 hone P
            refine ⟨.slice (some ⟨l.blk, l.sh + a.off, none⟩) (n + k) k', c, w', ?_, ?_, e2, e3⟩
            · rw [← Nat.add_assoc] at e1
              rcases hS.kind with ⟨e', hk⟩ | hk <;> simp [Builtin.append_, run_underlying ht, run_underlying hk, sizeOf, typeInfo, hi, hS.len, show n + k ≤ k' by omega, hS.cells, add_eq, e1]
            · exact VR.slice (by simp; exact ha) hc (hv.slcSpot hc) (by omega) (by rw [hbl, hes]; exact hk2)
        · rename_i hroom
          cases hld : ldc H a (n * i.size) with
          | none => rw [hld] at h; simp at h
          | some old =>
            rw [hld] at h
            simp only at h
            split at h
            · rename_i hkb
              simp only [Option.some.injEq, Prod.mk.injEq] at h
              obtain ⟨rfl, rfl⟩ := h
              have hspot := hv.slcSpot hc
              by_cases hfit : n + k ≤ k'
              · -- there is room all the same
                obtain ⟨w', c', e1, e2, e3, e4⟩ := hs.regrow (off := a.off) (m := n * i.size) hb hc hro (old := old) (by rw [← hld]; congr 1; cases a; simp_all) hnew hone (by rw [hlen]; have : (n + k) * i.size ≤ k' * i.size := Nat.mul_le_mul_right _ hfit; rw [Nat.add_mul] at this; omega) P
                refine ⟨.slice (some ⟨l.blk, l.sh + a.off, none⟩) (n + k) k', c', w', ?_, ?_, by rw [hes] at e2; exact e2, by rw [hes] at e3; exact e3⟩
                · rcases hS.kind with ⟨e', hk⟩ | hk <;> simp [Builtin.append_, run_underlying ht, run_underlying hk, sizeOf, typeInfo, hi, hS.len, hfit, hS.cells, add_eq, e1]
                · exact VR.slice (a := ⟨H.next, 0, none⟩) (l := ⟨l.blk, l.sh + a.off, l.sz, b.es⟩) (by simp) e4 rfl hfit (by simp only [Nat.add_zero]; rw [hes]; exact hk2)
              · obtain ⟨l2, old', hc2, hol, hoo, hov, hor⟩ := hs.read hld
                rw [hc] at hc2
                obtain rfl := Option.some.inj hc2
                have hol' : old'.length = n * i.size := by rw [← hov.1]; exact hol
                have hold : (Builtin.firstCells i.size n (.slice (some ⟨l.blk, l.sh + a.off, none⟩) n k')).run P w.drew = .ok old'.toArray w.drew :=
                  run_firstCells_some w.drew i.size n _ n k' old' hol' (fun j u hj => by rw [add_eq]; simpa using hor j u hj)
                have hkp : n + k ≤ 140737488355328 := Nat.le_trans (Nat.le_mul_of_pos_right _ hb0) hkb
                have hr := run_append_grow_src w t tx ty e i z ht hi hz (some ⟨l.blk, l.sh + a.off, none⟩) n k' old' hold x' k new' hS (by omega) (by omega) (growslice_fits (by omega) hkb)
                obtain ⟨s1, x1⟩ := hs.kill hb
                obtain ⟨v2, c2, w2, g1, g2, g3, g4⟩ := grown_ok (H := H.set a.block none) (b := ⟨old ++ new, i.size, false⟩) s1 hr hzs hs0 ((hov.append hnew).mono (by simp) x1.dom) (by rw [List.all_append, hoo, hone]; rfl) (by rw [List.length_append, hol, hlen, Nat.add_mul]) rfl
                exact ⟨v2, c2, w2, g1, by simpa using g2, g3, x1.trans g4⟩
            · simp at h
      · split at h
        · rename_i hcond
          obtain ⟨rfl, hle⟩ := hcond
          simp only [Option.some.injEq, Prod.mk.injEq] at h
          obtain ⟨rfl, rfl⟩ := h
          have hnil : new' = [] := by
            have := hnew.1
            rw [hlen, Nat.zero_mul] at this
            exact List.eq_nil_of_length_eq_zero this.symm
          subst hnil
          exact .pure hs (run_append_nothing w t tx ty e i ht hi _ n k' (by omega) x' hS) hv
        · simp at h
  · simp at h
end
end Go.Proofs.Ytidpkoaomfbljaa.AM
