/- The abstract machine: a plain evaluator of compiled Go code on an abstract heap. No program in sight. -/
import Derived.Calls
namespace Go.Proofs.Ytidpkoaomfbljaa.AM
open Go
set_option linter.all false

/-- A block of the abstract heap: its cells, how many cells an element of a slice of it has, and whether it is only read. -/
structure Blk where
  cells : List Value
  es : Nat
  ro : Bool

/-- The abstract heap. low: no block below it was touched. -/
structure AH where
  blks : List (Option Blk)
  low : Nat

namespace AH
def next (H : AH) : Nat := H.blks.length
def get (H : AH) (id : Nat) : Option Blk := (H.blks[id]?).join
def push (H : AH) (b : Blk) : AH := { H with blks := H.blks ++ [some b] }
/-- A number that leads nowhere. -/
def pushD (H : AH) : AH := { H with blks := H.blks ++ [none] }
def set (H : AH) (id : Nat) (b : Option Blk) : AH := { blks := H.blks.set id b, low := min H.low id }
/-- The heap at the head of a call. -/
def enter (H : AH) : AH := { H with low := H.next }
end AH

abbrev Fr := Nat → Value
def upd (f : Fr) (d : Nat) (v : Value) : Fr := fun t => if t = d then v else f t
def ev (f : Fr) : Operand → Value
  | .tmp t => f t
  | .const v => v
  | .global g => .pointer (some ⟨g, 0, none⟩)
  | .func g => .func (.func g) #[] #[]

/-- Values that hold no address: in one cell; in a row of cells; several of them. -/
def p1 : Value → Bool
  | .bool _ | .int _ _ | .float _ _ | .complex _ _ _ | .string _ | .nilFunc | .nilIface => true
  | .pointer none => true
  | .slice none _ _ => true
  | .map none => true
  | .chan none => true
  | .func _ a b => a.isEmpty && b.isEmpty
  | _ => false
def p2 : Value → Bool
  | .agg cs => cs.toList.all p1
  | v => p1 v
def p3 : Value → Bool
  | .tuple vs => vs.toList.all p2
  | v => p2 v
/-- What may lie in one cell. -/
def one : Value → Bool
  | .agg _ | .tuple _ => false
  | _ => true

/-- What two operands are. -/
inductive TK where
  | int | bool | str | ptr | slc | fnc | ifc
/-- Compiled operations. -/
inductive MI where
  | mov (x : Operand)
  | pick (c a b : Operand)
  | bin (tk : TK) (op : BinOp) (x y : Operand)
  | eqc (neq : Bool) (offs : List (Nat × TK)) (x y : Operand)
  | un (op : UnOp) (x : Operand)
  | conv (k : IntKind) (x : Operand)
  | strMov (x : Operand)
  | toStr (x : Operand)
  | toBytes (x : Operand)
  | alloc (zero : List Value) (es : Nat)
  | box (es : Nat) (x : Operand)
  | build (zero : List Value) (parts : List (Nat × Nat × Operand))
  | buildSlice (zero : List Value) (es len : Nat) (parts : List (Nat × Nat × Operand))
  | load (agg : Bool) (n : Nat) (a : Operand)
  | store (n : Nat) (a x : Operand)
  | storeX (n : Nat) (a x : Operand) (far : List Tmp)     -- a store into another block than these addresses'
  | nilCheck (x : Operand)
  | addOff (off : Nat) (x : Operand)
  | idxS (es : Nat) (x i : Operand)
  | idxA (len es : Nat) (x i : Operand)
  | field (agg : Bool) (off n : Nat) (x : Operand)
  | strIdx (x i : Operand)
  | arrIdx (agg : Bool) (len es : Nat) (x i : Operand)
  | sliceStr (x : Operand) (lo hi : Option Operand)
  | sliceS (es : Nat) (x : Operand) (lo hi : Option Operand)
  | sliceA (len es : Nat) (x : Operand) (lo hi : Option Operand)
  | toArr (n : Nat) (x : Operand)
  | mkIface (t : TypeId) (x : Operand)
  | mkFunc (fn : Fn) (first captured : List Operand)
  | mkSlice (zero : List Value) (es bytes : Nat) (l c : Operand)
  | extract (x : Operand) (i : Nat)
  | call (pure_ : Bool) (f : Operand) (args : List Operand)
  | append (es bytes : Nat) (s x : Operand)
  | appendZ (zero : List Value) (es bytes : Nat) (s x : Operand)
  | copy (es : Nat) (d s : Operand)
  | len (x : Operand)
  | lenStr (x : Operand)
  | lenC (n : Nat)
  | cap (x : Operand)
  | min (x : Operand) (xs : List Operand)
  | max (x : Operand) (xs : List Operand)
  | uString (x n : Operand)
  | uData (x : Operand)
  | mkMap
  | newMap     -- a map, which nobody reads
  | boxDead (x : Operand)     -- a new variable, which nobody reads

structure MOp where
  dst : Option Tmp
  guard : Option (Tmp × Bool)
  old : Bool     -- it may only read blocks that are older than its region
  op : MI

inductive MCode where
  | skip
  | ops (l : List MOp)
  | opsD (l : List MOp)     -- a region of open order
  | seq (a b : MCode)
  | cond (c : Operand) (a b : MCode)
  | block (id : Nat) (a : MCode)
  | loop (a : MCode)
  | exit (id : Nat)
  | ret

inductive Ex where
  | normal
  | exit (id : Nat)
  | ret

/-! ### What the operations compute -/
def bitsK (op : BinOp) (k : IntKind) (x y : Int) : Int :=
  match op with
  | .and => k.wrap (BitVec.ofInt k.bits x &&& BitVec.ofInt k.bits y).toNat
  | .or => k.wrap (BitVec.ofInt k.bits x ||| BitVec.ofInt k.bits y).toNat
  | .xor => k.wrap (BitVec.ofInt k.bits x ^^^ BitVec.ofInt k.bits y).toNat
  | _ => k.wrap (BitVec.ofInt k.bits x &&& ~~~(BitVec.ofInt k.bits y)).toNat
def shiftK (op : BinOp) (k : IntKind) (x y : Int) : Int :=
  match op with
  | .shl => k.wrap (x * 2 ^ (Nat.min y.toNat k.bits))
  | _ => x.fdiv (2 ^ (Nat.min y.toNat k.bits))
/-- A comparison with nil. -/
def eqNil (a b : Option Addr) : Option Bool :=
  match a, b with
  | none, b => some b.isNone
  | some _, none => some false
  | _, _ => none
def eqOp (op : BinOp) (t : Option Bool) : Option Value :=
  match op, t with
  | .eql, some b => some (.bool b)
  | .neq, some b => some (.bool (!b))
  | _, _ => none
def strBin (op : BinOp) (a b : ByteArray) : Option Value :=
  match op with
  | .add => if a.size + b.size ≤ 9223372036854775807 then some (.string (a ++ b)) else none
  | .eql => some (.bool (decide (a = b)))
  | .neq => some (.bool (!decide (a = b)))
  | _ => none
def intBin (op : BinOp) (k : IntKind) (a b : Int) : Option Value :=
  match op with
  | .add => some (.int k (k.wrap (a + b)))
  | .sub => some (.int k (k.wrap (a - b)))
  | .mul => some (.int k (k.wrap (a * b)))
  | .quo => if b = 0 then none else some (.int k (k.wrap (a.tdiv b)))
  | .rem => if b = 0 then none else some (.int k (a.tmod b))
  | .eql => some (.bool (decide (a = b)))
  | .neq => some (.bool (!decide (a = b)))
  | .lss => some (.bool (decide (a < b)))
  | .leq => some (.bool (decide (a ≤ b)))
  | .gtr => some (.bool (decide (b < a)))
  | .geq => some (.bool (decide (b ≤ a)))
  | .and => some (.int k (bitsK .and k a b))
  | .or => some (.int k (bitsK .or k a b))
  | .xor => some (.int k (bitsK .xor k a b))
  | .andNot => some (.int k (bitsK .andNot k a b))
  | _ => none
def shBin (op : BinOp) (k : IntKind) (a b : Int) : Option Value := if b < 0 then none else some (.int k (shiftK op k a b))
def binV (tk : TK) (op : BinOp) (x y : Value) : Option Value :=
  match tk, x, y with
  | .int, .int k a, .int k' b =>
    match op with
    | .shl => shBin .shl k a b
    | .shr => shBin .shr k a b
    | op => if k = k' then intBin op k a b else none
  | .bool, .bool a, .bool b => eqOp op (some (a == b))
  | .str, .string a, .string b => strBin op a b
  | .ptr, .pointer a, .pointer b => eqOp op (eqNil a b)
  | .slc, .slice a _ _, .slice b _ _ => eqOp op (eqNil a b)
  | .fnc, .nilFunc, .nilFunc => eqOp op (some true)
  | .fnc, .nilFunc, .func _ _ _ => eqOp op (some false)
  | .fnc, .func _ _ _, .nilFunc => eqOp op (some false)
  | .ifc, .nilIface, .iface _ _ => eqOp op (some false)
  | .ifc, .iface _ _, .nilIface => eqOp op (some false)
  | _, _, _ => none
def unV (op : UnOp) (x : Value) : Option Value :=
  match op, x with
  | .not, .bool b => some (.bool (!b))
  | .neg, .int k n => some (.int k (k.wrap (0 - n)))
  | .xor, .int k n => some (.int k (bitsK .xor k (if k.signed then -1 else k.max) n))
  | _, _ => none
/-- Two cells that can be compared are the same. -/
def cellEq : TK → Value → Value → Option Bool
  | .int, .int k a, .int k' b => if k = k' then some (decide (a = b)) else none
  | .bool, .bool a, .bool b => some (a == b)
  | .str, .string a, .string b => some (decide (a = b))
  | _, _, _ => none
def eqAt (a b : List Value) : List (Nat × TK) → Option Bool
  | [] => some true
  | (o, k) :: r => match a[o]?, b[o]? with
    | some x, some y => (match cellEq k x y, eqAt a b r with
      | some p, some q => some (p && q)
      | _, _ => none)
    | _, _ => none
def byteOf : Value → Option UInt8
  | .int .u8 n => some (UInt8.ofNat n.toNat)
  | _ => none
def bytesOf : List Value → Option (List UInt8)
  | [] => some []
  | v :: l => match byteOf v, bytesOf l with
    | some b, some bs => some (b :: bs)
    | _, _ => none
def byteCells (s : ByteArray) : List Value := s.data.toList.map fun b => .int .u8 b.toNat
def splice : List Value → Nat → List Value → List Value
  | l, _, [] => l
  | l, off, v :: vs => splice (l.set off v) (off + 1) vs
def fillC : List Value → List (Nat × Nat × Value) → Option (List Value)
  | cs, [] => some cs
  | cs, (off, n, v) :: r => if v.cells.size = n ∧ off + n ≤ cs.length then fillC (splice cs off v.cells.toList) r else none
def ldc (H : AH) (a : Addr) (n : Nat) : Option (List Value) :=
  match H.get a.block with
  | some b => if a.off + n ≤ b.cells.length then some ((b.cells.drop a.off).take n) else none
  | none => none
def stU (H : AH) (a : Addr) (vs : List Value) : Option AH :=
  match H.get a.block with
  | some b => if b.ro = false ∧ a.off + vs.length ≤ b.cells.length then some (H.set a.block (some { b with cells := splice b.cells a.off vs })) else none
  | none => none
def stc (H : AH) (a : Addr) (vs : List Value) : Option AH := if vs.all one = true then stU H a vs else none
def addA (a : Addr) (n : Nat) : Addr := ⟨a.block, a.off + n, none⟩
def asNat (v : Value) : Option Nat :=
  match v with
  | .int _ n => if 0 ≤ n then some n.toNat else none
  | _ => none
def bound (f : Fr) (x : Option Operand) (dflt : Nat) (most : Nat) : Option Nat :=
  match x with
  | none => some dflt
  | some o => match asNat (ev f o) with
    | some n => if n ≤ most then some n else none
    | none => none
def oneOf (agg : Bool) (cs : List Value) : Option Value :=
  if agg then some (.agg cs.toArray) else
  match cs with
  | [v] => some v
  | _ => none
def rep (n : Nat) : List Value → List Value
  | [z] => List.replicate n z
  | zs => (List.replicate n zs).flatten
/-- What an append adds: its cells. -/
def added (H : AH) (es : Nat) (v : Value) : Option (Nat × List Value) :=
  match v with
  | .slice none n _ => if n = 0 then some (0, []) else none
  | .slice (some a) n _ => match ldc H a (n * es) with | some l => some (n, l) | none => none
  | .string s => if es = 1 then some (s.size, byteCells s) else none
  | _ => none
def lenV : Value → Option Nat
  | .slice _ n _ => some n
  | .string s => some s.size
  | _ => none
/-- The cells of the first n elements. -/
def firstV (H : AH) (es n : Nat) : Value → Option (List Value)
  | .slice (some a) m _ => if n ≤ m then ldc H a (n * es) else none
  | .string s => if es = 1 ∧ n ≤ s.size then some ((byteCells s).take n) else none
  | _ => none
/-- Behind an append of k elements, whose cells are new. -/
def appended (H : AH) (es bytes : Nat) (s : Value) (k : Nat) (new : List Value) : Option (Value × AH) :=
  match s with
  | .slice none n c =>
    if n = 0 ∧ c = 0 then
      if k = 0 then some (.slice none 0 0, H)
      else if k * bytes ≤ 140737488355328 then some (.slice (some ⟨H.next, 0, none⟩) k k, H.push ⟨new, es, false⟩) else none
    else none
  | .slice (some a) n c =>
    match H.get a.block with
    | none => none
    | some b =>
      if b.es = es ∧ b.ro = false then
        if n + k ≤ c then
          match stU H (addA a (n * es)) new with
          | some H' => some (.slice (some a) (n + k) c, H')
          | none => none
        else match ldc H a (n * es) with
          | some old => if (n + k) * bytes ≤ 140737488355328 then some (.slice (some ⟨H.next, 0, none⟩) (n + k) (n + k), (H.set a.block none).push ⟨old ++ new, es, false⟩) else none
          | none => none
      else if k = 0 ∧ n ≤ c then some (.slice (some a) n c, H) else none
  | _ => none
def minV : Value → Value → Option Value
  | .int k x, .int _ y => some (.int k (if y < x then y else x))
  | _, _ => none
def maxV : Value → Value → Option Value
  | .int k x, .int _ y => some (.int k (if x < y then y else x))
  | _, _ => none
def foldV (g : Value → Value → Option Value) : Value → List Value → Option Value
  | v, [] => some v
  | v, w :: l => match g v w with | some u => foldV g u l | none => none

/-- These addresses lead into other blocks than this one. -/
def farB (f : Fr) (far : List Tmp) (b : Nat) : Bool := far.all fun t => match f t with | .pointer (some q) => decide (q.block ≠ b) | _ => false
/-- An operation that is no call. -/
def evM (m : MI) (f : Fr) (H : AH) : Option (Value × AH) :=
  match m with
  | .mov x => some (ev f x, H)
  | .pick c a b => match ev f c with | .bool t => some (if t = true then ev f a else ev f b, H) | _ => none
  | .bin tk op x y => match binV tk op (ev f x) (ev f y) with | some v => some (v, H) | none => none
  | .eqc neq offs x y => match ev f x, ev f y with
    | .agg a, .agg b => (match eqAt a.toList b.toList offs with | some t => some (.bool (if neq = true then !t else t), H) | none => none)
    | _, _ => none
  | .un op x => match unV op (ev f x) with | some v => some (v, H) | none => none
  | .conv k x => match ev f x with | .int _ n => some (.int k (k.wrap n), H) | _ => none
  | .strMov x => match ev f x with | .string s => some (.string s, H) | _ => none
  | .toStr x => match ev f x with
    | .slice none _ _ => some (.string ⟨#[]⟩, H)
    | .slice (some a) n _ => (match ldc H a n with
      | some l => (match bytesOf l with | some bs => some (.string ⟨bs.toArray⟩, H) | none => none)
      | none => none)
    | _ => none
  | .toBytes x => match ev f x with
    | .string s => if s.size ≤ 140737488355328 then some (.slice (some ⟨H.next, 0, none⟩) s.size s.size, H.push ⟨byteCells s, 1, false⟩) else none
    | _ => none
  | .alloc zero es => some (.pointer (some ⟨H.next, 0, none⟩), H.push ⟨zero, es, false⟩)
  | .box es x => if (ev f x).cells.toList.all one = true then some (.pointer (some ⟨H.next, 0, none⟩), H.push ⟨(ev f x).cells.toList, es, false⟩) else none
  | .build zero parts => match fillC zero (parts.map fun p => (p.1, p.2.1, ev f p.2.2)) with | some cs => some (.agg cs.toArray, H) | none => none
  | .buildSlice zero es len parts => match fillC zero (parts.map fun p => (p.1, p.2.1, ev f p.2.2)) with
    | some cs => if cs.all one = true then some (.slice (some ⟨H.next, 0, none⟩) len len, H.push ⟨cs, es, false⟩) else none
    | none => none
  | .load agg n a => match ev f a with
    | .pointer (some p) => (match ldc H p n with | some cs => (match oneOf agg cs with | some v => some (v, H) | none => none) | none => none)
    | _ => none
  | .store n a x => match ev f a with
    | .pointer (some p) => if (ev f x).cells.size = n then (match stc H p (ev f x).cells.toList with | some H' => some (undef, H') | none => none) else none
    | _ => none
  | .storeX n a x far => match ev f a with
    | .pointer (some p) => if farB f far p.block = true then (if (ev f x).cells.size = n then (match stc H p (ev f x).cells.toList with | some H' => some (undef, H') | none => none) else none) else none
    | _ => none
  | .nilCheck x => match ev f x with
    | .pointer (some p) => some (.pointer (some p), H)
    | .func (.func g) a b => some (.func (.func g) a b, H)
    | _ => none
  | .addOff off x => match ev f x with
    | .pointer (some p) => some (.pointer (some (addA p off)), H)
    | _ => none
  | .idxS es x i => match ev f x, ev f i with
    | .slice (some a) n _, .int _ j => if 0 ≤ j ∧ j < n then some (.pointer (some (addA a (j.toNat * es))), H) else none
    | _, _ => none
  | .idxA len es x i => match ev f x, ev f i with
    | .pointer (some a), .int _ j => if 0 ≤ j ∧ j < len then some (.pointer (some (addA a (j.toNat * es))), H) else none
    | _, _ => none
  | .field agg off n x => match ev f x with
    | .agg cs => if off + n ≤ cs.size then (match oneOf agg ((cs.toList.drop off).take n) with | some v => some (v, H) | none => none) else none
    | _ => none
  | .strIdx x i => match ev f x, ev f i with
    | .string s, .int _ j => if 0 ≤ j ∧ j < s.size then some (.int .u8 (s.data.toList.getD j.toNat 0).toNat, H) else none
    | _, _ => none
  | .arrIdx agg len es x i => match ev f x, ev f i with
    | .agg cs, .int _ j => if 0 ≤ j ∧ j < len ∧ j.toNat * es + es ≤ cs.size then (match oneOf agg ((cs.toList.drop (j.toNat * es)).take es) with | some v => some (v, H) | none => none) else none
    | _, _ => none
  | .sliceStr x lo hi => match ev f x with
    | .string s => (match bound f hi s.size s.size with
      | some h => (match bound f lo 0 h with | some l => some (.string (s.extract l h), H) | none => none)
      | none => none)
    | _ => none
  | .sliceS es x lo hi => match ev f x with
    | .slice a n c => (match bound f hi n c with
      | some h => (match bound f lo 0 h with
        | some l => if h ≤ c then (match a with
          | none => some (.slice none (h - l) (c - l), H)
          | some p => (match H.get p.block with
            | some b => if b.es = es then
                if l = 0 then some (.slice (some p) h c, H)
                else if l < c then some (.slice (some (addA p (l * es))) (h - l) (c - l), H)
                else if H.get 0 = none then some (.slice (some ⟨0, 0, none⟩) 0 0, H) else none
              else none
            | none => none)) else none
        | none => none)
      | none => none)
    | _ => none
  | .sliceA len es x lo hi => match ev f x with
    | .pointer (some p) => (match bound f hi len len with
      | some h => (match bound f lo 0 h with
        | some l => (match H.get p.block with
          | some b => if b.es = es ∧ p.off + len * es ≤ b.cells.length then some (.slice (some (if len = l then p else addA p (l * es))) (h - l) (len - l), H) else none
          | none => none)
        | none => none)
      | none => none)
    | _ => none
  | .toArr n x => match ev f x with
    | .slice (some a) l _ => if n ≤ l then some (.pointer (some a), H) else none
    | _ => none
  | .mkIface t x => some (.iface t (ev f x), H)
  | .mkFunc fn first captured => some (.func fn (first.map (ev f)).toArray (captured.map (ev f)).toArray, H)
  | .mkSlice zero es bytes l c => match ev f l, ev f c with
    | .int _ n, .int _ m => if 0 ≤ n ∧ n ≤ m ∧ m.toNat * bytes ≤ 140737488355328 ∧ m ≤ 9223372036854775807 then some (.slice (some ⟨H.next, 0, none⟩) n.toNat m.toNat, H.push ⟨rep m.toNat zero, es, false⟩) else none
    | _, _ => none
  | .extract x i => match ev f x with
    | .tuple vs => (match vs[i]? with | some v => some (v, H) | none => none)
    | _ => none
  | .call _ _ _ => none
  | .append es bytes s x => match added H es (ev f x) with
    | some (k, new) => appended H es bytes (ev f s) k new
    | none => none
  | .appendZ zero es bytes s x => match ev f x with
    | .int _ n => if 0 ≤ n ∧ n ≤ 140737488355328 then appended H es bytes (ev f s) n.toNat (rep n.toNat zero) else none
    | _ => none
  | .copy es d s => match ev f d, lenV (ev f s) with
    | .slice (some a) n _, some k => (match firstV H es (Nat.min k n) (ev f s) with
      | some new => (match stU H a new with | some H' => some (.int .i64 (Nat.min k n), H') | none => none)
      | none => none)
    | _, _ => none
  | .len x => match ev f x with
    | .slice _ n _ => some (.int .i64 n, H)
    | _ => none
  | .lenStr x => match ev f x with
    | .string s => some (.int .i64 s.size, H)
    | _ => none
  | .lenC n => some (.int .i64 n, H)
  | .cap x => match ev f x with
    | .slice none _ c => some (.int .i64 c, H)
    | _ => none
  | .min x xs => match foldV minV (ev f x) (xs.map (ev f)) with | some v => some (v, H) | none => none
  | .max x xs => match foldV maxV (ev f x) (xs.map (ev f)) with | some v => some (v, H) | none => none
  | .uString x n => none
  | .uData x => none
  | .mkMap => none
  | .newMap => some (.map (some 0), H)
  | .boxDead _ => if 0 < H.next ∧ (H.get 0).isNone = true then some (.pointer (some ⟨0, 0, none⟩), H) else none

/-! ### Calls -/
def callee (f : Fr) (g : Operand) (args : List Operand) : Option (FuncId × List Value) :=
  match ev f g with
  | .func (.func n) first captured => some (n, first.toList ++ args.map (ev f) ++ captured.toList)
  | _ => none
/-- The blocks of a result are moved behind the old ones. -/
def moveV (H H1 : AH) (k : Nat) : Value → Option (Value × List (Option Blk))
  | .slice (some a) n c =>
    if a.block < H.next then some (.slice (some a) n c, []) else
    match H1.get a.block with
    | some b => if b.cells.all p1 = true then some (.slice (some ⟨k, a.off, none⟩) n c, [some b]) else none
    | none => none
  | .pointer (some a) =>
    if a.block < H.next then some (.pointer (some a), []) else
    match H1.get a.block with
    | some b => if b.cells.all p1 = true then some (.pointer (some ⟨k, a.off, none⟩), [some b]) else none
    | none => none
  | v => if p2 v = true then some (v, []) else none
def heads : Value → List Nat
  | .slice (some a) _ _ => [a.block]
  | .pointer (some a) => [a.block]
  | _ => []
def back (H H1 : AH) (v : Value) : Value × AH :=
  if H1.low < H.next then (v, { H1 with low := min H.low H1.low })
  else if p3 v = true then (v, H)
  else match v with
    | .tuple vs => (match vs.toList with
      | [x, y] => (match moveV H H1 H.next x with
        | some (x', bs) => if p2 y = true then (.tuple #[x', y], { H with blks := H.blks ++ bs }) else (v, { H1 with low := H.low })
        | none => (v, { H1 with low := H.low }))
      | _ => (v, { H1 with low := H.low }))
    | v => (match moveV H H1 H.next v with
      | some (v', bs) => (v', { H with blks := H.blks ++ bs })
      | none => (v, { H1 with low := H.low }))

abbrev CallH := FuncId → List Value → AH → Option (Value × AH)
def evOp (call : CallH) (m : MI) (f : Fr) (H : AH) : Option (Value × AH) :=
  match m with
  | .call pu g args => (match callee f g args with
    | some (n, vs) =>
      if pu = true then (match call n vs H.enter with
        | some (v, H') => if H'.low = H.next then some (v, { H' with low := H.low }) else none
        | none => none)
      else call n vs H
    | none => none)
  | m => evM m f H
def blkOf : Value → List Nat
  | .pointer (some a) => [a.block]
  | .slice (some a) _ _ => [a.block]
  | _ => []
/-- The blocks that an operation reads. -/
def MI.rdBlk (m : MI) (f : Fr) : List Nat :=
  match m with
  | .load _ _ a => blkOf (ev f a)
  | .toStr x => blkOf (ev f x)
  | .sliceS _ x _ _ => blkOf (ev f x)
  | .sliceA _ _ x _ _ => blkOf (ev f x)
  | .boxDead _ => [0]
  | _ => []
def put (f : Fr) (d : Option Tmp) (v : Value) : Fr :=
  match d with
  | some d => upd f d v
  | none => f
def evG (call : CallH) (bs : Nat) (o : MOp) (f : Fr) (H : AH) : Option (Value × AH) :=
  if o.old = true then (if (o.op.rdBlk f).all (fun b => decide (b < bs)) = true then evOp call o.op f H else none) else evOp call o.op f H
/-- One operation with its guard. -/
def evV (call : CallH) (bs : Nat) (o : MOp) (f : Fr) (H : AH) : Option (Value × AH) :=
  match o.guard with
  | none => evG call bs o f H
  | some (t, want) => match f t with
    | .bool b => if b = want then evG call bs o f H else some (undef, H)
    | .tuple _ => some (undef, H)
    | _ => none
def evMOp (call : CallH) (bs : Nat) (o : MOp) (f : Fr) (H : AH) : Option (Fr × AH) :=
  match evV call bs o f H with
  | some (v, H') => some (put f o.dst v, H')
  | none => none
def evOps (call : CallH) (bs : Nat) : List MOp → Fr → AH → Option (Fr × AH)
  | [], f, H => some (f, H)
  | o :: l, f, H => match evMOp call bs o f H with
    | some (f', H') => evOps call bs l f' H'
    | none => none

def iter (b : Fr → AH → Option (Ex × Fr × AH)) : Nat → Fr → AH → Option (Ex × Fr × AH)
  | 0, _, _ => none
  | n + 1, f, H => match b f H with
    | some (.normal, f', H') => iter b n f' H'
    | r => r
def evC (call : CallH) (k : Nat) : MCode → Fr → AH → Option (Ex × Fr × AH)
  | .skip, f, H => some (.normal, f, H)
  | .ops l, f, H => match evOps call H.next l f H with | some (f', H') => some (.normal, f', H') | none => none
  | .opsD l, f, H => match evOps call H.next l f H with | some (f', H') => some (.normal, f', H') | none => none
  | .seq a b, f, H => match evC call k a f H with
    | some (.normal, f', H') => evC call k b f' H'
    | r => r
  | .cond c a b, f, H => match ev f c with
    | .bool t => if t = true then evC call k a f H else evC call k b f H
    | _ => none
  | .block id a, f, H => match evC call k a f H with
    | some (.exit i, f', H') => if i = id then some (.normal, f', H') else some (.exit i, f', H')
    | r => r
  | .loop a, f, H => iter (evC call k a) k f H
  | .exit id, f, H => some (.exit id, f, H)
  | .ret, f, H => some (.ret, f, H)

inductive MRes where
  | tmp (t : Tmp)
  | cell (a : Tmp) (agg : Bool) (n : Nat)
structure MFun where
  code : MCode
  results : List MRes
def resV (f : Fr) (H : AH) : MRes → Option Value
  | .tmp t => some (f t)
  | .cell a agg n => match f a with
    | .pointer (some p) => (match ldc H p n with | some cs => oneOf agg cs | none => none)
    | _ => none
def resL (f : Fr) (H : AH) : List MRes → Option (List Value)
  | [] => some []
  | r :: l => match resV f H r, resL f H l with
    | some v, some vs => some (v :: vs)
    | _, _ => none
def tupV : List Value → Value
  | [v] => v
  | vs => .tuple vs.toArray
def entry (args : List Value) : Fr := fun t => args.getD t undef
/-- A function: compiled, or told. -/
inductive Ent where
  | code (m : MFun)
  | nat (g : CallH → List Value → AH → Option (Value × AH))
abbrev Tbl := FuncId → Option Ent
def evF (tbl : Tbl) : Nat → FuncId → List Value → AH → Option (Value × AH)
  | 0, _, _, _ => none
  | k + 1, g, args, H => match tbl g with
    | none => none
    | some (.nat h) => h (evF tbl k) args H
    | some (.code m) => match evC (evF tbl k) (k + 1) m.code (entry args) H.enter with
      | some (.normal, f', H') => (match resL f' H' m.results with | some vs => some (back H H' (tupV vs)) | none => none)
      | some (.ret, f', H') => (match resL f' H' m.results with | some vs => some (back H H' (tupV vs)) | none => none)
      | _ => none

end Go.Proofs.Ytidpkoaomfbljaa.AM
