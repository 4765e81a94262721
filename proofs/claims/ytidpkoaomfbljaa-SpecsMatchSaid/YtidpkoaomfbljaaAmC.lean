/- Operations are compiled; what a compiled operation computes is what the model's operation does. -/
import Derived.Test.YtidpkoaomfbljaaAmB
import Derived.Lib.Strings
namespace Go.Proofs.Ytidpkoaomfbljaa.AM
open Go Go.RowKit
set_option linter.all false

def opdOk : Operand → Bool
  | .tmp _ => true
  | .const v => p3 v
  | .func _ => true
  | .global _ => false
def isAggT : TypeDesc → Bool
  | .struct _ | .array _ _ => true
  | _ => false
/-- How many cells an element of a slice of this variable has. -/
def esOf (P : Program) (t : TypeId) : Nat :=
  match P.underlying t with
  | some (.array _ e) => P.cellsOf e
  | _ => 1
def partsOf (P : Program) (place : Nat → Option (Nat × TypeId)) : List (Nat × Operand) → Option (List (Nat × Nat × Operand))
  | [] => some []
  | (i, x) :: r => match place i, partsOf P place r with
    | some (off, t), some l => (match P.info? t with | some ti => some ((off, ti.size, x) :: l) | none => none)
    | _, _ => none
def tkOf : TypeDesc → Option TK
  | .int _ => some .int
  | .bool => some .bool
  | .string => some .str
  | .pointer _ => some .ptr
  | .slice _ => some .slc
  | .func _ _ _ => some .fnc
  | .interface _ => some .ifc
  | _ => none
def scalarK (P : Program) (t : TypeId) : Option TK :=
  if P.cellsOf t = 1 then
  match P.underlying t with
  | some (.int _) => some .int
  | some .bool => some .bool
  | some .string => some .str
  | _ => none
  else none
def offsOf (P : Program) : List Field → Option (List (Nat × TK))
  | [] => some []
  | f :: r => if f.name = "_" then offsOf P r else
    match scalarK P f.type, offsOf P r with
    | some k, some l => some ((f.offset, k) :: l)
    | _, _ => none
def compBuiltin (P : Program) (b : Builtin) (ts : List TypeId) (xs : List Operand) : Option MI :=
  match b, ts, xs with
  | .len, [t], [x] => (match P.underlying t with
    | some .string => some (.lenStr x)
    | some (.slice _) => some (.len x)
    | some (.array n _) => some (.lenC n)
    | some (.pointer e) => (match P.underlying e with | some (.array n _) => some (.lenC n) | _ => none)
    | _ => none)
  | .cap, [t], [x] => (match P.underlying t with | some (.slice _) => some (.cap x) | _ => none)
  | .min, _, x :: xs => some (.min x xs)
  | .max, _, x :: xs => some (.max x xs)
  | .append, [t, u], [s, x] => (match P.underlying t with
    | some (.slice e) => (match P.info? e with
      | some ei =>
        if ei.size = 0 ∨ ei.bytes = 0 then none else
        (match P.underlying u with
        | some (.slice _) => (match ei.zero with | some z => if ei.size = z.cells.size then some (.append ei.size ei.bytes s x) else none | none => none)
        | some .string => (match ei.zero with | some z => if ei.size = z.cells.size then some (.append ei.size ei.bytes s x) else none | none => none)
        | _ => none)
      | none => none)
    | _ => none)
  | .copy, [t, _], [d, s] => (match P.underlying t with
    | some (.slice e) => (match P.info? e with | some ei => some (.copy ei.size d s) | none => none)
    | _ => none)
  | _, _, _ => none
/-- Variables that hold maps are not read, unless they are great. -/
def deadT (P : Program) (t : TypeId) : Bool :=
  match P.info? t with
  | some i => (match i.zero with | some z => decide (z.cells.size ≤ 10) && z.cells.toList.any (fun | .map _ => true | _ => false) | none => false)
  | none => false
def compOp (P : Program) (o : Oper) : Option MI :=
  match o.op with
  | .move x | .assign x => some (.mov x)
  | .pick c a b => some (.pick c a b)
  | .alloc t => (match P.info? t with
    | some i => (match i.zero with | some z => if z.cells.toList.all p1 = true then some (.alloc z.cells.toList (esOf P t)) else none | none => none)
    | none => none)
  | .box t x => if deadT P t = true then some (.boxDead x) else some (.box (esOf P t) x)
  | .build t parts => (match P.info? t with
    | some i => (match i.zero with
      | some z => if z.cells.toList.all p1 = true then (match P.underlying t with
        | some (.struct fs) => if fs.toList.all (fun f => (P.info? f.type).isSome) = true then (match partsOf P (fun j => (fs[j]?).map fun f => (f.offset, f.type)) parts.toList with | some l => some (.build z.cells.toList l) | none => none) else none
        | some (.array _ e) => if (P.info? e).isSome = true then (match partsOf P (fun j => some (j * P.cellsOf e, e)) parts.toList with | some l => some (.build z.cells.toList l) | none => none) else none
        | _ => none) else none
      | none => none)
    | none => none)
  | .buildSlice t n parts => (match P.underlying t with
    | some (.slice e) => (match P.info? e with
      | some i => (match i.zero with
        | some z =>
          if z.cells.toList.all p1 = true ∧ n * i.size ≤ 2 ^ 24 ∧ 0 < i.size ∧ z.cells.size = i.size then (match partsOf P (fun j => some (j * i.size, e)) parts.toList with
            | some l => some (.buildSlice (rep n z.cells.toList) i.size n l)
            | none => none) else none
        | none => none)
      | none => none)
    | _ => none)
  | .load t a => (match P.underlying t, P.info? t with
    | some d, some i => if isAggT d = true then some (.load true i.size a) else some (.load false 1 a)
    | _, _ => none)
  | .store t a x => (match P.info? t with | some i => some (.store i.size a x) | none => none)
  | .nilCheck x => some (.nilCheck x)
  | .binOp op t x y _ => (match P.underlying t with
    | some (.array n e) => if P.eqGuardType P.depth t = false ∧ (P.info? e).isSome = true then (match scalarK P e, op with
      | some k, .eql => some (.eqc false ((List.range n).map fun i => (i, k)) x y)
      | some k, .neq => some (.eqc true ((List.range n).map fun i => (i, k)) x y)
      | _, _ => none) else none
    | some (.struct fs) => if P.eqGuardType P.depth t = false ∧ P.stoodInHeld t = false then (match offsOf P fs.toList, op with
      | some l, .eql => some (.eqc false l x y)
      | some l, .neq => some (.eqc true l x y)
      | _, _ => none) else none
    | some d => (match tkOf d with | some k => some (.bin k op x y) | none => none)
    | none => none)
  | .unOp op _ x => some (.un op x)
  | .convert s d x => (match P.underlying s, P.underlying d with
    | some (.int _), some (.int k) => some (.conv k x)
    | some .string, some .string => some (.strMov x)
    | some .string, some (.slice e) => (match P.underlying e with | some (.int .u8) => some (.toBytes x) | _ => none)
    | some (.slice e), some .string => (match P.underlying e with | some (.int .u8) => some (.toStr x) | _ => none)
    | _, _ => none)
  | .makeMap _ none => some .newMap
  | .sliceToArrayPointer t x => (match P.underlying t with | some (.array n _) => some (.toArr n x) | _ => none)
  | .makeInterface t x => (match P.underlying t with | some (.interface _) => none | some _ => some (.mkIface t x) | none => none)
  | .makeFunc fn a b => some (.mkFunc fn a.toList b.toList)
  | .makeSlice t l c => (match P.underlying t with
    | some (.slice e) => (match P.info? e with
      | some i => (match i.zero with | some z => if i.size = z.cells.size ∧ 0 < i.size ∧ z.cells.toList.all p1 = true then some (.mkSlice z.cells.toList i.size i.bytes l c) else none | none => none)
      | none => none)
    | _ => none)
  | .slice t x lo hi none => (match P.underlying t with
    | some .string => some (.sliceStr x lo hi)
    | some (.slice e) => (match P.info? e with | some i => some (.sliceS i.size x lo hi) | none => none)
    | some (.array n e) => (match P.info? e with | some i => some (.sliceA n i.size x lo hi) | none => none)
    | some (.pointer q) => (match P.underlying q with
      | some (.array n e) => (match P.info? e with | some i => some (.sliceA n i.size x lo hi) | none => none)
      | _ => none)
    | _ => none)
  | .fieldAddr s x j => (match P.underlying s with
    | some (.struct fs) => (match fs[j]? with
      | some f => (match P.info? f.type with | some i => if i.size = 0 then none else some (.addOff f.offset x) | none => none)
      | none => none)
    | _ => none)
  | .field s x j => (match P.underlying s with
    | some (.struct fs) => (match fs[j]? with
      | some f => (match P.info? f.type, P.underlying f.type with
        | some i, some d => if isAggT d = true then some (.field true f.offset i.size x) else some (.field false f.offset 1 x)
        | _, _ => none)
      | none => none)
    | _ => none)
  | .indexAddr t x i => (match P.underlying t with
    | some (.slice e) => (match P.info? e with | some ei => some (.idxS ei.size x i) | none => none)
    | some (.array n e) => (match P.info? e with | some ei => some (.idxA n ei.size x i) | none => none)
    | _ => none)
  | .index t x i => (match P.underlying t with
    | some .string => some (.strIdx x i)
    | some (.array n e) => (match P.info? e, P.underlying e with
      | some ei, some d => if isAggT d = true then some (.arrIdx true n ei.size x i) else if ei.size = 1 then some (.arrIdx false n 1 x i) else none
      | _, _ => none)
    | _ => none)
  | .extract x i => some (.extract x i)
  | .call c => (match c.callee with
    | .builtin b => compBuiltin P b c.argTypes.toList c.args.toList
    | .value g => some (.call false g c.args.toList)
    | .invoke _ _ => none)
  | _ => none

section
variable {P : Program} {N : Nat} {c : CMap} {H : AH} {w : World} {f : Fr} {ρ : Operand → Value}
/-- What an operation that yields a value does. -/
def Does (P : Program) (N : Nat) (c : CMap) (H : AH) (w : World) (r : Sem Value) (v : Value) (H' : AH) : Prop :=
  ∃ v' c' w', r.run P w = .ok v' w' ∧ VR H'.next c' v v' ∧ Sim N c' H' w' ∧ ExtW N c H w c' H' w'
theorem Does.pure (hs : Sim N c H w) {r : Sem Value} {v v' : Value} (hr : r.run P w = .ok v' w) (hv : VR H.next c v v') : Does P N c H w r v H :=
  ⟨v', c, w, hr, hv, hs, .refl _ _ _ _⟩

/-! ### Inversions -/
theorem VR.bool {n : Nat} {c : CMap} {b : Bool} {v' : Value} (h : VR n c (.bool b) v') : v' = .bool b := h.eq1 rfl
theorem VR.int {n : Nat} {c : CMap} {k : IntKind} {x : Int} {v' : Value} (h : VR n c (.int k x) v') : v' = .int k x := h.eq1 rfl
theorem VR.str {n : Nat} {c : CMap} {s : ByteArray} {v' : Value} (h : VR n c (.string s) v') : v' = .string s := h.eq1 rfl
theorem VR.nilF {n : Nat} {c : CMap} {v' : Value} (h : VR n c .nilFunc v') : v' = .nilFunc := h.eq1 rfl
theorem VR.ptrI {n : Nat} {c : CMap} {a : Option Addr} {v' : Value} (h : VR n c (.pointer a) v') : ∃ a', v' = .pointer a' ∧ a'.isNone = a.isNone := by
  cases h with
  | plain h => exact ⟨a, rfl, rfl⟩
  | ptr h1 h2 h3 => exact ⟨_, rfl, rfl⟩
  | ptrDead h1 h2 => exact ⟨_, rfl, rfl⟩
theorem VR.ptrL {n : Nat} {c : CMap} {a : Addr} {l : Loc} {v' : Value} (h : VR n c (.pointer (some a)) v') (hc : c a.block = some l) : v' = .pointer (some ⟨l.blk, l.sh + a.off, none⟩) ∧ a.block < n := by
  cases h with
  | plain h => simp [p1] at h
  | ptr h1 h2 h3 => rw [hc] at h2; obtain rfl := Option.some.inj h2; exact ⟨rfl, h1⟩
  | ptrDead h1 h2 => rw [hc] at h2; simp at h2
theorem VR.ptrSpot {n : Nat} {c : CMap} {a : Addr} {l : Loc} {v' : Value} (h : VR n c (.pointer (some a)) v') (hc : c a.block = some l) : a.spot = none := by
  cases h with
  | plain h => simp [p1] at h
  | ptr h1 h2 h3 => exact h3
  | ptrDead h1 h2 => rw [hc] at h2; simp at h2
theorem VR.slcI {n : Nat} {c : CMap} {a : Option Addr} {m k : Nat} {v' : Value} (h : VR n c (.slice a m k) v') : ∃ a' k', v' = .slice a' m k' ∧ a'.isNone = a.isNone := by
  cases h with
  | plain h => exact ⟨a, k, rfl, rfl⟩
  | slice h1 h2 h3 => exact ⟨_, _, rfl, rfl⟩
  | sliceDead h1 h2 => exact ⟨_, _, rfl, rfl⟩
theorem VR.slcN {n : Nat} {c : CMap} {m k : Nat} {v' : Value} (h : VR n c (.slice none m k) v') : v' = .slice none m k := h.eq1 rfl
theorem VR.slcL {n : Nat} {c : CMap} {a : Addr} {m k : Nat} {l : Loc} {v' : Value} (h : VR n c (.slice (some a) m k) v') (hc : c a.block = some l) : ∃ k', v' = .slice (some ⟨l.blk, l.sh + a.off, none⟩) m k' ∧ a.block < n ∧ k ≤ k' ∧ l.sh + a.off + k' * l.es ≤ l.sz := by
  cases h with
  | plain h => simp [p1] at h
  | slice h1 h2 h3 h4 h5 => rw [hc] at h2; obtain rfl := Option.some.inj h2; exact ⟨_, rfl, h1, h4, h5⟩
  | sliceDead h1 h2 => rw [hc] at h2; simp at h2
theorem VR.slcSpot {n : Nat} {c : CMap} {a : Addr} {m k : Nat} {l : Loc} {v' : Value} (h : VR n c (.slice (some a) m k) v') (hc : c a.block = some l) : a.spot = none := by
  cases h with
  | plain h => simp [p1] at h
  | slice h1 h2 h3 h4 h5 => exact h3
  | sliceDead h1 h2 => rw [hc] at h2; simp at h2
theorem VR.funcI {n : Nat} {c : CMap} {fn : Fn} {a b : Array Value} {v' : Value} (h : VR n c (.func fn a b) v') : ∃ a' b', v' = .func fn a' b' ∧ VRL n c a.toList a'.toList ∧ VRL n c b.toList b'.toList := by
  cases h with
  | plain h => obtain ⟨rfl, rfl⟩ := p1_of_empty h; exact ⟨_, _, rfl, .nil, .nil⟩
  | @func fn f f' g g' hf hg h1 h2 => exact ⟨_, _, rfl, ⟨by simpa using hf, fun j hj => by simpa using h1 j (by simpa using hj)⟩, ⟨by simpa using hg, fun j hj => by simpa using h2 j (by simpa using hj)⟩⟩

theorem VR.ifcI {n : Nat} {c : CMap} {t : TypeId} {u v' : Value} (h : VR n c (.iface t u) v') : ∃ u', v' = .iface t u' ∧ VR n c u u' := by
  cases h with
  | plain h => simp [p1] at h
  | iface h => exact ⟨_, rfl, h⟩
theorem VR.nilI {n : Nat} {c : CMap} {v' : Value} (h : VR n c .nilIface v') : v' = .nilIface := h.eq1 rfl

theorem add_eq (b o n : Nat) : (⟨b, o, none⟩ : Addr).add n = ⟨b, o + n, none⟩ := by unfold Addr.add; split <;> simp_all
theorem run_underlying {t : TypeId} {d : TypeDesc} (h : P.underlying t = some d) : (underlying t).run P w = .ok d w := by simp [underlying, h]
theorem run_typeInfo {t : TypeId} {i : TypeInfo} (h : P.info? t = some i) : (typeInfo t).run P w = .ok i w := by simp [typeInfo, h]
theorem run_sizeOf {t : TypeId} {i : TypeInfo} (h : P.info? t = some i) : (sizeOf t).run P w = .ok i.size w := by simp [sizeOf, run_typeInfo h]
theorem run_zeroValue {t : TypeId} {i : TypeInfo} {z : Value} (h : P.info? t = some i) (hz : i.zero = some z) : (zeroValue t).run P w = .ok z w := by simp [zeroValue, run_typeInfo h, hz]
theorem run_isAgg {t : TypeId} {d : TypeDesc} (h : P.underlying t = some d) : (isAgg t).run P w = .ok (isAggT d) w := by
  simp only [isAgg, Sem.run_bind, run_underlying h, Result.andThen_ok]
  cases d <;> rfl
end
end Go.Proofs.Ytidpkoaomfbljaa.AM
