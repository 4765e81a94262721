/- The relation between the abstract heap and the model's world. -/
import Derived.Test.YtidpkoaomfbljaaAmA
import Derived.Below
import Derived.Laws.Sem
import Derived.Laws.Cells
import Derived.Laws.World
import Derived.Laws.Strings
namespace Go.Proofs.Ytidpkoaomfbljaa.AM
open Go Go.RowKit
set_option linter.all false

/-- Where a block lies: its number, how far its first cell lies behind the row's head, how many cells the row has, how many an element has. -/
structure Loc where
  blk : Nat
  sh : Nat
  sz : Nat
  es : Nat
abbrev CMap := Nat → Option Loc

/-- An abstract value and the model's. -/
inductive VR (n : Nat) (c : CMap) : Value → Value → Prop
  | plain {v : Value} (h : p1 v = true) : VR n c v v
  | ptr {a : Addr} {l : Loc} (hn : a.block < n) (hc : c a.block = some l) (hs : a.spot = none) : VR n c (.pointer (some a)) (.pointer (some ⟨l.blk, l.sh + a.off, none⟩))
  | ptrDead {a a' : Addr} (hn : a.block < n) (hc : c a.block = none) : VR n c (.pointer (some a)) (.pointer (some a'))
  | slice {a : Addr} {l : Loc} {m k k' : Nat} (hn : a.block < n) (hc : c a.block = some l) (hs : a.spot = none) (hk : k ≤ k') (hb : l.sh + a.off + k' * l.es ≤ l.sz) : VR n c (.slice (some a) m k) (.slice (some ⟨l.blk, l.sh + a.off, none⟩) m k')
  | sliceDead {a a' : Addr} {m k k' : Nat} (hn : a.block < n) (hc : c a.block = none) : VR n c (.slice (some a) m k) (.slice (some a') m k')
  | func {fn : Fn} {f f' g g' : Array Value} (hf : f.size = f'.size) (hg : g.size = g'.size) (h1 : ∀ j, j < f.size → VR n c (f.getD j undef) (f'.getD j undef)) (h2 : ∀ j, j < g.size → VR n c (g.getD j undef) (g'.getD j undef)) : VR n c (.func fn f g) (.func fn f' g')
  | iface {t : TypeId} {v v' : Value} (h : VR n c v v') : VR n c (.iface t v) (.iface t v')
  | mapDead {a a' : Nat} : VR n c (.map (some a)) (.map (some a'))
  | agg {f f' : Array Value} (hf : f.size = f'.size) (h : ∀ j, j < f.size → VR n c (f.getD j undef) (f'.getD j undef)) : VR n c (.agg f) (.agg f')
  | tuple {f f' : Array Value} (hf : f.size = f'.size) (h : ∀ j, j < f.size → VR n c (f.getD j undef) (f'.getD j undef)) : VR n c (.tuple f) (.tuple f')

theorem VR.mono {n n' : Nat} {c c' : CMap} (hn : n ≤ n') (hc : ∀ id, id < n → c' id = c id ∨ c' id = none) {v v' : Value} (h : VR n c v v') : VR n' c' v v' := by
  induction h with
  | plain h => exact .plain h
  | @ptr a l h1 h2 h3 =>
    rcases hc _ h1 with e | e
    · exact .ptr (by omega) (by rw [e]; exact h2) h3
    · exact .ptrDead (by omega) e
  | @ptrDead a a' h1 h2 =>
    rcases hc _ h1 with e | e
    · exact .ptrDead (by omega) (by rw [e]; exact h2)
    · exact .ptrDead (by omega) e
  | @slice a l m k k' h1 h2 h3 h4 h5 =>
    rcases hc _ h1 with e | e
    · exact .slice (by omega) (by rw [e]; exact h2) h3 h4 h5
    · exact .sliceDead (by omega) e
  | @sliceDead a a' m k k' h1 h2 =>
    rcases hc _ h1 with e | e
    · exact .sliceDead (by omega) (by rw [e]; exact h2)
    · exact .sliceDead (by omega) e
  | func hf hg h1 h2 i1 i2 => exact .func hf hg i1 i2
  | iface h i => exact .iface i
  | mapDead => exact .mapDead
  | agg hf h i => exact .agg hf i
  | tuple hf h i => exact .tuple hf i

theorem p1_of_empty {f g : Array Value} {fn : Fn} (h : p1 (.func fn f g) = true) : f = #[] ∧ g = #[] := by
  simp only [p1, Bool.and_eq_true, Array.isEmpty_iff] at h; exact h
/-- What holds no address is itself. -/
theorem VR.eq1 {n : Nat} {c : CMap} {v v' : Value} (h : VR n c v v') (hp : p1 v = true) : v' = v := by
  cases h with
  | plain _ => rfl
  | ptr _ _ _ => simp [p1] at hp
  | ptrDead _ _ => simp [p1] at hp
  | slice _ _ _ _ _ => simp [p1] at hp
  | sliceDead _ _ => simp [p1] at hp
  | @func fn f f' g g' hf hg h1 h2 =>
    obtain ⟨rfl, rfl⟩ := p1_of_empty hp
    have e1 : f' = #[] := Array.eq_empty_of_size_eq_zero (by simpa using hf.symm)
    have e2 : g' = #[] := Array.eq_empty_of_size_eq_zero (by simpa using hg.symm)
    rw [e1, e2]
  | iface _ => simp [p1] at hp
  | mapDead => simp [p1] at hp
  | agg _ _ => simp [p1] at hp
  | tuple _ _ => simp [p1] at hp
theorem getD_get {l : Array Value} {j : Nat} (h : j < l.size) : l.getD j undef = l[j] := by simp [h]
theorem arr_ext {f f' : Array Value} (hf : f.size = f'.size) (h : ∀ j, j < f.size → f'.getD j undef = f.getD j undef) : f' = f := by
  apply Array.ext hf.symm
  intro i h1 h2
  have := h i h2
  rw [getD_get h2, getD_get h1] at this
  exact this
theorem all_getD {f : Array Value} {p : Value → Bool} (h : f.toList.all p = true) {j : Nat} (hj : j < f.size) : p (f.getD j undef) = true := by
  rw [getD_get hj]
  exact List.all_eq_true.1 h _ (by simp)
theorem VR.eq2 {n : Nat} {c : CMap} {v v' : Value} (h : VR n c v v') (hp : p2 v = true) : v' = v := by
  cases h with
  | plain _ => rfl
  | @agg f f' hf h => rw [arr_ext hf fun j hj => (h j hj).eq1 (all_getD hp hj)]
  | ptr h1 h2 h3 => exact (VR.ptr h1 h2 h3).eq1 hp
  | ptrDead h1 h2 => simp [p2, p1] at hp
  | slice h1 h2 h3 h4 h5 => simp [p2, p1] at hp
  | sliceDead h1 h2 => simp [p2, p1] at hp
  | func hf hg h1 h2 => exact (VR.func hf hg h1 h2).eq1 hp
  | iface _ => simp [p2, p1] at hp
  | mapDead => simp [p2, p1] at hp
  | tuple _ _ => simp [p2, p1] at hp
theorem VR.eq3 {n : Nat} {c : CMap} {v v' : Value} (h : VR n c v v') (hp : p3 v = true) : v' = v := by
  cases h with
  | plain _ => rfl
  | @tuple f f' hf h => rw [arr_ext hf fun j hj => (h j hj).eq2 (all_getD hp hj)]
  | @agg f f' hf h => exact (VR.agg hf h).eq2 hp
  | ptr h1 h2 h3 => exact (VR.ptr h1 h2 h3).eq1 hp
  | ptrDead h1 h2 => simp [p3, p2, p1] at hp
  | slice h1 h2 h3 h4 h5 => simp [p3, p2, p1] at hp
  | sliceDead h1 h2 => simp [p3, p2, p1] at hp
  | func hf hg h1 h2 => exact (VR.func hf hg h1 h2).eq1 hp
  | iface _ => simp [p3, p2, p1] at hp
  | mapDead => simp [p3, p2, p1] at hp
theorem VR.of2 {n : Nat} {c : CMap} {v : Value} (hp : p2 v = true) : VR n c v v := by
  cases v <;> first
    | exact .plain hp
    | exact .agg rfl fun j hj => .plain (all_getD hp hj)
theorem VR.of3 {n : Nat} {c : CMap} {v : Value} (hp : p3 v = true) : VR n c v v := by
  cases v <;> first
    | exact .of2 hp
    | exact .tuple rfl fun j hj => .of2 (all_getD hp hj)
theorem VR.undef {n : Nat} {c : CMap} : VR n c Go.undef Go.undef := .of3 rfl

/-- What can lie in one cell keeps that. -/
theorem VR.one {n : Nat} {c : CMap} {v v' : Value} (h : VR n c v v') (ho : AM.one v = true) : v'.oneCell' = true := by
  cases h with
  | plain h => cases v <;> first | rfl | (simp [p1] at h)
  | _ => first | rfl | (simp [AM.one] at ho)

/-- Rows of values. -/
def VRL (n : Nat) (c : CMap) (l l' : List Value) : Prop := l.length = l'.length ∧ ∀ j, j < l.length → VR n c (l.getD j Go.undef) (l'.getD j Go.undef)
theorem VRL.mono {n n' : Nat} {c c' : CMap} (hn : n ≤ n') (hc : ∀ id, id < n → c' id = c id ∨ c' id = none) {l l' : List Value} (h : VRL n c l l') : VRL n' c' l l' :=
  ⟨h.1, fun j hj => (h.2 j hj).mono hn hc⟩
theorem VRL.nil {n : Nat} {c : CMap} : VRL n c [] [] := ⟨rfl, fun j hj => by simp at hj⟩
theorem VRL.cons {n : Nat} {c : CMap} {v v' : Value} {l l' : List Value} (h : VR n c v v') (hl : VRL n c l l') : VRL n c (v :: l) (v' :: l') := by
  refine ⟨by simp [hl.1], fun j hj => ?_⟩
  cases j with
  | zero => simpa using h
  | succ j => simpa using hl.2 j (by simpa using hj)
theorem VRL.uncons {n : Nat} {c : CMap} {v : Value} {l m : List Value} (h : VRL n c (v :: l) m) : ∃ v' l', m = v' :: l' ∧ VR n c v v' ∧ VRL n c l l' := by
  cases m with
  | nil => simp [VRL] at h
  | cons v' l' =>
    refine ⟨v', l', rfl, by simpa using h.2 0 (by simp), by simpa using h.1, fun j hj => ?_⟩
    simpa using h.2 (j + 1) (by simpa using hj)
theorem VRL.nil_inv {n : Nat} {c : CMap} {m : List Value} (h : VRL n c [] m) : m = [] := by
  have := h.1; simpa using this.symm
theorem VRL.map {n : Nat} {c : CMap} {α : Type} (l : List α) {f g : α → Value} (h : ∀ x ∈ l, VR n c (f x) (g x)) : VRL n c (l.map f) (l.map g) := by
  induction l with
  | nil => exact .nil
  | cons x l ih => exact .cons (h x (by simp)) (ih fun y hy => h y (by simp [hy]))
theorem VRL.append {n : Nat} {c : CMap} {l l' m m' : List Value} (h : VRL n c l l') (k : VRL n c m m') : VRL n c (l ++ m) (l' ++ m') := by
  induction l generalizing l' with
  | nil => rw [h.nil_inv]; exact k
  | cons v l ih =>
    obtain ⟨v', l'', rfl, h1, h2⟩ := h.uncons
    exact .cons h1 (ih h2)
theorem VRL.drop {n : Nat} {c : CMap} {l l' : List Value} (h : VRL n c l l') (k : Nat) : VRL n c (l.drop k) (l'.drop k) := by
  induction k generalizing l l' with
  | zero => exact h
  | succ k ih =>
    cases l with
    | nil => rw [h.nil_inv]; exact .nil
    | cons v l => obtain ⟨v', l'', rfl, h1, h2⟩ := h.uncons; exact ih h2
theorem VRL.take {n : Nat} {c : CMap} {l l' : List Value} (h : VRL n c l l') (k : Nat) : VRL n c (l.take k) (l'.take k) := by
  induction k generalizing l l' with
  | zero => exact .nil
  | succ k ih =>
    cases l with
    | nil => rw [h.nil_inv]; exact .nil
    | cons v l => obtain ⟨v', l'', rfl, h1, h2⟩ := h.uncons; exact .cons h1 (ih h2)
theorem VRL.set {n : Nat} {c : CMap} {l l' : List Value} (h : VRL n c l l') (k : Nat) {v v' : Value} (hv : VR n c v v') : VRL n c (l.set k v) (l'.set k v') := by
  induction k generalizing l l' with
  | zero =>
    cases l with
    | nil => rw [h.nil_inv]; exact .nil
    | cons x l => obtain ⟨y, l'', rfl, h1, h2⟩ := h.uncons; exact .cons hv h2
  | succ k ih =>
    cases l with
    | nil => rw [h.nil_inv]; exact .nil
    | cons x l => obtain ⟨y, l'', rfl, h1, h2⟩ := h.uncons; exact .cons h1 (ih h2)
theorem VRL.splice {n : Nat} {c : CMap} {vs vs' : List Value} : ∀ {l l' : List Value} (off : Nat), VRL n c l l' → VRL n c vs vs' → VRL n c (AM.splice l off vs) (AM.splice l' off vs') := by
  induction vs generalizing vs' with
  | nil => intro l l' off h k; rw [k.nil_inv]; exact h
  | cons v vs ih =>
    intro l l' off h k
    obtain ⟨v', vs'', rfl, h1, h2⟩ := k.uncons
    exact ih (off + 1) (h.set off h1) h2
theorem VRL.replicate {n : Nat} {c : CMap} {v v' : Value} (h : VR n c v v') (k : Nat) : VRL n c (List.replicate k v) (List.replicate k v') := by
  induction k with
  | zero => exact .nil
  | succ k ih => exact .cons h ih
theorem VRL.refl {n : Nat} {c : CMap} {l : List Value} (h : l.all p1 = true) : VRL n c l l := by
  induction l with
  | nil => exact .nil
  | cons v l ih => simp only [List.all_cons, Bool.and_eq_true] at h; exact .cons (.plain h.1) (ih h.2)
theorem VRL.eq1 {n : Nat} {c : CMap} {l l' : List Value} (h : VRL n c l l') (hp : l.all p1 = true) : l' = l := by
  induction l generalizing l' with
  | nil => exact h.nil_inv
  | cons v l ih =>
    obtain ⟨v', l'', rfl, h1, h2⟩ := h.uncons
    simp only [List.all_cons, Bool.and_eq_true] at hp
    rw [h1.eq1 hp.1, ih h2 hp.2]
theorem VRL.one {n : Nat} {c : CMap} {l l' : List Value} (h : VRL n c l l') (hp : l.all AM.one = true) : ∀ v ∈ l', v.oneCell' = true := by
  induction l generalizing l' with
  | nil => rw [h.nil_inv]; simp
  | cons v l ih =>
    obtain ⟨v', l'', rfl, h1, h2⟩ := h.uncons
    simp only [List.all_cons, Bool.and_eq_true] at hp
    intro x hx
    rcases List.mem_cons.1 hx with rfl | hx
    · exact h1.one hp.1
    · exact ih h2 hp.2 x hx
theorem VRL.agg {n : Nat} {c : CMap} {l l' : List Value} (h : VRL n c l l') : VR n c (.agg l.toArray) (.agg l'.toArray) :=
  .agg (by simpa using h.1) fun j hj => by simpa using h.2 j (by simpa using hj)
theorem VRL.of_agg {n : Nat} {c : CMap} {f : Array Value} {v' : Value} (h : VR n c (.agg f) v') : ∃ f', v' = .agg f' ∧ VRL n c f.toList f'.toList := by
  cases h with
  | plain h => simp [p1] at h
  | @agg f f' hf h => exact ⟨f', rfl, by simpa using hf, fun j hj => by simpa using h j (by simpa using hj)⟩
theorem VRL.of_tuple {n : Nat} {c : CMap} {f : Array Value} {v' : Value} (h : VR n c (.tuple f) v') : ∃ f', v' = .tuple f' ∧ VRL n c f.toList f'.toList := by
  cases h with
  | plain h => simp [p1] at h
  | @tuple f f' hf h => exact ⟨f', rfl, by simpa using hf, fun j hj => by simpa using h j (by simpa using hj)⟩
theorem VRL.tuple {n : Nat} {c : CMap} {l l' : List Value} (h : VRL n c l l') : VR n c (.tuple l.toArray) (.tuple l'.toArray) :=
  .tuple (by simpa using h.1) fun j hj => by simpa using h.2 j (by simpa using hj)
/-- A value's cells. -/
theorem VR.cells {n : Nat} {c : CMap} {v v' : Value} (h : VR n c v v') : VRL n c v.cells.toList v'.cells.toList := by
  cases h with
  | @agg f f' hf h => exact ⟨by simpa [Value.cells] using hf, fun j hj => by simpa [Value.cells] using h j (by simpa [Value.cells] using hj)⟩
  | plain h => cases v <;> first | exact .cons (.plain h) .nil | simp [p1] at h
  | ptr h1 h2 h3 => exact .cons (.ptr h1 h2 h3) .nil
  | ptrDead h1 h2 => exact .cons (.ptrDead h1 h2) .nil
  | slice h1 h2 h3 h4 h5 => exact .cons (.slice h1 h2 h3 h4 h5) .nil
  | sliceDead h1 h2 => exact .cons (.sliceDead h1 h2) .nil
  | func hf hg h1 h2 => exact .cons (.func hf hg h1 h2) .nil
  | iface h => exact .cons (.iface h) .nil
  | mapDead => exact .cons .mapDead .nil
  | tuple hf h => exact .cons (.tuple hf h) .nil

/-! ### The heap -/
structure BlkR (N : Nat) (c : CMap) (n : Nat) (b : Blk) (l : Loc) (w : World) : Prop where
  es : l.es = b.es
  ones : b.cells.all AM.one = true
  row : ∃ (cs : Array Value) (ty : TypeId) (fz : Nat × Nat) (mid : List Value), w.heap[l.blk]? = some (.cells cs ty fz) ∧ cs.size = l.sz ∧ (b.ro = false → N ≤ l.blk ∧ ∀ j, j < l.sz → ¬ (fz.1 ≤ j ∧ j < fz.2)) ∧ l.sh + b.cells.length ≤ l.sz ∧
    (∀ j, j < b.cells.length → cs[l.sh + j]? = some (mid.getD j Go.undef)) ∧ VRL n c b.cells mid
structure Sim (N : Nat) (c : CMap) (H : AH) (w : World) : Prop where
  live : ∀ id, (H.get id).isSome = (c id).isSome
  blk : ∀ id b l, H.get id = some b → c id = some l → BlkR N c H.next b l w
  inj : ∀ id id' b l l', id ≠ id' → H.get id = some b → b.ro = false → c id = some l → c id' = some l' → l.blk ≠ l'.blk
  size : N ≤ w.heap.size
structure ExtW (N : Nat) (c : CMap) (H : AH) (w : World) (c' : CMap) (H' : AH) (w' : World) : Prop where
  nx : H.next ≤ H'.next
  dom : ∀ id, id < H.next → c' id = c id ∨ c' id = none
  low : H'.low ≤ H.low
  same : ∀ id, id < H.next → id < H'.low → c' id = c id ∧ H'.get id = H.get id ∧ ∀ l, c id = some l → w'.heap[l.blk]? = w.heap[l.blk]?
  below : Below N w w'
theorem ExtW.refl (N : Nat) (c : CMap) (H : AH) (w : World) : ExtW N c H w c H w :=
  ⟨Nat.le_refl _, fun _ _ => .inl rfl, Nat.le_refl _, fun _ _ _ => ⟨rfl, rfl, fun _ _ => rfl⟩, Below.refl _ _⟩
theorem ExtW.trans {N : Nat} {c c1 c2 : CMap} {H H1 H2 : AH} {w w1 w2 : World} (h : ExtW N c H w c1 H1 w1) (k : ExtW N c1 H1 w1 c2 H2 w2) : ExtW N c H w c2 H2 w2 where
  nx := Nat.le_trans h.nx k.nx
  dom := fun id hid => by
    rcases k.dom id (Nat.lt_of_lt_of_le hid h.nx) with e | e
    · rw [e]; exact h.dom id hid
    · exact .inr e
  low := Nat.le_trans k.low h.low
  same := fun id hid hl => by
    obtain ⟨e1, e2, e3⟩ := h.same id hid (Nat.lt_of_lt_of_le hl k.low)
    obtain ⟨f1, f2, f3⟩ := k.same id (Nat.lt_of_lt_of_le hid h.nx) hl
    exact ⟨f1.trans e1, f2.trans e2, fun l hc => (f3 l (by rw [e1]; exact hc)).trans (e3 l hc)⟩
  below := h.below.trans k.below

section heap
variable {N : Nat} {c : CMap} {H : AH} {w : World}
theorem get_lt {H : AH} {id : Nat} {b : Blk} (h : H.get id = some b) : id < H.next := by
  unfold AH.get at h
  by_cases hl : id < H.blks.length
  · exact hl
  · rw [List.getElem?_eq_none (by omega)] at h; simp at h
theorem Sim.c_lt (hs : Sim N c H w) {id : Nat} {l : Loc} (h : c id = some l) : id < H.next := by
  have := hs.live id
  rw [h] at this
  obtain ⟨b, hb⟩ := Option.isSome_iff_exists.1 this
  exact get_lt hb
theorem Sim.at_ (hs : Sim N c H w) {id : Nat} {b : Blk} (h : H.get id = some b) : ∃ l, c id = some l ∧ BlkR N c H.next b l w := by
  have := hs.live id
  rw [h] at this
  obtain ⟨l, hl⟩ := Option.isSome_iff_exists.1 this.symm
  exact ⟨l, hl, hs.blk id b l h hl⟩
@[simp] theorem next_push (H : AH) (b : Blk) : (H.push b).next = H.next + 1 := by simp [AH.push, AH.next]
@[simp] theorem next_set (H : AH) (id : Nat) (b : Option Blk) : (H.set id b).next = H.next := by simp [AH.set, AH.next]
@[simp] theorem low_push (H : AH) (b : Blk) : (H.push b).low = H.low := rfl
@[simp] theorem low_set (H : AH) (id : Nat) (b : Option Blk) : (H.set id b).low = min H.low id := rfl
theorem get_push (H : AH) (b : Blk) (id : Nat) : (H.push b).get id = if id = H.next then some b else H.get id := by
  unfold AH.get AH.push AH.next
  simp only [List.getElem?_append]
  split
  · rename_i h; rw [if_neg (by omega)]
  · rename_i h
    split
    · rename_i h2; rw [h2]; simp
    · rename_i h2
      rw [List.getElem?_eq_none (by simp; omega), List.getElem?_eq_none (by omega)]
theorem get_set (H : AH) (id : Nat) (b : Option Blk) (j : Nat) (hid : id < H.next) : (H.set id b).get j = if j = id then b else H.get j := by
  unfold AH.get AH.set
  unfold AH.next at hid
  simp only [List.getElem?_set]
  by_cases h : id = j
  · subst h; simp [hid]
  · rw [if_neg h, if_neg (by omega)]

/-- A new row is made. -/
theorem Sim.push (hs : Sim N c H w) {b : Blk} {cs : Array Value} {ty : TypeId} {fz : Nat × Nat} {rest : List Value} {mid : List Value} (hcs : cs.toList = mid ++ rest) (hm : VRL H.next c b.cells mid) (ho : b.cells.all AM.one = true) (hfz : ∀ j, j < cs.size → ¬ (fz.1 ≤ j ∧ j < fz.2)) :
    Sim N (fun id => if id = H.next then some ⟨w.heap.size, 0, cs.size, b.es⟩ else c id) (H.push b) (w.alloc (.cells cs ty fz)) ∧ ExtW N c H w (fun id => if id = H.next then some ⟨w.heap.size, 0, cs.size, b.es⟩ else c id) (H.push b) (w.alloc (.cells cs ty fz)) := by
  have hdom : ∀ id, id < H.next → (fun id => if id = H.next then some (⟨w.heap.size, 0, cs.size, b.es⟩ : Loc) else c id) id = c id ∨ (fun id => if id = H.next then some (⟨w.heap.size, 0, cs.size, b.es⟩ : Loc) else c id) id = none :=
    fun id hid => .inl (if_neg (by omega))
  have hmono : ∀ {l l' : List Value}, VRL H.next c l l' → VRL (H.push b).next (fun id => if id = H.next then some ⟨w.heap.size, 0, cs.size, b.es⟩ else c id) l l' :=
    fun h => h.mono (by simp) hdom
  have hold : ∀ (l : Loc) id b', H.get id = some b' → c id = some l → l.blk < w.heap.size := fun l id b' h1 h2 => by
    obtain ⟨cs', ty', fz', mid', h3, _⟩ := (hs.blk id b' l h1 h2).row
    exact (Array.getElem?_eq_some_iff.1 h3).1
  refine ⟨⟨fun id => ?_, fun id b' l h1 h2 => ?_, fun id id' b' l l' hne h1 hro h2 h3 => ?_, ?_⟩, ⟨by simp, hdom, Nat.le_refl _, fun id hid _ => ⟨if_neg (by omega), by rw [get_push, if_neg (by omega)], fun l hl => ?_⟩, (Below.refl N w).alloc hs.size _⟩⟩
  · rw [get_push]
    by_cases e : id = H.next
    · simp [e]
    · simp only [if_neg e]; exact hs.live id
  · rw [get_push] at h1
    by_cases e : id = H.next
    · rw [if_pos e] at h1
      simp only [if_pos e] at h2
      obtain rfl := Option.some.inj h1
      obtain rfl := Option.some.inj h2
      have hl := hm.1
      have hsz : cs.size = mid.length + rest.length := by rw [← Array.length_toList, hcs]; simp
      refine ⟨rfl, ho, cs, ty, fz, mid, by show (w.heap.push _)[w.heap.size]? = _; simp, rfl, fun _ => ⟨hs.size, hfz⟩, by simp; omega, fun j hj => ?_, hmono hm⟩
      rw [← Array.getElem?_toList, hcs, Nat.zero_add, List.getElem?_append_left (by omega)]
      simp [List.getElem?_eq_getElem (show j < mid.length by omega)]
    · rw [if_neg e] at h1
      simp only [if_neg e] at h2
      obtain ⟨cs', ty', fz', mid', k1, k2, k3, k4, k5, k6⟩ := (hs.blk id b' l h1 h2).row
      refine ⟨(hs.blk id b' l h1 h2).es, (hs.blk id b' l h1 h2).ones, cs', ty', fz', mid', ?_, k2, k3, k4, k5, hmono k6⟩
      rw [Below.heap_alloc _ _ _ (hold l id b' h1 h2)]; exact k1
  · rw [get_push] at h1
    by_cases e : id = H.next
    · simp only [if_pos e] at h2
      obtain rfl := Option.some.inj h2
      have e' : id' ≠ H.next := fun h => hne (by omega)
      simp only [if_neg e'] at h3
      have hlt := hs.c_lt h3
      have := hs.live id'
      rw [h3] at this
      obtain ⟨b2, hb2⟩ := Option.isSome_iff_exists.1 this
      have := hold l' id' b2 hb2 h3
      simp only; omega
    · rw [if_neg e] at h1
      simp only [if_neg e] at h2
      by_cases e' : id' = H.next
      · simp only [if_pos e'] at h3
        obtain rfl := Option.some.inj h3
        have := hold l id b' h1 h2
        simp only; omega
      · simp only [if_neg e'] at h3
        exact hs.inj id id' b' l l' hne h1 hro h2 h3
  · have := hs.size; simp; omega
  · have := hs.live id
    rw [hl] at this
    obtain ⟨b2, hb2⟩ := Option.isSome_iff_exists.1 this
    exact Below.heap_alloc _ _ _ (hold l id b2 hb2 hl)

/-- Two maps that say the same of each block. -/
theorem c_old (hs : Sim N c H w) {id : Nat} {l : Loc} (h : c id = some l) : l.blk < w.heap.size := by
  have := hs.live id
  rw [h] at this
  obtain ⟨b, hb⟩ := Option.isSome_iff_exists.1 this
  obtain ⟨cs, ty, fz, mid, h3, _⟩ := (hs.blk id b l hb h).row
  exact (Array.getElem?_eq_some_iff.1 h3).1
theorem splice_ones : ∀ (vs l : List Value) (off : Nat), l.all AM.one = true → vs.all AM.one = true → (splice l off vs).all AM.one = true
  | [], l, off, h, _ => h
  | v :: vs, l, off, h, k => by
    simp only [List.all_cons, Bool.and_eq_true] at k
    refine splice_ones vs _ _ ?_ k.2
    rw [List.all_eq_true] at h ⊢
    intro x hx
    rcases List.mem_or_eq_of_mem_set hx with hx | rfl
    · exact h x hx
    · exact k.1
theorem splice_length : ∀ (vs l : List Value) (off : Nat), (splice l off vs).length = l.length
  | [], l, off => rfl
  | v :: vs, l, off => by rw [splice, splice_length vs]; simp
theorem splice_get : ∀ (vs l : List Value) (off j : Nat), off + vs.length ≤ l.length → (splice l off vs)[j]? = if off ≤ j ∧ j < off + vs.length then vs[j - off]? else l[j]?
  | [], l, off, j, _ => by simp only [splice, List.length_nil]; rw [if_neg (by omega)]
  | v :: vs, l, off, j, h => by
    rw [splice, splice_get vs _ _ _ (by simp at h ⊢; omega)]
    simp only [List.length_cons] at h ⊢
    by_cases h1 : off + 1 ≤ j ∧ j < off + 1 + vs.length
    · rw [if_pos h1, if_pos (by omega)]
      obtain ⟨k, rfl⟩ : ∃ k, j = off + 1 + k := ⟨j - (off + 1), by omega⟩
      rw [show off + 1 + k - (off + 1) = k by omega, show off + 1 + k - off = k + 1 by omega]; simp
    · rw [if_neg h1, List.getElem?_set]
      by_cases h2 : off = j
      · rw [if_pos h2, if_pos (by omega), if_pos (by omega)]; subst h2; simp
      · rw [if_neg h2, if_neg (by omega)]
theorem splice_append (vs l m : List Value) (off : Nat) (h : off + vs.length ≤ l.length) : splice (l ++ m) off vs = splice l off vs ++ m := by
  induction vs generalizing l off with
  | nil => rfl
  | cons v vs ih => simp only [List.length_cons] at h; rw [splice, splice, ← ih _ _ (by simp; omega), List.set_append_left _ _ (by omega)]
theorem splice_shift (vs k l : List Value) (off : Nat) : splice (k ++ l) (k.length + off) vs = k ++ splice l off vs := by
  induction vs generalizing l off with
  | nil => rfl
  | cons v vs ih => rw [splice, splice, List.set_append_right _ _ (by omega), show k.length + off - k.length = off by omega, show k.length + off + 1 = k.length + (off + 1) by omega, ih]
theorem run_storeRow (P : Program) (g o : Nat) (t : TypeId) (fz : Nat × Nat) : ∀ (vs : List Value) (i : Nat) (cur : Array Value) (w : World), w.heap[g]? = some (.cells cur t fz) → (∀ j, j < cur.size → ¬ (fz.1 ≤ j ∧ j < fz.2)) → o + i + vs.length ≤ cur.size → (∀ v ∈ vs, v.oneCell' = true) →
    ∃ w', (storeCells ⟨g, o, none⟩ vs i).run P w = .ok () w' ∧ w'.heap[g]? = some (.cells (splice cur.toList (o + i) vs).toArray t fz) ∧ (∀ k, k ≠ g → w'.heap[k]? = w.heap[k]?) ∧ w'.heap.size = w.heap.size ∧ w'.os = w.os ∧ w'.tape = w.tape ∧ w'.output = w.output
  | [], i, cur, w, hg, _, _, _ => ⟨w, rfl, by simpa [splice] using hg, fun _ _ => rfl, rfl, rfl, rfl, rfl⟩
  | v :: rest, i, cur, w, hg, hfz, hl, h1 => by
    have hi : o + i < cur.size := by simp at hl; omega
    have hadd : (⟨g, o, none⟩ : Addr).add i = ⟨g, o + i, none⟩ := by unfold Addr.add; split <;> simp_all
    have hcell : w.cell? ⟨g, o + i, none⟩ = some cur[o + i] := by simp [World.cell?, hg, hi]
    have hfro : w.frozen? ⟨g, o + i, none⟩ = false := by
      obtain ⟨lo, hi'⟩ := fz
      have := hfz _ hi
      simp only [World.frozen?, hg, Bool.and_eq_false_iff, decide_eq_false_iff_not]
      simp only at this
      omega
    have hst : (store ((⟨g, o, none⟩ : Addr).add i) v).run P w = .ok () (w.setCell ⟨g, o + i, none⟩ v) := by
      rw [hadd, run_store P w _ v _ (h1 v (by simp)), hcell]
      simp [hfro]
    have hnew : (w.setCell ⟨g, o + i, none⟩ v).heap[g]? = some (.cells (cur.setIfInBounds (o + i) v) t fz) := by
      simp only [World.setCell, Array.getElem?_modify, if_true, hg, Option.map_some]; simp
    obtain ⟨w', e1, e2, e3, e4, e5, e6, e7⟩ := run_storeRow P g o t fz rest (i + 1) (cur.setIfInBounds (o + i) v) _ hnew (by simpa using hfz) (by simp at hl ⊢; omega) (fun x hx => h1 x (by simp [hx]))
    refine ⟨w', ?_, ?_, fun k hk => (e3 k hk).trans (Below.heap_setCell _ _ _ _ (by simpa using hk)), by rw [e4]; simp, by rw [e5]; rfl, by rw [e6]; rfl, by rw [e7]; rfl⟩
    · simp only [storeCells, Sem.run_bind, hst, Result.andThen_ok, e1]
    · rw [e2]; simp [splice, Nat.add_assoc]
/-- A run of cells is written. -/
theorem Sim.store (hs : Sim N c H w) {id off : Nat} {b : Blk} {l : Loc} (hb : H.get id = some b) (hc : c id = some l) (hro : b.ro = false) {vs vs' : List Value} (hv : VRL H.next c vs vs') (hle : off + vs.length ≤ b.cells.length) (hone : vs.all AM.one = true) (P : Program) :
    ∃ w', (storeCells ⟨l.blk, l.sh + off, none⟩ vs').run P w = .ok () w' ∧ Sim N c (H.set id (some { b with cells := splice b.cells off vs })) w' ∧ ExtW N c H w c (H.set id (some { b with cells := splice b.cells off vs })) w' := by
  obtain ⟨cs, ty, fz, mid, k1, k2, k3, k4, k5, k6⟩ := (hs.blk id b l hb hc).row
  obtain ⟨hN, hfz⟩ := k3 hro
  have hlt := get_lt hb
  have h1 := hv.one hone
  obtain ⟨w', e1, e2, e3, e4, e5, e6, e7⟩ := run_storeRow P l.blk (l.sh + off) ty fz vs' 0 cs w k1 (by rw [k2]; exact hfz) (by have := hv.1; omega) h1
  refine ⟨w', e1, ⟨fun j => ?_, fun j b' l' g1 g2 => ?_, fun j j' b' l1 l2 hne g1 gro g2 g3 => ?_, by rw [e4]; exact hs.size⟩, ⟨by simp, fun _ _ => .inl rfl, Nat.min_le_left _ _, fun j hj hlow => ⟨rfl, ?_, fun l' g => ?_⟩, e5, e6, e7, by rw [e4]; exact Nat.le_refl _, fun k hk => e3 k (by omega)⟩⟩
  · rw [get_set _ _ _ _ hlt]
    split
    · rename_i e; subst e; rw [hc]; rfl
    · exact hs.live j
  · rw [get_set _ _ _ _ hlt] at g1
    split at g1
    · rename_i e
      subst e
      obtain rfl := Option.some.inj g1
      rw [hc] at g2
      obtain rfl := Option.some.inj g2
      refine ⟨(hs.blk j b l hb hc).es, splice_ones _ _ _ (hs.blk j b l hb hc).ones hone, _, ty, fz, splice mid off vs', e2, by simp [splice_length, k2], fun _ => ⟨hN, hfz⟩, by rw [splice_length]; exact k4, fun i hi => ?_, by simpa using k6.splice off hv⟩
      rw [splice_length] at hi
      have hm := k6.1
      have hv1 := hv.1
      have hcl : cs.toList.length = l.sz := by simp [k2]
      simp only [List.getElem?_toArray]
      rw [splice_get _ _ _ _ (by rw [hcl]; omega)]
      have : (splice mid off vs')[i]? = some ((splice mid off vs').getD i Go.undef) := by
        rw [List.getD_eq_getElem?_getD]
        have : i < (splice mid off vs').length := by rw [splice_length]; omega
        rw [List.getElem?_eq_getElem this]; rfl
      rw [← this, splice_get _ _ _ _ (by omega)]
      by_cases h : off ≤ i ∧ i < off + vs'.length
      · rw [if_pos h, if_pos (by omega), show l.sh + i - (l.sh + off + 0) = i - off by omega]
      · rw [if_neg h, if_neg (by omega)]
        have := k5 i hi
        rw [Array.getElem?_toList, this, List.getD_eq_getElem?_getD, List.getElem?_eq_getElem (show i < mid.length by omega)]; rfl
    · rename_i e
      obtain ⟨cs', ty', fz', mid', q1, q2, q3, q4, q5, q6⟩ := (hs.blk j b' l' g1 g2).row
      refine ⟨(hs.blk j b' l' g1 g2).es, (hs.blk j b' l' g1 g2).ones, cs', ty', fz', mid', ?_, q2, q3, q4, q5, by simpa using q6⟩
      rw [e3 _ (fun h => hs.inj id j b l l' (fun h => e h.symm) hb hro hc g2 h.symm)]; exact q1
  · rw [get_set _ _ _ _ hlt] at g1
    split at g1
    · rename_i e
      subst e
      exact hs.inj j j' b l1 l2 hne hb hro g2 g3
    · exact hs.inj j j' b' l1 l2 hne g1 gro g2 g3
  · rw [get_set _ _ _ _ hlt]
    simp only [low_set] at hlow
    rw [if_neg (by omega)]
  · simp only [low_set] at hlow
    exact e3 _ (fun h => hs.inj id j b l l' (by omega) hb hro hc g h.symm)
/-- Blocks that are let go. -/
theorem Sim.kill (hs : Sim N c H w) {id : Nat} {b : Blk} (hb : H.get id = some b) :
    Sim N (fun j => if j = id then none else c j) (H.set id none) w ∧ ExtW N c H w (fun j => if j = id then none else c j) (H.set id none) w := by
  have hlt := get_lt hb
  have hdom : ∀ j, j < H.next → (fun j => if j = id then none else c j) j = c j ∨ (fun j => if j = id then none else c j) j = none := fun j _ => by
    by_cases e : j = id
    · right; simp [e]
    · left; simp [e]
  refine ⟨⟨fun j => ?_, fun j b' l' g1 g2 => ?_, fun j j' b' l1 l2 hne g1 gro g2 g3 => ?_, hs.size⟩, ⟨by simp, hdom, Nat.min_le_left _ _, fun j hj hlow => ?_, Below.refl _ _⟩⟩
  · rw [get_set _ _ _ _ hlt]
    by_cases e : j = id
    · simp [e]
    · simp only [if_neg e]; exact hs.live j
  · rw [get_set _ _ _ _ hlt] at g1
    by_cases e : j = id
    · rw [if_pos e] at g1; exact absurd g1 (by simp)
    · rw [if_neg e] at g1
      simp only [if_neg e] at g2
      obtain ⟨cs', ty', fz', mid', q1, q2, q3, q4, q5, q6⟩ := (hs.blk j b' l' g1 g2).row
      exact ⟨(hs.blk j b' l' g1 g2).es, (hs.blk j b' l' g1 g2).ones, cs', ty', fz', mid', q1, q2, q3, q4, q5, q6.mono (by simp) hdom⟩
  · rw [get_set _ _ _ _ hlt] at g1
    by_cases e : j = id
    · rw [if_pos e] at g1; exact absurd g1 (by simp)
    · rw [if_neg e] at g1
      simp only [if_neg e] at g2
      by_cases e' : j' = id
      · simp [e'] at g3
      · simp only [if_neg e'] at g3
        exact hs.inj j j' b' l1 l2 hne g1 gro g2 g3
  · simp only [low_set] at hlow
    exact ⟨if_neg (by omega), by rw [get_set _ _ _ _ hlt, if_neg (by omega)], fun _ _ => rfl⟩
/-- A draw turns nothing. -/
theorem Sim.same (hs : Sim N c H w) {w' : World} (h : w'.heap = w.heap) : Sim N c H w' :=
  ⟨hs.live, fun id b l h1 h2 => by
    obtain ⟨cs', ty', fz', mid', q1, q2⟩ := (hs.blk id b l h1 h2).row
    exact ⟨(hs.blk id b l h1 h2).es, (hs.blk id b l h1 h2).ones, cs', ty', fz', mid', by rw [h]; exact q1, q2⟩, hs.inj, by rw [h]; exact hs.size⟩
theorem ExtW.drew (N : Nat) (c : CMap) (H : AH) (w : World) : ExtW N c H w c H w.drew :=
  ⟨Nat.le_refl _, fun _ _ => .inl rfl, Nat.le_refl _, fun _ _ _ => ⟨rfl, rfl, fun _ _ => rfl⟩, (Below.refl _ _).drew⟩
theorem all_take_drop {l : List Value} {p : Value → Bool} (h : l.all p = true) (a n : Nat) : ((l.drop a).take n).all p = true := by
  rw [List.all_eq_true] at h ⊢
  intro x hx
  exact h x (List.mem_of_mem_drop (List.mem_of_mem_take hx))
/-- Cells that are read. -/
theorem Sim.read (hs : Sim N c H w) {a : Addr} {n : Nat} {cs : List Value} (h : ldc H a n = some cs) : ∃ l cs', c a.block = some l ∧ cs.length = n ∧ cs.all AM.one = true ∧ VRL H.next c cs cs' ∧ ∀ j v, cs'[j]? = some v → w.cell? ⟨l.blk, l.sh + a.off + j, none⟩ = some v := by
  unfold ldc at h
  cases hb : H.get a.block with
  | none => rw [hb] at h; simp at h
  | some b =>
    rw [hb] at h
    simp only at h
    by_cases hle : a.off + n ≤ b.cells.length
    · rw [if_pos hle] at h
      obtain rfl := Option.some.inj h
      obtain ⟨l, hc, hr⟩ := hs.at_ hb
      obtain ⟨ar, ty, fz, mid, k1, k2, k3, k4, k5, k6⟩ := hr.row
      refine ⟨l, (mid.drop a.off).take n, hc, by simp; omega, all_take_drop hr.ones _ _, (k6.drop a.off).take n, fun j v hj => ?_⟩
      have hm := k6.1
      rw [List.getElem?_take] at hj
      split at hj
      · rw [List.getElem?_drop] at hj
        have := k5 (a.off + j) (by omega)
        simp only [World.cell?, k1, Option.isSome_none, Bool.false_eq_true, if_false]
        rw [Nat.add_assoc, this, List.getD_eq_getElem?_getD, hj]; rfl
      · simp at hj
    · rw [if_neg hle] at h; simp at h
end heap
end Go.Proofs.Ytidpkoaomfbljaa.AM
