/- Stores. -/
import Derived.Test.YtidpkoaomfbljaaAmT
namespace Go.Proofs.Ytidpkoaomfbljaa.AM
open Go
set_option linter.all false

def stB (H : AH) (a : Addr) (vs : List Value) : Option Blk → Option AH
  | some b => if b.ro = false ∧ a.off + vs.length ≤ b.cells.length then some (H.set a.block (some { b with cells := splice b.cells a.off vs })) else none
  | none => none
theorem stc_eq {H : AH} {a : Addr} {vs : List Value} : stc H a vs = if vs.all one = true then stB H a vs (H.get a.block) else none := by
  unfold stc stU stB
  cases H.get a.block <;> rfl
theorem stB_some {H : AH} {a : Addr} {vs : List Value} {b : Blk} : stB H a vs (some b) = if b.ro = false ∧ a.off + vs.length ≤ b.cells.length then some (H.set a.block (some { b with cells := splice b.cells a.off vs })) else none := rfl
theorem set_set {H : AH} {id : Nat} {x y : Option Blk} : (H.set id x).set id y = H.set id y := by
  simp only [AH.set, List.set_set, AH.mk.injEq, true_and]
  omega
theorem set_get {H : AH} {id : Nat} {x : Option Blk} (h : id < H.next) : (H.set id x).get id = x := AH.get_set_eq H x h
theorem back_set {H : AH} {id : Nat} {x : Option Blk} {v : Value} (h : id < H.next) : back H (H.enter.set id x) v = (v, H.set id x) := by
  unfold back
  have e : (H.enter.set id x).low = min H.next id := rfl
  rw [e, if_pos (by omega)]
  simp only [AH.set, AH.enter, Prod.mk.injEq, AH.mk.injEq, true_and]
  omega
theorem back_ptr {H : AH} {b : Blk} {y : Value} (hp : b.cells.all p1 = true) (hy : p2 y = true) {H1 : AH} {k : Nat} (hk : H1.get k = some b) (hge : H.next ≤ k) (hl : H.next ≤ H1.low) : back H H1 (.tuple #[.pointer (some ⟨k, 0, none⟩), y]) = (.tuple #[.pointer (some ⟨H.next, 0, none⟩), y], H.push b) := by
  unfold back
  rw [if_neg (by omega), if_neg (by simp [p3, p2, p1])]
  simp only [moveV, hk]
  rw [if_neg (by omega), if_pos hp]
  simp only [hy, if_true]
  rfl
end Go.Proofs.Ytidpkoaomfbljaa.AM
