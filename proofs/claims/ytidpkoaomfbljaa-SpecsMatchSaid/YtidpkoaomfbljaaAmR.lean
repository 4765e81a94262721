/- Slices, words: common lemmas. -/
import Derived.Test.YtidpkoaomfbljaaAmQ
import Derived.Laws.BitsLemmas
namespace Go.Proofs.Ytidpkoaomfbljaa.AM
open Go
set_option linter.all false
section
variable {tbl : Tbl} [hT : TMono tbl]

/-- A slice of one-cell elements. -/
def Sl (H : AH) (es : Nat) (v : Value) (n : Nat) (l : List Value) : Prop := (∃ a c, v = .slice a 0 c ∧ n = 0 ∧ l = []) ∨ ∃ a c, v = .slice (some a) n c ∧ ldc H a (n * es) = some l
theorem Sl.shape {H : AH} {es n : Nat} {v : Value} {l : List Value} (h : Sl H es v n l) : ∃ a c, v = .slice a n c := by
  rcases h with ⟨a, c, rfl, rfl, rfl⟩ | ⟨a, c, rfl, h⟩
  · exact ⟨a, c, rfl⟩
  · exact ⟨some a, c, rfl⟩
theorem ldc_len {H : AH} {a : Addr} {n : Nat} {l : List Value} (h : ldc H a n = some l) : l.length = n := by
  unfold ldc at h
  split at h
  · split at h
    · simp only [Option.some.injEq] at h; subst h; simp; omega
    · simp at h
  · simp at h
theorem ldc_sub {H : AH} {a : Addr} {n i m : Nat} {l : List Value} (h : ldc H a n = some l) (hi : i + m ≤ n) : ldc H (addA a i) m = some ((l.drop i).take m) := by
  rw [ldc_eq] at h ⊢
  simp only [addA]
  cases hb : H.get a.block with
  | none => rw [hb] at h; simp [ldcB] at h
  | some b =>
    rw [hb] at h
    rw [ldcB_some] at h ⊢
    split at h
    · rename_i hle
      simp only [Option.some.injEq] at h
      rw [if_pos (by omega), ← h, List.drop_take, List.drop_drop, List.take_take]
      congr 2
      omega
    · simp at h
theorem Sl.len {H : AH} {es n : Nat} {v : Value} {l : List Value} (h : Sl H es v n l) : l.length = n * es := by
  rcases h with ⟨a, c, rfl, rfl, rfl⟩ | ⟨a, c, rfl, h⟩
  · simp
  · exact ldc_len h
/-- Element number i is read. -/
theorem Sl.at_ {H : AH} {es n : Nat} {v : Value} {l : List Value} (h : Sl H es v n l) {i : Nat} (hi : i < n) {K : Value → Prop} (hK : ∀ p : Addr, p.block < H.next → ldcB (H.get p.block) p.off es = some ((l.drop (i * es)).take es) → K (.pointer (some p))) : (@idxSP v es (i : Int) ⟨K⟩) := by
  rcases h with ⟨a, c, rfl, rfl, rfl⟩ | ⟨a, c, rfl, h⟩
  · omega
  · unfold idxSP
    simp only
    refine ⟨⟨by omega, by omega⟩, ?_⟩
    rw [Int.toNat_natCast]
    have h2 := ldc_sub h (i := i * es) (m := es) (by
      have := Nat.mul_le_mul_right es (Nat.succ_le_of_lt hi)
      rw [Nat.succ_mul] at this
      exact this)
    exact hK _ (ldc_lt h2) (by rw [← ldc_eq]; exact h2)
theorem take_one {α : Type} {l : List α} {i : Nat} (h : i < l.length) : (l.drop i).take 1 = [l[i]] := by
  rw [List.drop_eq_getElem_cons h]; rfl
def I64 (x : Int) : Value := .int .i64 x
theorem Sl.int {H : AH} {v : Value} {l : List Int} (h : Sl H 1 v l.length (l.map I64)) {i : Nat} (hi : i < l.length) {K : Value → Prop} (hK : ∀ p : Addr, p.block < H.next → ldcB (H.get p.block) p.off 1 = some [.int .i64 l[i]] → K (.pointer (some p))) : (@idxSP v 1 (i : Int) ⟨K⟩) :=
  h.at_ hi fun p h1 h2 => hK p h1 (by rw [h2, Nat.mul_one, take_one (by simpa using hi)]; simp [I64])
def firstL : List Int → Int
  | [] => 0
  | x :: r => if x = 0 then firstL r else x
theorem w64 {x : Int} (h1 : -9223372036854775808 ≤ x) (h2 : x ≤ 9223372036854775807) : IntKind.wrap .i64 x = x := by
  rw [IntKind.wrap_i64]
  omega
/-! ### Tables -/
def lookT (l : List (Nat × Ent)) : Tbl := fun n => l.lookup n
theorem lookup_mem {l : List (Nat × Ent)} {n : Nat} {e : Ent} (h : l.lookup n = some e) : (n, e) ∈ l := by
  induction l with
  | nil => simp at h
  | cons p l ih =>
    obtain ⟨m, x⟩ := p
    rw [List.lookup_cons] at h
    split at h
    · rename_i hb
      have : n = m := by simpa using hb
      subst this
      simp only [Option.some.injEq] at h
      subst h
      simp
    · exact List.mem_cons_of_mem _ (ih h)
theorem lookT_mono {l : List (Nat × Ent)} (h : ∀ p ∈ l, ∀ g, p.2 = .nat g → NatMono g) : TMono (lookT l) := ⟨fun n g hg => h _ (lookup_mem hg) g rfl⟩
end
end Go.Proofs.Ytidpkoaomfbljaa.AM
