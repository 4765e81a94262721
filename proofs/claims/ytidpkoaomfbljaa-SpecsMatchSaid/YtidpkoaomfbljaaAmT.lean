/- Slices of one's own: appends, and what a call gives back. -/
import Derived.Test.YtidpkoaomfbljaaAmR
namespace Go.Proofs.Ytidpkoaomfbljaa.AM
open Go
set_option linter.all false

/-- A slice that nobody else has, full, in a block that is no older than base. -/
def Own (base : Nat) (H : AH) (es : Nat) (v : Value) (n : Nat) (l : List Value) : Prop :=
  (v = .slice none 0 0 ∧ n = 0 ∧ l = []) ∨ ∃ b, v = .slice (some ⟨b, 0, none⟩) n n ∧ H.get b = some ⟨l, es, false⟩ ∧ l.length = n * es ∧ base ≤ b ∧ 0 < n
theorem added_slc {H : AH} {es n c : Nat} {a : Addr} : added H es (.slice (some a) n c) = (ldc H a (n * es)).map fun l => (n, l) := by
  simp only [added]; cases ldc H a (n * es) <;> rfl
theorem ldc_all {H : AH} {b es n : Nat} {l : List Value} (h : H.get b = some ⟨l, es, false⟩) (hl : l.length = n * es) : ldc H ⟨b, 0, none⟩ (n * es) = some l := by
  rw [ldc_eq]
  simp only [h, ldcB_some]
  rw [if_pos (by simp [hl]), ← hl]
  simp
theorem Own.sl {base : Nat} {H : AH} {es n : Nat} {v : Value} {l : List Value} (h : Own base H es v n l) : Sl H es v n l := by
  rcases h with ⟨rfl, rfl, rfl⟩ | ⟨b, rfl, h1, h2, h3, h4⟩
  · exact .inl ⟨none, 0, rfl, rfl, rfl⟩
  · exact .inr ⟨_, _, rfl, ldc_all h1 h2⟩
theorem Own.append {base : Nat} {H : AH} {es bytes n k : Nat} {s : Value} {l new : List Value} (h : Own base H es s n l) (hb : base ≤ H.next) (hk : 0 < k) (hn : new.length = k * es) (hs : (n + k) * bytes ≤ 140737488355328) :
    ∃ s' H', appended H es bytes s k new = some (s', H') ∧ Own base H' es s' (n + k) (l ++ new) ∧ (∀ id, id < base → H'.get id = H.get id) ∧ H'.next = H.next + 1 ∧ (∀ m, m ≤ base → m ≤ H.low → m ≤ H'.low) := by
  rcases h with ⟨rfl, rfl, rfl⟩ | ⟨b, rfl, h1, h2, h3, h4⟩
  · refine ⟨.slice (some ⟨H.next, 0, none⟩) k k, H.push ⟨new, es, false⟩, ?_, .inr ⟨H.next, by simp, by simpa using AH.get_push_eq H _, by simpa using hn, hb, by omega⟩, fun id hid => AH.get_push_lt H _ (by omega), AH.next_push H _, fun m _ h => h⟩
    simp only [appended]
    rw [if_pos (by simp), if_neg (by omega), if_pos (by simpa using hs)]
  · refine ⟨.slice (some ⟨H.next, 0, none⟩) (n + k) (n + k), (H.set b none).push ⟨l ++ new, es, false⟩, ?_, .inr ⟨H.next, rfl, ?_, by rw [List.length_append, h2, hn, Nat.add_mul], hb, by omega⟩, fun id hid => ?_, ?_, fun m hm h => ?_⟩
    · simp only [appended, h1]
      rw [if_pos (by simp), if_neg (by omega), ldc_all h1 h2]
      simp only
      rw [if_pos hs]
    · rw [← AH.next_set H b none]; exact AH.get_push_eq _ _
    · rw [AH.get_push_lt _ _ (by rw [AH.next_set]; omega)]
      exact AH.get_set_ne H none (by omega)
    · rw [AH.next_push, AH.next_set]
    · show m ≤ min H.low b
      omega
/-- What a call hands back that made a slice. -/
def mkS (H : AH) (n : Nat) : Value := if n = 0 then .slice none 0 0 else .slice (some ⟨H.next, 0, none⟩) n n
def mkH (H : AH) (es n : Nat) (l : List Value) : AH := if n = 0 then H else H.push ⟨l, es, false⟩
theorem back_own {base : Nat} {H H1 : AH} {es n : Nat} {v : Value} {l : List Value} (h : Own base H1 es v n l) (hb : H.next ≤ base) (hl : H.next ≤ H1.low) (hp : l.all p1 = true) : back H H1 v = (mkS H n, mkH H es n l) := by
  rcases h with ⟨rfl, rfl, rfl⟩ | ⟨b, rfl, h1, h2, h3, h4⟩
  · exact back_p3 (by omega) rfl
  · unfold back
    rw [if_neg (by omega), if_neg (by simp [p3, p2, p1])]
    simp only [moveV, h1]
    rw [if_neg (by omega), if_pos hp]
    simp only [mkS, mkH, if_neg (show ¬ n = 0 by omega)]
    rfl
theorem back_own2 {base : Nat} {H H1 : AH} {es n : Nat} {v y : Value} {l : List Value} (h : Own base H1 es v n l) (hb : H.next ≤ base) (hl : H.next ≤ H1.low) (hp : l.all p1 = true) (hy : p2 y = true) : back H H1 (.tuple #[v, y]) = (.tuple #[mkS H n, y], mkH H es n l) := by
  rcases h with ⟨rfl, rfl, rfl⟩ | ⟨b, rfl, h1, h2, h3, h4⟩
  · exact back_p3 (by omega) (by simp [p3, hy]; rfl)
  · unfold back
    rw [if_neg (by omega), if_neg (by simp [p3, p2, p1])]
    simp only [moveV, h1]
    rw [if_neg (by omega), if_pos hp]
    simp only [hy, if_true, mkS, mkH, if_neg (show ¬ n = 0 by omega)]
    rfl
theorem own_mk {H : AH} {es n : Nat} {l : List Value} (hl : l.length = n * es) : Own H.next (mkH H es n l) es (mkS H n) n l := by
  unfold mkS mkH
  by_cases h : n = 0
  · subst h
    simp only [if_true]
    exact .inl ⟨rfl, rfl, List.eq_nil_of_length_eq_zero (by simpa using hl)⟩
  · simp only [if_neg h]
    exact .inr ⟨H.next, rfl, AH.get_push_eq H _, hl, Nat.le_refl _, by omega⟩
theorem mkH_next {H : AH} {es n : Nat} {l : List Value} : H.next ≤ (mkH H es n l).next := by
  unfold mkH; split
  · exact Nat.le_refl _
  · rw [AH.next_push]; omega
theorem mkH_low {H : AH} {es n : Nat} {l : List Value} : (mkH H es n l).low = H.low := by
  unfold mkH; split <;> rfl
theorem mkH_get {H : AH} {es n id : Nat} {l : List Value} (h : id < H.next) : (mkH H es n l).get id = H.get id := by
  unfold mkH; split
  · rfl
  · exact AH.get_push_lt H _ h
end Go.Proofs.Ytidpkoaomfbljaa.AM
