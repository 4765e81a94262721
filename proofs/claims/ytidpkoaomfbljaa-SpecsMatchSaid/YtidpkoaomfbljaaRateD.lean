import Derived.Test.YtidpkoaomfbljaaRateC
namespace Go.Proofs.Ytidpkoaomfbljaa.AM
open Go
set_option linter.all false

theorem rAtL_snoc (sec : Int) (p : Int × Int) : ∀ (l : List (Int × Int)) (acc : Int), rAtL sec (l ++ [p]) acc = if p.1 ≤ sec then p.2 else rAtL sec l acc := by
  intro l
  induction l with
  | nil => intro acc; rfl
  | cons q l ih => intro acc; simp only [List.cons_append, rAtL, ih]
theorem rAtL_cong {s s' : Int} : ∀ (l : List (Int × Int)) (acc : Int), (∀ p ∈ l, p.1 ≤ s ↔ p.1 ≤ s') → rAtL s l acc = rAtL s' l acc := by
  intro l
  induction l with
  | nil => intro acc _; rfl
  | cons q l ih =>
    intro acc h
    have h1 := h q (by simp)
    simp only [rAtL]
    rw [ih _ fun p hp => h p (by simp [hp])]
    by_cases hq : q.1 ≤ s
    · rw [if_pos hq, if_pos (h1.1 hq)]
    · rw [if_neg hq, if_neg fun h => hq (h1.2 h)]
theorem rEnd_spec (sec day : Int) : ∀ (n : Nat) (l : List (Int × Int)), l.length = n → l.Pairwise (fun p q => p.1 < q.1) → ∀ e : Int, (∀ p ∈ l, day + p.1 * 1000 ≤ e) → day + (sec + 1) * 1000 ≤ e →
    (rEnd sec day l.reverse e).1 = rAtL sec l 0 ∧ (rEnd sec day l.reverse e).2 ≤ e ∧ day + (sec + 1) * 1000 ≤ (rEnd sec day l.reverse e).2 ∧ ∀ p ∈ l, p.1 ≤ sec ∨ (rEnd sec day l.reverse e).2 ≤ day + p.1 * 1000 := by
  intro n
  induction n with
  | zero =>
    intro l hl _ e _ h2
    obtain rfl := List.eq_nil_of_length_eq_zero hl
    exact ⟨rfl, Int.le_refl _, h2, by simp⟩
  | succ n ih =>
    intro l hl hp e h1 h2
    obtain ⟨l', p, rfl⟩ : ∃ l' p, l = l' ++ [p] := by
      have hne : l ≠ [] := fun h => by rw [h] at hl; simp at hl
      exact ⟨l.dropLast, l.getLast hne, (List.dropLast_concat_getLast hne).symm⟩
    rw [List.pairwise_append] at hp
    obtain ⟨hp1, _, hp3⟩ := hp
    have hlt : ∀ q ∈ l', q.1 < p.1 := fun q hq => hp3 q hq p (by simp)
    rw [List.reverse_append]
    simp only [List.reverse_singleton, List.singleton_append, rEnd]
    rw [rAtL_snoc]
    by_cases hs : p.1 ≤ sec
    · simp only [if_pos hs]
      refine ⟨trivial, Int.le_refl _, h2, fun q hq => ?_⟩
      rcases List.mem_append.1 hq with hq | hq
      · have := hlt q hq; exact .inl (by omega)
      · simp only [List.mem_singleton] at hq; subst hq; exact .inl hs
    · simp only [if_neg hs]
      obtain ⟨k1, k2, k3, k4⟩ := ih l' (by simpa using hl) hp1 (day + p.1 * 1000) (fun q hq => by have := hlt q hq; omega) (by omega)
      refine ⟨k1, ?_, k3, fun q hq => ?_⟩
      · have := h1 p (by simp)
        omega
      · rcases List.mem_append.1 hq with hq | hq
        · exact k4 q hq
        · simp only [List.mem_singleton] at hq; subst hq; exact .inr k2
/-- Rates that are right. -/
structure Right (l : List (Int × Int)) : Prop where
  len : l.length ≤ 24
  sorted : l.Pairwise fun p q => p.1 < q.1
  from_ : ∀ p ∈ l, 0 ≤ p.1 ∧ p.1 ≤ 86399
  bytes : ∀ p ∈ l, -1 ≤ p.2 ∧ p.2 ≤ 1000000000
theorem rLoop_right : ∀ (l : List (Int × Int)) (pv : Option Int), rLoop pv l = 0 → l.Pairwise (fun p q => p.1 < q.1) ∧ (∀ p ∈ l, 0 ≤ p.1 ∧ p.1 ≤ 86399) ∧ (∀ p ∈ l, -1 ≤ p.2 ∧ p.2 ≤ 1000000000) ∧ ∀ q, pv = some q → ∀ p ∈ l, q < p.1 := by
  intro l
  induction l with
  | nil => intro pv _; exact ⟨.nil, by simp, by simp, by simp⟩
  | cons p l ih =>
    intro pv h
    have key : ¬ rBad p.1 p.2 ∧ rLoop (some p.1) l = 0 ∧ ∀ q, pv = some q → q < p.1 := by
      cases pv with
      | none =>
        simp only [rLoop] at h
        split at h
        · omega
        · split at h
          · omega
          · rename_i hb _; exact ⟨hb, h, by simp⟩
      | some q =>
        simp only [rLoop] at h
        split at h
        · omega
        · split at h
          · omega
          · rename_i hb hq; exact ⟨hb, h, fun q' e => by simp only [Option.some.injEq] at e; omega⟩
    obtain ⟨hb, h2, h3⟩ := key
    obtain ⟨k1, k2, k3, k4⟩ := ih _ h2
    have k5 := k4 p.1 rfl
    unfold rBad at hb
    refine ⟨.cons k5 k1, ?_, ?_, fun q e => ?_⟩
    · intro x hx
      rcases List.mem_cons.1 hx with rfl | hx
      · omega
      · exact k2 x hx
    · intro x hx
      rcases List.mem_cons.1 hx with rfl | hx
      · omega
      · exact k3 x hx
    · intro x hx
      have := h3 q e
      rcases List.mem_cons.1 hx with rfl | hx
      · exact this
      · have := k5 x hx; omega
theorem right_of {l : List (Int × Int)} (h : ratesErr l = 0) : Right l := by
  unfold ratesErr at h
  split at h
  · omega
  · split at h
    · omega
    · obtain ⟨k1, k2, k3, _⟩ := rLoop_right l none h
      exact ⟨by omega, k1, k2, k3⟩
def rate (l : List (Int × Int)) (t : Int) : Int := rAtL (secOf t) l 0
theorem rate_range {l : List (Int × Int)} (h : Right l) (t : Int) : -1 ≤ rate l t ∧ rate l t ≤ 1000000000 := by
  have key : ∀ (r : List (Int × Int)) (acc : Int), (∀ p ∈ r, -1 ≤ p.2 ∧ p.2 ≤ 1000000000) → (-1 ≤ acc ∧ acc ≤ 1000000000) → -1 ≤ rAtL (secOf t) r acc ∧ rAtL (secOf t) r acc ≤ 1000000000 := by
    intro r
    induction r with
    | nil => intro acc _ h; exact h
    | cons p r ih =>
      intro acc h1 h2
      simp only [rAtL]
      refine ih _ (fun q hq => h1 q (by simp [hq])) ?_
      split
      · exact h1 p (by simp)
      · exact h2
  exact key l 0 h.bytes (by omega)
/-- What rateAt tells: the rate, and how long it stays. -/
theorem rEnd_law {l : List (Int × Int)} (h : Right l) {t : Int} (ht : 0 ≤ t) : ∃ e, rEnd (secOf t) (dayOf t) l.reverse (dayOf t + 86400000) = (rate l t, e) ∧ t < e ∧ e ≤ dayOf t + 86400000 ∧ ∀ t', t ≤ t' → t' < e → rate l t' = rate l t := by
  obtain ⟨k1, k2, k3, k4⟩ := rEnd_spec (secOf t) (dayOf t) _ l rfl h.sorted (dayOf t + 86400000) (fun p hp => by have := h.from_ p hp; omega) (by unfold secOf; omega)
  obtain ⟨r, e, hre⟩ : ∃ r e, rEnd (secOf t) (dayOf t) l.reverse (dayOf t + 86400000) = (r, e) := ⟨_, _, rfl⟩
  rw [hre] at k1 k2 k3 k4 ⊢
  simp only at k1 k2 k3 k4
  have hsec : secOf t * 1000 ≤ t - dayOf t ∧ t - dayOf t < (secOf t + 1) * 1000 := by unfold secOf dayOf; omega
  have hday : dayOf t ≤ t ∧ t < dayOf t + 86400000 := by unfold dayOf; omega
  refine ⟨e, by rw [k1]; rfl, by omega, k2, fun t' h1 h2 => ?_⟩
  have hd : dayOf t' = dayOf t := by unfold dayOf at *; omega
  have hsec' : secOf t' * 1000 ≤ t' - dayOf t' ∧ t' - dayOf t' < (secOf t' + 1) * 1000 := by unfold secOf dayOf; omega
  refine rAtL_cong l 0 fun p hp => ?_
  rcases k4 p hp with hs | hs <;> constructor <;> intro h5 <;> omega
end Go.Proofs.Ytidpkoaomfbljaa.AM
