import Derived.Test.YtidpkoaomfbljaaBuckA
namespace Go.Proofs.Ytidpkoaomfbljaa.AM
open Go
set_option linter.all false

/-- What a millisecond does to a level. -/
def stepB (most r lv : Int) : Int := if r = -1 then most else if most < lv + r then most else lv + r
def passB (l : List (Int × Int)) (most : Int) : Nat → Int → Int → Int
  | 0, _, lv => lv
  | n + 1, t, lv => passB l most n (t + 1) (stepB most (rate l t) lv)
def holdB (l : List (Int × Int)) (most t lv : Int) : Int := if rate l t = -1 then most else lv
theorem passB_add (l : List (Int × Int)) (most : Int) : ∀ (n k : Nat) (t lv : Int), passB l most (n + k) t lv = passB l most k (t + n) (passB l most n t lv) := by
  intro n
  induction n with
  | zero => intro k t lv; simp [passB]
  | succ n ih =>
    intro k t lv
    rw [show n + 1 + k = (n + k) + 1 by omega]
    simp only [passB]
    rw [ih, show t + 1 + (n : Int) = t + ((n + 1 : Nat) : Int) by omega]
theorem passB_range {l : List (Int × Int)} (hl : Right l) {most : Int} : ∀ (n : Nat) (t lv : Int), (0 ≤ lv ∧ lv ≤ most) → 0 ≤ passB l most n t lv ∧ passB l most n t lv ≤ most := by
  intro n
  induction n with
  | zero => intro t lv h; exact h
  | succ n ih =>
    intro t lv h
    simp only [passB]
    refine ih _ _ ?_
    have := rate_range hl t
    unfold stepB
    split
    · omega
    · split <;> omega
/-- A stretch of time with one rate. -/
theorem passB_seg {l : List (Int × Int)} {most r : Int} (hr : 0 ≤ r) : ∀ (n : Nat) (t lv : Int), (∀ i : Nat, i < n → rate l (t + i) = r) → lv ≤ most → passB l most n t lv = if most < lv + r * n then most else lv + r * n := by
  intro n
  induction n with
  | zero => intro t lv _ h; simp only [passB, Int.natCast_zero, Int.mul_zero, Int.add_zero]; rw [if_neg (by omega)]
  | succ n ih =>
    intro t lv h1 h2
    have h0 := h1 0 (by omega)
    simp only [Int.natCast_zero, Int.add_zero] at h0
    have hm : r * ((n + 1 : Nat) : Int) = r * n + r := by rw [Int.natCast_add, Int.mul_add]; simp
    have hrn : 0 ≤ r * (n : Int) := Int.mul_nonneg hr (by omega)
    simp only [passB]
    have hst : stepB most r lv = if most < lv + r then most else lv + r := if_neg (by omega)
    rw [h0, hst, hm]
    by_cases hc : most < lv + r
    · rw [if_pos hc, ih (t + 1) _ (fun i hi => by have := h1 (i + 1) (by omega); rw [← this]; congr 1; omega) (by omega)]
      split <;> split <;> omega
    · rw [if_neg hc, ih (t + 1) _ (fun i hi => by have := h1 (i + 1) (by omega); rw [← this]; congr 1; omega) (by omega)]
      split <;> split <;> omega
theorem passB_full {l : List (Int × Int)} {most : Int} : ∀ (n : Nat) (t lv : Int), 0 < n → (∀ i : Nat, i < n → rate l (t + i) = -1) → passB l most n t lv = most := by
  intro n
  induction n with
  | zero => intro t lv h; omega
  | succ n ih =>
    intro t lv _ h1
    have h0 := h1 0 (by omega)
    simp only [Int.natCast_zero, Int.add_zero] at h0
    simp only [passB]
    rw [h0]
    cases n with
    | zero => simp [passB, stepB]
    | succ n => exact ih (t + 1) _ (by omega) fun i hi => by have := h1 (i + 1) (by omega); rw [← this]; congr 1; omega
end Go.Proofs.Ytidpkoaomfbljaa.AM
