import Derived.Test.YtidpkoaomfbljaaBuckF
namespace Go.Proofs.Ytidpkoaomfbljaa.AM
open Go
set_option linter.all false
variable {tbl : Tbl} [hT : TMono tbl]

/-! ### The plain law: no window of grants has more than is allowed -/
def gT (gs : List (Int × Int)) (i : Nat) : Int := (gs.getD i (0, 0)).1
def gS (gs : List (Int × Int)) (i : Nat) : Int := (gs.getD i (0, 0)).2
def sumS (gs : List (Int × Int)) (i : Nat) : Nat → Int
  | 0 => 0
  | m + 1 => sumS gs i m + gS gs (i + m)
theorem getD_app {gs : List (Int × Int)} {x : Int × Int} {i : Nat} (h : i < gs.length) : (gs ++ [x]).getD i (0, 0) = gs.getD i (0, 0) := by
  simp [List.getElem?_append_left h]
theorem getD_last {gs : List (Int × Int)} {x : Int × Int} : (gs ++ [x]).getD gs.length (0, 0) = x := by simp
theorem sumS_app {gs : List (Int × Int)} {x : Int × Int} {i : Nat} : ∀ m, i + m ≤ gs.length → sumS (gs ++ [x]) i m = sumS gs i m := by
  intro m
  induction m with
  | zero => intro _; rfl
  | succ m ih =>
    intro h
    simp only [sumS, gS]
    rw [ih (by omega), getD_app (by omega)]
theorem sumR_add (l : List (Int × Int)) (a : Int) (n : Nat) : ∀ m : Nat, sumR l a (n + m) = sumR l a n + sumR l (a + n) m := by
  intro m
  induction m with
  | zero => simp [sumR]
  | succ m ih =>
    rw [← Nat.add_assoc]
    simp only [sumR]
    rw [ih, show a + ((n + m : Nat) : Int) = a + n + m by omega]
    omega
theorem negAt_split {l : List (Int × Int)} {a : Int} {n m : Nat} (h : negAt l a (n + m) = false) : negAt l a n = false ∧ negAt l (a + n) m = false := by
  induction m with
  | zero => exact ⟨h, rfl⟩
  | succ m ih =>
    rw [← Nat.add_assoc] at h
    simp only [negAt, Bool.or_eq_false_iff] at h
    obtain ⟨h1, h2⟩ := ih h.1
    refine ⟨h1, ?_⟩
    simp only [negAt, Bool.or_eq_false_iff]
    refine ⟨h2, ?_⟩
    rw [show a + (n : Int) + (m : Int) = a + ((n + m : Nat) : Int) by omega]
    exact h.2
theorem negAt_less {l : List (Int × Int)} {a : Int} {n m : Nat} (h : negAt l a m = false) (hn : n ≤ m) : negAt l a n = false := by
  obtain ⟨k, rfl⟩ : ∃ k, m = n + k := ⟨m - n, by omega⟩
  exact (negAt_split h).1
theorem negAt_at {l : List (Int × Int)} {a : Int} {n : Nat} (h : negAt l a (n + 1) = false) : 0 ≤ rate l (a + n) := by
  simp only [negAt, Bool.or_eq_false_iff, decide_eq_false_iff_not] at h
  omega
theorem passB_le {l : List (Int × Int)} {most : Int} : ∀ (n : Nat) (t lv : Int), negAt l t n = false → passB l most n t lv ≤ lv + sumR l t n := by
  intro n
  induction n with
  | zero => intro t lv _; simp [passB, sumR]
  | succ n ih =>
    intro t lv h
    rw [Nat.add_comm] at h
    obtain ⟨h1, h2⟩ := negAt_split h
    have h0 := negAt_at h1
    simp only [Int.natCast_zero, Int.add_zero] at h0
    simp only [passB]
    have e := sumR_add l t 1 n
    have e1 : sumR l t 1 = rate l t := by simp [sumR]
    rw [Nat.add_comm 1 n, e1] at e
    rw [e]
    have := ih (t + 1) (stepB most (rate l t) lv) h2
    have hst : stepB most (rate l t) lv ≤ lv + rate l t := by
      unfold stepB
      rw [if_neg (by omega)]
      split <;> omega
    have e3 : t + ((1 : Nat) : Int) = t + 1 := rfl
    rw [e3]
    omega
structure Good (l : List (Int × Int)) (burst : Int) (gs : List (Int × Int)) (last lv : Int) : Prop where
  mono : ∀ i, i + 1 < gs.length → gT gs i ≤ gT gs (i + 1)
  range : ∀ i, i < gs.length → 0 ≤ gT gs i ∧ gT gs i ≤ last ∧ 0 ≤ gS gs i ∧ gS gs i ≤ burst
  bound : ∀ i k, i ≤ k → k < gs.length → negAt l (gT gs i) ((gT gs k - gT gs i).toNat + 1) = false → sumS gs i (k + 1 - i) * 1000 ≤ burst * 1000 + sumR l (gT gs i) (gT gs k - gT gs i).toNat
  cur : ∀ i, i < gs.length → negAt l (gT gs i) ((last - gT gs i).toNat + 1) = false → sumS gs i (gs.length - i) * 1000 + lv ≤ burst * 1000 + sumR l (gT gs i) (last - gT gs i).toNat
theorem Good.nil (l : List (Int × Int)) (burst lv : Int) : Good l burst [] 0 lv :=
  ⟨fun i h => by simp at h, fun i h => by simp at h, fun i k _ h => by simp at h, fun i h => by simp at h⟩
theorem Good.snoc {l : List (Int × Int)} (hl : Right l) {burst last lv g s : Int} {gs : List (Int × Int)} (h : Good l burst gs last lv) (hb : 1 ≤ burst) (hlast : 0 ≤ last) (hlv : 0 ≤ lv ∧ lv ≤ burst * 1000) (hg : last ≤ g) (hs : 0 ≤ s ∧ s ≤ burst) (hn : s * 1000 ≤ lvl l (burst * 1000) last lv g) :
    Good l burst (gs ++ [(g, s)]) g (takeLv l (burst * 1000) g (lvl l (burst * 1000) last lv g - s * 1000)) := by
  have hlr := lvl_range hl (most := burst * 1000) (t0 := last) (t := g) hlv
  have ht : ∀ i, i < gs.length → gT (gs ++ [(g, s)]) i = gT gs i := fun i hi => by unfold gT; rw [getD_app hi]
  have hS : ∀ i, i < gs.length → gS (gs ++ [(g, s)]) i = gS gs i := fun i hi => by unfold gS; rw [getD_app hi]
  have htl : gT (gs ++ [(g, s)]) gs.length = g := by unfold gT; rw [getD_last]
  have hSl : gS (gs ++ [(g, s)]) gs.length = s := by unfold gS; rw [getD_last]
  have hlen : (gs ++ [(g, s)]).length = gs.length + 1 := by simp
  have hcur : ∀ i, i < gs.length + 1 → negAt l (gT (gs ++ [(g, s)]) i) ((g - gT (gs ++ [(g, s)]) i).toNat + 1) = false → sumS (gs ++ [(g, s)]) i (gs.length + 1 - i) * 1000 + takeLv l (burst * 1000) g (lvl l (burst * 1000) last lv g - s * 1000) ≤ burst * 1000 + sumR l (gT (gs ++ [(g, s)]) i) (g - gT (gs ++ [(g, s)]) i).toNat := by
    intro i hi hneg
    by_cases hil : i = gs.length
    · subst hil
      rw [htl] at hneg ⊢
      rw [Int.sub_self] at hneg ⊢
      have hr := negAt_at (n := 0) hneg
      simp only [Int.natCast_zero, Int.add_zero] at hr
      rw [show gs.length + 1 - gs.length = 0 + 1 by omega]
      simp only [sumS, Nat.add_zero, hSl, Int.toNat_zero, sumR]
      rw [takeLv, if_neg (by omega)]
      omega
    · have hi' : i < gs.length := by omega
      obtain ⟨r1, r2, r3, r4⟩ := h.range i hi'
      rw [ht i hi'] at hneg ⊢
      have e1 : (g - gT gs i).toNat = (last - gT gs i).toNat + (g - last).toNat := by omega
      have e2 : gT gs i + (((last - gT gs i).toNat : Nat) : Int) = last := by omega
      have hn1 : negAt l (gT gs i) ((last - gT gs i).toNat + 1) = false := negAt_less hneg (by omega)
      have hn2 : negAt l last ((g - last).toNat + 1) = false := by
        rw [e1, Nat.add_assoc] at hneg
        have := (negAt_split hneg).2
        rw [e2] at this
        exact this
      have hr := negAt_at hn2
      rw [show last + (((g - last).toNat : Nat) : Int) = g by omega] at hr
      have hp := passB_le (most := burst * 1000) (g - last).toNat last lv (negAt_less hn2 (by omega))
      have hlvl : lvl l (burst * 1000) last lv g = passB l (burst * 1000) (g - last).toNat last lv := by
        unfold lvl holdB; rw [if_neg (by omega)]
      have hc := h.cur i hi' hn1
      rw [takeLv, if_neg (by omega), e1, sumR_add, e2, show gs.length + 1 - i = (gs.length - i) + 1 by omega]
      simp only [sumS]
      rw [sumS_app _ (by omega), show i + (gs.length - i) = gs.length by omega, hSl]
      omega
  refine ⟨fun i hi => ?_, fun i hi => ?_, fun i k hik hk hneg => ?_, fun i hi hneg => ?_⟩
  · rw [hlen] at hi
    rw [ht i (by omega)]
    by_cases hil : i + 1 = gs.length
    · rw [hil, htl]
      have := h.range i (by omega)
      omega
    · rw [ht _ (by omega)]
      exact h.mono i (by omega)
  · rw [hlen] at hi
    by_cases hil : i = gs.length
    · subst hil
      rw [htl, hSl]
      omega
    · rw [ht i (by omega), hS i (by omega)]
      have := h.range i (by omega)
      omega
  · rw [hlen] at hk
    by_cases hkl : k = gs.length
    · subst hkl
      rw [htl] at hneg ⊢
      have := hcur i (by omega) hneg
      have h2 : 0 ≤ takeLv l (burst * 1000) g (lvl l (burst * 1000) last lv g - s * 1000) := by
        unfold takeLv
        split <;> omega
      omega
    · rw [ht i (by omega), ht k (by omega)] at hneg ⊢
      rw [sumS_app _ (by omega)]
      exact h.bound i k hik (by omega) hneg
  · rw [hlen] at hi ⊢
    exact hcur i hi hneg
theorem Good.allowed {l : List (Int × Int)} {burst last lv : Int} {gs : List (Int × Int)} (h : Good l burst gs last lv) {i k : Nat} (hik : i ≤ k) (hk : k < gs.length) :
    allowedV l burst (gT gs i) (gT gs k - gT gs i).toNat = -1 ∨ sumS gs i (k + 1 - i) ≤ allowedV l burst (gT gs i) (gT gs k - gT gs i).toNat := by
  unfold allowedV
  cases hn : negAt l (gT gs i) ((gT gs k - gT gs i).toNat + 1) with
  | true => exact .inl (by simp)
  | false =>
    refine .inr ?_
    have := h.bound i k hik hk hn
    simp only [Bool.false_eq_true, if_false]
    omega
theorem Good.monoLe {l : List (Int × Int)} {burst last lv : Int} {gs : List (Int × Int)} (h : Good l burst gs last lv) {i : Nat} : ∀ k, i ≤ k → k < gs.length → gT gs i ≤ gT gs k := by
  intro k
  induction k with
  | zero => intro h1 _; rw [show i = 0 by omega]; exact Int.le_refl _
  | succ k ih =>
    intro h1 h2
    by_cases e : i = k + 1
    · rw [e]; exact Int.le_refl _
    · have := ih (by omega) (by omega)
      have := h.mono k h2
      omega
end Go.Proofs.Ytidpkoaomfbljaa.AM
