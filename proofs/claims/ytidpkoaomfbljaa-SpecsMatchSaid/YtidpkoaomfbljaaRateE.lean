import Derived.Test.YtidpkoaomfbljaaRateD
namespace Go.Proofs.Ytidpkoaomfbljaa.AM
open Go
set_option linter.all false
variable {tbl : Tbl} [hT : TMono tbl]

def sumR (l : List (Int × Int)) (a : Int) : Nat → Int
  | 0 => 0
  | n + 1 => sumR l a n + rate l (a + n)
def negAt (l : List (Int × Int)) (a : Int) : Nat → Bool
  | 0 => false
  | n + 1 => negAt l a n || decide (rate l (a + n) < 0)
theorem negAt_of {l : List (Int × Int)} {a : Int} {k : Nat} (h : rate l (a + k) < 0) : ∀ n, k < n → negAt l a n = true := by
  intro n
  induction n with
  | zero => intro h; omega
  | succ n ih =>
    intro hk
    simp only [negAt, Bool.or_eq_true, decide_eq_true_eq]
    by_cases e : k = n
    · subst e; exact .inr h
    · exact .inl (ih (by omega))
theorem seg {l : List (Int × Int)} {a r : Int} {k : Nat} : ∀ j : Nat, (∀ i : Nat, i < j → rate l (a + k + i) = r) → sumR l a (k + j) = sumR l a k + r * j ∧ (0 ≤ r → negAt l a (k + j) = negAt l a k) := by
  intro j
  induction j with
  | zero => intro _; exact ⟨by simp, fun _ => rfl⟩
  | succ j ih =>
    intro h
    obtain ⟨h1, h2⟩ := ih fun i hi => h i (by omega)
    have h3 := h j (by omega)
    have e : a + ((k + j : Nat) : Int) = a + k + j := by omega
    refine ⟨?_, fun hr => ?_⟩
    · rw [← Nat.add_assoc]
      simp only [sumR]
      rw [h1, e, h3]
      have : r * ((j + 1 : Nat) : Int) = r * j + r := by rw [Int.natCast_add, Int.mul_add]; simp
      omega
    · rw [← Nat.add_assoc]
      simp only [negAt]
      rw [h2 hr, e, h3, decide_eq_false (by omega), Bool.or_false]
theorem sum_range {l : List (Int × Int)} (hl : Right l) {a : Int} : ∀ n : Nat, negAt l a n = false → 0 ≤ sumR l a n ∧ sumR l a n ≤ 1000000000 * n := by
  intro n
  induction n with
  | zero => intro _; simp [sumR]
  | succ n ih =>
    intro h
    simp only [negAt, Bool.or_eq_false_iff, decide_eq_false_iff_not] at h
    have := ih h.1
    have := rate_range hl (a + n)
    simp only [sumR]
    omega
def allowedV (l : List (Int × Int)) (burst a : Int) (n : Nat) : Int := if negAt l a (n + 1) = true then -1 else burst + sumR l a n / 1000
theorem v27 (h53 : tbl 53 = some (.code m53)) (h27 : tbl 27 = some (.code m27)) {H : AH} {v : Value} {l : List (Int × Int)} (hs : Sl H 2 v l.length (cells2 l)) (hl : Right l) (burst a b : Int) (hb : 1 ≤ burst ∧ burst ≤ 1000000000) (ha : 0 ≤ a) (hab : a ≤ b) (hd : b - a ≤ 300000) (hm : b ≤ 1099511627776) :
    Val tbl 27 [v, .int .i64 burst, .int .i64 a, .int .i64 b] H (.int .i64 (allowedV l burst a (b - a).toNat)) H := by
  refine Val.of_all fun Q hQ => ?_
  rw [rn_fun h27, k27]
  simp only [go_sem, Nat.reduceEqDiff, Nat.reduceAdd, Nat.reduceLeDiff, Int.reduceEq, Int.reduceLT, Int.reduceLE, Int.reduceAdd, Int.reduceSub, Int.reduceMul, Int.reduceNeg, Int.reduceToNat, Nat.reduceMul]
  refine rn_loop (fun m f H' => H' = H.enter ∧ ∃ (i : Nat), (i : Int) ≤ b - a + 1 ∧ m = (b - a + 1).toNat - i ∧ f 0 = v ∧ f 1 = .int .i64 burst ∧ f 3 = .int .i64 b ∧ f 9 = .int .i64 (sumR l a (if (i : Int) ≤ b - a then i else (b - a).toNat)) ∧ f 10 = .int .i64 (a + i) ∧ negAt l a i = false) ?_ (n := (b - a + 1).toNat)
    ⟨rfl, 0, by omega, by omega, by simp only [go_sem, Nat.reduceEqDiff, Nat.reduceAdd, Nat.reduceLeDiff, Int.reduceEq, Int.reduceLT, Int.reduceLE, Int.reduceAdd, Int.reduceSub, Int.reduceMul, Int.reduceNeg, Int.reduceToNat, Nat.reduceMul], by simp only [go_sem, Nat.reduceEqDiff, Nat.reduceAdd, Nat.reduceLeDiff, Int.reduceEq, Int.reduceLT, Int.reduceLE, Int.reduceAdd, Int.reduceSub, Int.reduceMul, Int.reduceNeg, Int.reduceToNat, Nat.reduceMul], by simp only [go_sem, Nat.reduceEqDiff, Nat.reduceAdd, Nat.reduceLeDiff, Int.reduceEq, Int.reduceLT, Int.reduceLE, Int.reduceAdd, Int.reduceSub, Int.reduceMul, Int.reduceNeg, Int.reduceToNat, Nat.reduceMul], by simp only [go_sem, Nat.reduceEqDiff, Nat.reduceAdd, Nat.reduceLeDiff, Int.reduceEq, Int.reduceLT, Int.reduceLE, Int.reduceAdd, Int.reduceSub, Int.reduceMul, Int.reduceNeg, Int.reduceToNat, Nat.reduceMul] <;> (rw [if_pos (by omega)]; rfl), by simp only [go_sem, Nat.reduceEqDiff, Nat.reduceAdd, Nat.reduceLeDiff, Int.reduceEq, Int.reduceLT, Int.reduceLE, Int.reduceAdd, Int.reduceSub, Int.reduceMul, Int.reduceNeg, Int.reduceToNat, Nat.reduceMul] <;> simp, rfl⟩
  rintro m f H' ⟨rfl, i, hi, rfl, f0, f1, f3, f9, f10, hneg⟩
  have hs' : Sl H.enter 2 v l.length (cells2 l) := hs
  simp only [f0, f1, f3, f9, f10, go_sem, Nat.reduceEqDiff, Nat.reduceAdd, Nat.reduceLeDiff, Int.reduceEq, Int.reduceLT, Int.reduceLE, Int.reduceAdd, Int.reduceSub, Int.reduceMul, Int.reduceNeg, Int.reduceToNat, Nat.reduceMul]
  refine iteP_intro ?_ ?_ <;> intro hlt
  · have hib : (i : Int) ≤ b - a := by omega
    rw [if_pos hib] at f9
    have hrr := rate_range hl (a + i)
    have hsr := sum_range hl (a := a) i hneg
    have w1 := w64 (x := a + i + 1) (by omega) (by omega)
    have w2 := w64 (x := sumR l a i + rate l (a + i)) (by omega) (by omega)
    have hrd : rAtL (secOf (a + i)) l 0 = rate l (a + i) := rfl
    by_cases hn : rate l (a + i) < 0
    · simp only [f0, f1, f3, f9, f10, ↓(v53 h53 hs' hl.len (a + i) (by omega)).run, hrd, hn, go_sem, Nat.reduceEqDiff, Nat.reduceAdd, Nat.reduceLeDiff, Int.reduceEq, Int.reduceLT, Int.reduceLE, Int.reduceAdd, Int.reduceSub, Int.reduceMul, Int.reduceNeg, Int.reduceToNat, Nat.reduceMul]
      rw [allowedV, if_pos (negAt_of hn _ (by omega))] at hQ
      exact hQ
    · have hneg' : negAt l a (i + 1) = false := by simp only [negAt, hneg, Bool.false_or, decide_eq_false hn]
      by_cases hlast : a + i < b
      · simp only [f0, f1, f3, f9, f10, ↓(v53 h53 hs' hl.len (a + i) (by omega)).run, hrd, hn, hlast, w1, w2, go_sem, Nat.reduceEqDiff, Nat.reduceAdd, Nat.reduceLeDiff, Int.reduceEq, Int.reduceLT, Int.reduceLE, Int.reduceAdd, Int.reduceSub, Int.reduceMul, Int.reduceNeg, Int.reduceToNat, Nat.reduceMul]
        exact ⟨(b - a + 1).toNat - (i + 1), by omega, rfl, i + 1, by omega, rfl, by simp only [f0, go_sem, Nat.reduceEqDiff, Nat.reduceAdd, Nat.reduceLeDiff, Int.reduceEq, Int.reduceLT, Int.reduceLE, Int.reduceAdd, Int.reduceSub, Int.reduceMul, Int.reduceNeg, Int.reduceToNat, Nat.reduceMul], by simp only [f1, go_sem, Nat.reduceEqDiff, Nat.reduceAdd, Nat.reduceLeDiff, Int.reduceEq, Int.reduceLT, Int.reduceLE, Int.reduceAdd, Int.reduceSub, Int.reduceMul, Int.reduceNeg, Int.reduceToNat, Nat.reduceMul], by simp only [f3, go_sem, Nat.reduceEqDiff, Nat.reduceAdd, Nat.reduceLeDiff, Int.reduceEq, Int.reduceLT, Int.reduceLE, Int.reduceAdd, Int.reduceSub, Int.reduceMul, Int.reduceNeg, Int.reduceToNat, Nat.reduceMul], by simp only [go_sem, Nat.reduceEqDiff, Nat.reduceAdd, Nat.reduceLeDiff, Int.reduceEq, Int.reduceLT, Int.reduceLE, Int.reduceAdd, Int.reduceSub, Int.reduceMul, Int.reduceNeg, Int.reduceToNat, Nat.reduceMul] <;> (rw [if_pos (by omega)]; rfl), by simp only [go_sem, Nat.reduceEqDiff, Nat.reduceAdd, Nat.reduceLeDiff, Int.reduceEq, Int.reduceLT, Int.reduceLE, Int.reduceAdd, Int.reduceSub, Int.reduceMul, Int.reduceNeg, Int.reduceToNat, Nat.reduceMul] <;> (congr 1; omega), hneg'⟩
      · simp only [f0, f1, f3, f9, f10, ↓(v53 h53 hs' hl.len (a + i) (by omega)).run, hrd, hn, hlast, w1, w2, go_sem, Nat.reduceEqDiff, Nat.reduceAdd, Nat.reduceLeDiff, Int.reduceEq, Int.reduceLT, Int.reduceLE, Int.reduceAdd, Int.reduceSub, Int.reduceMul, Int.reduceNeg, Int.reduceToNat, Nat.reduceMul]
        exact ⟨(b - a + 1).toNat - (i + 1), by omega, rfl, i + 1, by omega, rfl, by simp only [f0, go_sem, Nat.reduceEqDiff, Nat.reduceAdd, Nat.reduceLeDiff, Int.reduceEq, Int.reduceLT, Int.reduceLE, Int.reduceAdd, Int.reduceSub, Int.reduceMul, Int.reduceNeg, Int.reduceToNat, Nat.reduceMul], by simp only [f1, go_sem, Nat.reduceEqDiff, Nat.reduceAdd, Nat.reduceLeDiff, Int.reduceEq, Int.reduceLT, Int.reduceLE, Int.reduceAdd, Int.reduceSub, Int.reduceMul, Int.reduceNeg, Int.reduceToNat, Nat.reduceMul], by simp only [f3, go_sem, Nat.reduceEqDiff, Nat.reduceAdd, Nat.reduceLeDiff, Int.reduceEq, Int.reduceLT, Int.reduceLE, Int.reduceAdd, Int.reduceSub, Int.reduceMul, Int.reduceNeg, Int.reduceToNat, Nat.reduceMul], by simp only [f9, go_sem, Nat.reduceEqDiff, Nat.reduceAdd, Nat.reduceLeDiff, Int.reduceEq, Int.reduceLT, Int.reduceLE, Int.reduceAdd, Int.reduceSub, Int.reduceMul, Int.reduceNeg, Int.reduceToNat, Nat.reduceMul] <;> (rw [if_neg (by omega)]; congr 2; omega), by simp only [go_sem, Nat.reduceEqDiff, Nat.reduceAdd, Nat.reduceLeDiff, Int.reduceEq, Int.reduceLT, Int.reduceLE, Int.reduceAdd, Int.reduceSub, Int.reduceMul, Int.reduceNeg, Int.reduceToNat, Nat.reduceMul] <;> (congr 1; omega), hneg'⟩
  · have hi2 : (i : Int) = b - a + 1 := by omega
    rw [if_neg (by omega)] at f9
    have e1 : (b - a).toNat + 1 = i := by omega
    rw [allowedV, e1, hneg, if_neg (by simp)] at hQ
    have hneg2 : negAt l a (b - a).toNat = false := by
      rw [← e1] at hneg
      simp only [negAt, Bool.or_eq_false_iff] at hneg
      exact hneg.1
    have hsr := sum_range hl (a := a) (b - a).toNat hneg2
    have t1 : (sumR l a (b - a).toNat).tdiv 1000 = sumR l a (b - a).toNat / 1000 := Int.tdiv_eq_ediv_of_nonneg hsr.1
    have w3 := w64 (x := sumR l a (b - a).toNat / 1000) (by omega) (by omega)
    have w4 := w64 (x := burst + sumR l a (b - a).toNat / 1000) (by omega) (by omega)
    simp only [f0, f1, f3, f9, f10, t1, w3, w4, go_sem, Nat.reduceEqDiff, Nat.reduceAdd, Nat.reduceLeDiff, Int.reduceEq, Int.reduceLT, Int.reduceLE, Int.reduceAdd, Int.reduceSub, Int.reduceMul, Int.reduceNeg, Int.reduceToNat, Nat.reduceMul]
    exact hQ
end Go.Proofs.Ytidpkoaomfbljaa.AM
