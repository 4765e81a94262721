import Derived.Test.YtidpkoaomfbljaaRateG
import Derived.Test.YtidpkoaomfbljaaSpecT
namespace Go.Proofs.Ytidpkoaomfbljaa.AM
open Go
set_option linter.all false
variable {tbl : Tbl} [hT : TMono tbl]

theorem v57 (h57 : tbl 57 = some (.code m57)) (n lo hi : Int) (H : AH) : Val tbl 57 [.int .i64 n, .int .i64 lo, .int .i64 hi] H (.bool (decide (lo ≤ n ∧ n ≤ hi))) H := by
  refine Val.of_all fun Q hQ => ?_
  rw [rn_fun h57, k57]
  simp only [go_sem, Nat.reduceEqDiff, Nat.reduceAdd, Nat.reduceLeDiff, Int.reduceEq, Int.reduceLT, Int.reduceLE, Int.reduceAdd, Int.reduceSub, Int.reduceMul, Int.reduceNeg, Int.reduceToNat, Nat.reduceMul]
  iterate 6 (try (all_goals (try (refine iteP_intro ?_ ?_ <;> intro _ <;> simp only [*, go_sem, Nat.reduceEqDiff, Nat.reduceAdd, Nat.reduceLeDiff, Int.reduceEq, Int.reduceLT, Int.reduceLE, Int.reduceAdd, Int.reduceSub, Int.reduceMul, Int.reduceNeg, Int.reduceToNat, Nat.reduceMul]))))
  all_goals exact leaf hQ (by simp [*]) rfl
theorem v58 (h58 : tbl 58 = some (.code m58)) (n lo hi : Int) (H : AH) : Val tbl 58 [.int .i64 n, .int .i64 lo, .int .i64 hi] H (.bool (decide (lo ≤ n ∧ n ≤ hi))) H := by
  refine Val.of_all fun Q hQ => ?_
  rw [rn_fun h58, k58]
  simp only [go_sem, Nat.reduceEqDiff, Nat.reduceAdd, Nat.reduceLeDiff, Int.reduceEq, Int.reduceLT, Int.reduceLE, Int.reduceAdd, Int.reduceSub, Int.reduceMul, Int.reduceNeg, Int.reduceToNat, Nat.reduceMul]
  iterate 6 (try (all_goals (try (refine iteP_intro ?_ ?_ <;> intro _ <;> simp only [*, go_sem, Nat.reduceEqDiff, Nat.reduceAdd, Nat.reduceLeDiff, Int.reduceEq, Int.reduceLT, Int.reduceLE, Int.reduceAdd, Int.reduceSub, Int.reduceMul, Int.reduceNeg, Int.reduceToNat, Nat.reduceMul]))))
  all_goals exact leaf hQ (by simp [*]) rfl
/-- The error of a specification. -/
def specErr (c p pc sp la o se li a b f j e : Int) (l : List (Int × Int)) (bu : Int) : Int :=
  if ¬ ((1 ≤ c ∧ c ≤ 32) ∧ (0 ≤ p ∧ p ≤ 1048576) ∧ (1 ≤ pc ∧ pc ≤ 1000000) ∧ (0 ≤ sp ∧ sp ≤ 1000000000) ∧ (0 ≤ la ∧ la ≤ 60000)) then 7
  else if ¬ (1 ≤ o ∧ o ≤ 6) then 5
  else if ¬ ((0 ≤ se ∧ se ≤ 2147483647) ∧ (0 ≤ li ∧ li ≤ 1099511627776)) then 7
  else if ¬ okB a b f j e then 7
  else if ratesErr l ≠ 0 then ratesErr l
  else if ¬ (1 ≤ bu ∧ bu ≤ 1000000000) then 7
  else if bu < pc then 13 else 0
def specV (c p pc sp la o se li a b f j e : Int) (v : Value) (bu : Int) : Value := .agg #[.int .i64 c, .int .i64 p, .int .i64 pc, .int .i64 sp, .int .i64 la, .int .i64 o, .int .i64 se, .int .i64 li, .int .i64 a, .int .i64 b, .int .i64 f, .int .i64 j, .int .i64 e, v, .int .i64 bu]
section
variable (h47 : tbl 47 = some (.code m47)) (h11 : tbl 11 = some (.code m11)) (h48 : tbl 48 = some (.code m48)) (h24 : tbl 24 = some (.code m24)) (h51 : tbl 51 = some (.code m51)) (h57 : tbl 57 = some (.code m57)) (h34 : tbl 34 = some (.code m34))
include h47 h11 h48 h24 h51 h57 h34
theorem v34 {H : AH} (c p pc sp la o se li a b f j e : Int) {v : Value} {l : List (Int × Int)} (hs : Sl H 2 v l.length (cells2 l)) (bu : Int) :
    Val tbl 34 [specV c p pc sp la o se li a b f j e v bu] H (.int .i64 (specErr c p pc sp la o se li a b f j e l bu)) H := by
  refine Val.of_all fun Q hQ => ?_
  obtain ⟨va, vc, hv⟩ := hs.shape
  have hs' : ∀ B, Sl (H.enter.push B) 2 v l.length (cells2 l) := fun B => hs.keep fun id hid => AH.get_push_lt _ _ hid
  have hv51 := fun B => v51 h24 h51 (hs' B) bu
  rw [hv] at hv51 ⊢
  rw [rn_fun h34, k34]
  by_cases c1 : (1 ≤ c ∧ c ≤ 32) ∧ (0 ≤ p ∧ p ≤ 1048576) ∧ (1 ≤ pc ∧ pc ≤ 1000000) ∧ (0 ≤ sp ∧ sp ≤ 1000000000) ∧ (0 ≤ la ∧ la ≤ 60000)
  · rw [specErr, if_neg (by simp only [c1, and_self, not_true_eq_false, not_false_eq_true])] at hQ
    obtain ⟨d1, d2, d3, d4, d5⟩ := c1
    by_cases c2 : 1 ≤ o ∧ o ≤ 6
    · rw [if_neg (not_not_intro c2)] at hQ
      by_cases c3 : (0 ≤ se ∧ se ≤ 2147483647) ∧ (0 ≤ li ∧ li ≤ 1099511627776)
      · rw [if_neg (not_not_intro c3)] at hQ
        obtain ⟨d6, d7⟩ := c3
        by_cases c4 : okB a b f j e
        · rw [if_neg (not_not_intro c4)] at hQ
          by_cases c5 : ratesErr l = 0
          · rw [if_neg (by omega)] at hQ hv51
            by_cases c6 : 1 ≤ bu ∧ bu ≤ 1000000000
            · rw [if_neg (not_not_intro c6)] at hQ
              rw [if_pos c6] at hv51
              by_cases c7 : bu < pc
              · rw [if_pos c7] at hQ
                simp only [specV, ↓(v57 h57 _ _ _ _).run, ↓(v48 h48 _ _).run, ↓(v11' h47 h11 _ _ _ _ _ _).run, ↓(hv51 _).run, d1, d2, d3, d4, d5, c2, d6, d7, c4, c7, go_sem, Nat.reduceEqDiff, Nat.reduceAdd, Nat.reduceLeDiff, Int.reduceEq, Int.reduceLT, Int.reduceLE, Int.reduceAdd, Int.reduceSub, Int.reduceMul, Int.reduceNeg, Int.reduceToNat, Nat.reduceMul]
                exact hQ
              · rw [if_neg c7] at hQ
                simp only [specV, ↓(v57 h57 _ _ _ _).run, ↓(v48 h48 _ _).run, ↓(v11' h47 h11 _ _ _ _ _ _).run, ↓(hv51 _).run, d1, d2, d3, d4, d5, c2, d6, d7, c4, c7, go_sem, Nat.reduceEqDiff, Nat.reduceAdd, Nat.reduceLeDiff, Int.reduceEq, Int.reduceLT, Int.reduceLE, Int.reduceAdd, Int.reduceSub, Int.reduceMul, Int.reduceNeg, Int.reduceToNat, Nat.reduceMul]
                exact hQ
            · rw [if_pos c6] at hQ
              rw [if_neg c6] at hv51
              simp only [specV, ↓(v57 h57 _ _ _ _).run, ↓(v48 h48 _ _).run, ↓(v11' h47 h11 _ _ _ _ _ _).run, ↓(hv51 _).run, d1, d2, d3, d4, d5, c2, d6, d7, c4, go_sem, Nat.reduceEqDiff, Nat.reduceAdd, Nat.reduceLeDiff, Int.reduceEq, Int.reduceLT, Int.reduceLE, Int.reduceAdd, Int.reduceSub, Int.reduceMul, Int.reduceNeg, Int.reduceToNat, Nat.reduceMul]
              exact hQ
          · rw [if_pos c5] at hQ hv51
            simp only [specV, ↓(v57 h57 _ _ _ _).run, ↓(v48 h48 _ _).run, ↓(v11' h47 h11 _ _ _ _ _ _).run, ↓(hv51 _).run, d1, d2, d3, d4, d5, c2, d6, d7, c4, c5, go_sem, Nat.reduceEqDiff, Nat.reduceAdd, Nat.reduceLeDiff, Int.reduceEq, Int.reduceLT, Int.reduceLE, Int.reduceAdd, Int.reduceSub, Int.reduceMul, Int.reduceNeg, Int.reduceToNat, Nat.reduceMul]
            exact hQ
        · rw [if_pos c4] at hQ
          simp only [specV, ↓(v57 h57 _ _ _ _).run, ↓(v48 h48 _ _).run, ↓(v11' h47 h11 _ _ _ _ _ _).run, d1, d2, d3, d4, d5, c2, d6, d7, c4, go_sem, Nat.reduceEqDiff, Nat.reduceAdd, Nat.reduceLeDiff, Int.reduceEq, Int.reduceLT, Int.reduceLE, Int.reduceAdd, Int.reduceSub, Int.reduceMul, Int.reduceNeg, Int.reduceToNat, Nat.reduceMul]
          exact hQ
      · rw [if_pos c3] at hQ
        by_cases d6 : 0 ≤ se ∧ se ≤ 2147483647
        · have d7 : ¬ (0 ≤ li ∧ li ≤ 1099511627776) := fun h => c3 ⟨d6, h⟩
          simp only [specV, ↓(v57 h57 _ _ _ _).run, ↓(v48 h48 _ _).run, d1, d2, d3, d4, d5, c2, d6, d7, go_sem, Nat.reduceEqDiff, Nat.reduceAdd, Nat.reduceLeDiff, Int.reduceEq, Int.reduceLT, Int.reduceLE, Int.reduceAdd, Int.reduceSub, Int.reduceMul, Int.reduceNeg, Int.reduceToNat, Nat.reduceMul]
          exact hQ
        · simp only [specV, ↓(v57 h57 _ _ _ _).run, ↓(v48 h48 _ _).run, d1, d2, d3, d4, d5, c2, d6, go_sem, Nat.reduceEqDiff, Nat.reduceAdd, Nat.reduceLeDiff, Int.reduceEq, Int.reduceLT, Int.reduceLE, Int.reduceAdd, Int.reduceSub, Int.reduceMul, Int.reduceNeg, Int.reduceToNat, Nat.reduceMul]
          exact hQ
    · rw [if_pos c2] at hQ
      simp only [specV, ↓(v57 h57 _ _ _ _).run, d1, d2, d3, d4, d5, c2, go_sem, Nat.reduceEqDiff, Nat.reduceAdd, Nat.reduceLeDiff, Int.reduceEq, Int.reduceLT, Int.reduceLE, Int.reduceAdd, Int.reduceSub, Int.reduceMul, Int.reduceNeg, Int.reduceToNat, Nat.reduceMul]
      exact hQ
  · rw [specErr, if_pos c1] at hQ
    by_cases d1 : 1 ≤ c ∧ c ≤ 32
    · by_cases d2 : 0 ≤ p ∧ p ≤ 1048576
      · by_cases d3 : 1 ≤ pc ∧ pc ≤ 1000000
        · by_cases d4 : 0 ≤ sp ∧ sp ≤ 1000000000
          · have d5 : ¬ (0 ≤ la ∧ la ≤ 60000) := fun h => c1 ⟨d1, d2, d3, d4, h⟩
            simp only [specV, ↓(v57 h57 _ _ _ _).run, d1, d2, d3, d4, d5, go_sem, Nat.reduceEqDiff, Nat.reduceAdd, Nat.reduceLeDiff, Int.reduceEq, Int.reduceLT, Int.reduceLE, Int.reduceAdd, Int.reduceSub, Int.reduceMul, Int.reduceNeg, Int.reduceToNat, Nat.reduceMul]
            exact hQ
          · simp only [specV, ↓(v57 h57 _ _ _ _).run, d1, d2, d3, d4, go_sem, Nat.reduceEqDiff, Nat.reduceAdd, Nat.reduceLeDiff, Int.reduceEq, Int.reduceLT, Int.reduceLE, Int.reduceAdd, Int.reduceSub, Int.reduceMul, Int.reduceNeg, Int.reduceToNat, Nat.reduceMul]
            exact hQ
        · simp only [specV, ↓(v57 h57 _ _ _ _).run, d1, d2, d3, go_sem, Nat.reduceEqDiff, Nat.reduceAdd, Nat.reduceLeDiff, Int.reduceEq, Int.reduceLT, Int.reduceLE, Int.reduceAdd, Int.reduceSub, Int.reduceMul, Int.reduceNeg, Int.reduceToNat, Nat.reduceMul]
          exact hQ
      · simp only [specV, ↓(v57 h57 _ _ _ _).run, d1, d2, go_sem, Nat.reduceEqDiff, Nat.reduceAdd, Nat.reduceLeDiff, Int.reduceEq, Int.reduceLT, Int.reduceLE, Int.reduceAdd, Int.reduceSub, Int.reduceMul, Int.reduceNeg, Int.reduceToNat, Nat.reduceMul]
        exact hQ
    · simp only [specV, ↓(v57 h57 _ _ _ _).run, d1, go_sem, Nat.reduceEqDiff, Nat.reduceAdd, Nat.reduceLeDiff, Int.reduceEq, Int.reduceLT, Int.reduceLE, Int.reduceAdd, Int.reduceSub, Int.reduceMul, Int.reduceNeg, Int.reduceToNat, Nat.reduceMul]
      exact hQ
end
section
variable (h13 : tbl 13 = some (.code m13)) (h25 : tbl 25 = some (.code m25)) (h58 : tbl 58 = some (.code m58)) (h35 : tbl 35 = some (.code m35))
include h13 h25 h58 h35
theorem v35 {H : AH} (c p pc sp la o se li a b f j e : Int) {v : Value} {l : List (Int × Int)} (hs : Sl H 2 v l.length (cells2 l)) (bu : Int) :
    Val tbl 35 [specV c p pc sp la o se li a b f j e v bu] H (.int .i64 (specErr c p pc sp la o se li a b f j e l bu)) H := by
  refine Val.of_all fun Q hQ => ?_
  obtain ⟨va, vc, hv⟩ := hs.shape
  have hs' : ∀ B, Sl (H.enter.push B) 2 v l.length (cells2 l) := fun B => hs.keep fun id hid => AH.get_push_lt _ _ hid
  have hv25 : ∀ B, Val tbl 25 [v] (H.enter.push B) (.int .i64 (ratesErr l)) (H.enter.push B) := fun B => vrates (n := 25) h25 (hs' B)
  rw [hv] at hv25 ⊢
  rw [rn_fun h35, k35]
  by_cases c1 : (1 ≤ c ∧ c ≤ 32) ∧ (0 ≤ p ∧ p ≤ 1048576) ∧ (1 ≤ pc ∧ pc ≤ 1000000) ∧ (0 ≤ sp ∧ sp ≤ 1000000000) ∧ (0 ≤ la ∧ la ≤ 60000)
  · rw [specErr, if_neg (by simp only [c1, and_self, not_true_eq_false, not_false_eq_true])] at hQ
    obtain ⟨d1, d2, d3, d4, d5⟩ := c1
    by_cases c2 : 1 ≤ o ∧ o ≤ 6
    · rw [if_neg (not_not_intro c2)] at hQ
      by_cases c3 : (0 ≤ se ∧ se ≤ 2147483647) ∧ (0 ≤ li ∧ li ≤ 1099511627776)
      · rw [if_neg (not_not_intro c3)] at hQ
        obtain ⟨d6, d7⟩ := c3
        by_cases c4 : okB a b f j e
        · rw [if_neg (not_not_intro c4)] at hQ
          by_cases c5 : ratesErr l = 0
          · rw [if_neg (by omega)] at hQ
            by_cases c6 : 1 ≤ bu ∧ bu ≤ 1000000000
            · rw [if_neg (not_not_intro c6)] at hQ
              by_cases c7 : bu < pc
              · rw [if_pos c7] at hQ
                simp only [specV, ↓(v58 h58 _ _ _ _).run, ↓(v13 h13 _ _ _ _ _ _).run, ↓(hv25 _).run, d1, d2, d3, d4, d5, c2, d6, d7, c4, c5, c6, c7, go_sem, Nat.reduceEqDiff, Nat.reduceAdd, Nat.reduceLeDiff, Int.reduceEq, Int.reduceLT, Int.reduceLE, Int.reduceAdd, Int.reduceSub, Int.reduceMul, Int.reduceNeg, Int.reduceToNat, Nat.reduceMul]
                exact hQ
              · rw [if_neg c7] at hQ
                simp only [specV, ↓(v58 h58 _ _ _ _).run, ↓(v13 h13 _ _ _ _ _ _).run, ↓(hv25 _).run, d1, d2, d3, d4, d5, c2, d6, d7, c4, c5, c6, c7, go_sem, Nat.reduceEqDiff, Nat.reduceAdd, Nat.reduceLeDiff, Int.reduceEq, Int.reduceLT, Int.reduceLE, Int.reduceAdd, Int.reduceSub, Int.reduceMul, Int.reduceNeg, Int.reduceToNat, Nat.reduceMul]
                exact hQ
            · rw [if_pos c6] at hQ
              simp only [specV, ↓(v58 h58 _ _ _ _).run, ↓(v13 h13 _ _ _ _ _ _).run, ↓(hv25 _).run, d1, d2, d3, d4, d5, c2, d6, d7, c4, c5, c6, go_sem, Nat.reduceEqDiff, Nat.reduceAdd, Nat.reduceLeDiff, Int.reduceEq, Int.reduceLT, Int.reduceLE, Int.reduceAdd, Int.reduceSub, Int.reduceMul, Int.reduceNeg, Int.reduceToNat, Nat.reduceMul]
              exact hQ
          · rw [if_pos c5] at hQ
            simp only [specV, ↓(v58 h58 _ _ _ _).run, ↓(v13 h13 _ _ _ _ _ _).run, ↓(hv25 _).run, d1, d2, d3, d4, d5, c2, d6, d7, c4, c5, go_sem, Nat.reduceEqDiff, Nat.reduceAdd, Nat.reduceLeDiff, Int.reduceEq, Int.reduceLT, Int.reduceLE, Int.reduceAdd, Int.reduceSub, Int.reduceMul, Int.reduceNeg, Int.reduceToNat, Nat.reduceMul]
            exact hQ
        · rw [if_pos c4] at hQ
          simp only [specV, ↓(v58 h58 _ _ _ _).run, ↓(v13 h13 _ _ _ _ _ _).run, d1, d2, d3, d4, d5, c2, d6, d7, c4, go_sem, Nat.reduceEqDiff, Nat.reduceAdd, Nat.reduceLeDiff, Int.reduceEq, Int.reduceLT, Int.reduceLE, Int.reduceAdd, Int.reduceSub, Int.reduceMul, Int.reduceNeg, Int.reduceToNat, Nat.reduceMul]
          exact hQ
      · rw [if_pos c3] at hQ
        by_cases d6 : 0 ≤ se ∧ se ≤ 2147483647
        · have d7 : ¬ (0 ≤ li ∧ li ≤ 1099511627776) := fun h => c3 ⟨d6, h⟩
          simp only [specV, ↓(v58 h58 _ _ _ _).run, d1, d2, d3, d4, d5, c2, d6, d7, go_sem, Nat.reduceEqDiff, Nat.reduceAdd, Nat.reduceLeDiff, Int.reduceEq, Int.reduceLT, Int.reduceLE, Int.reduceAdd, Int.reduceSub, Int.reduceMul, Int.reduceNeg, Int.reduceToNat, Nat.reduceMul]
          exact hQ
        · simp only [specV, ↓(v58 h58 _ _ _ _).run, d1, d2, d3, d4, d5, c2, d6, go_sem, Nat.reduceEqDiff, Nat.reduceAdd, Nat.reduceLeDiff, Int.reduceEq, Int.reduceLT, Int.reduceLE, Int.reduceAdd, Int.reduceSub, Int.reduceMul, Int.reduceNeg, Int.reduceToNat, Nat.reduceMul]
          exact hQ
    · rw [if_pos c2] at hQ
      simp only [specV, ↓(v58 h58 _ _ _ _).run, d1, d2, d3, d4, d5, c2, go_sem, Nat.reduceEqDiff, Nat.reduceAdd, Nat.reduceLeDiff, Int.reduceEq, Int.reduceLT, Int.reduceLE, Int.reduceAdd, Int.reduceSub, Int.reduceMul, Int.reduceNeg, Int.reduceToNat, Nat.reduceMul]
      exact hQ
  · rw [specErr, if_pos c1] at hQ
    by_cases d1 : 1 ≤ c ∧ c ≤ 32
    · by_cases d2 : 0 ≤ p ∧ p ≤ 1048576
      · by_cases d3 : 1 ≤ pc ∧ pc ≤ 1000000
        · by_cases d4 : 0 ≤ sp ∧ sp ≤ 1000000000
          · have d5 : ¬ (0 ≤ la ∧ la ≤ 60000) := fun h => c1 ⟨d1, d2, d3, d4, h⟩
            simp only [specV, ↓(v58 h58 _ _ _ _).run, d1, d2, d3, d4, d5, go_sem, Nat.reduceEqDiff, Nat.reduceAdd, Nat.reduceLeDiff, Int.reduceEq, Int.reduceLT, Int.reduceLE, Int.reduceAdd, Int.reduceSub, Int.reduceMul, Int.reduceNeg, Int.reduceToNat, Nat.reduceMul]
            exact hQ
          · simp only [specV, ↓(v58 h58 _ _ _ _).run, d1, d2, d3, d4, go_sem, Nat.reduceEqDiff, Nat.reduceAdd, Nat.reduceLeDiff, Int.reduceEq, Int.reduceLT, Int.reduceLE, Int.reduceAdd, Int.reduceSub, Int.reduceMul, Int.reduceNeg, Int.reduceToNat, Nat.reduceMul]
            exact hQ
        · simp only [specV, ↓(v58 h58 _ _ _ _).run, d1, d2, d3, go_sem, Nat.reduceEqDiff, Nat.reduceAdd, Nat.reduceLeDiff, Int.reduceEq, Int.reduceLT, Int.reduceLE, Int.reduceAdd, Int.reduceSub, Int.reduceMul, Int.reduceNeg, Int.reduceToNat, Nat.reduceMul]
          exact hQ
      · simp only [specV, ↓(v58 h58 _ _ _ _).run, d1, d2, go_sem, Nat.reduceEqDiff, Nat.reduceAdd, Nat.reduceLeDiff, Int.reduceEq, Int.reduceLT, Int.reduceLE, Int.reduceAdd, Int.reduceSub, Int.reduceMul, Int.reduceNeg, Int.reduceToNat, Nat.reduceMul]
        exact hQ
    · simp only [specV, ↓(v58 h58 _ _ _ _).run, d1, go_sem, Nat.reduceEqDiff, Nat.reduceAdd, Nat.reduceLeDiff, Int.reduceEq, Int.reduceLT, Int.reduceLE, Int.reduceAdd, Int.reduceSub, Int.reduceMul, Int.reduceNeg, Int.reduceToNat, Nat.reduceMul]
      exact hQ
end
end Go.Proofs.Ytidpkoaomfbljaa.AM
