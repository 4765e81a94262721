import Derived.Test.YtidpkoaomfbljaaAmT
import Derived.Test.YtidpkoaomfbljaaHaulT
import Derived.Test.YtidpkoaomfbljaaAmY
namespace Go.Proofs.Ytidpkoaomfbljaa.AM
open Go
set_option linter.all false
variable {tbl : Tbl} [hT : TMono tbl]

theorem v17 (h17 : tbl 17 = some (.code m17)) (n lo hi : Int) (H : AH) : Val tbl 17 [.int .i64 n, .int .i64 lo, .int .i64 hi] H (.bool (decide (lo ≤ n ∧ n ≤ hi))) H := by
  refine Val.of_all fun Q hQ => ?_
  rw [rn_fun h17, k17]
  simp only [go_sem, Nat.reduceEqDiff, Nat.reduceAdd, Nat.reduceLeDiff, Int.reduceEq, Int.reduceLT, Int.reduceLE, Int.reduceAdd, Int.reduceSub, Int.reduceMul, Int.reduceNeg, Int.reduceToNat, Nat.reduceMul]
  iterate 6 (try (all_goals (try (refine iteP_intro ?_ ?_ <;> intro _ <;> simp only [*, go_sem, Nat.reduceEqDiff, Nat.reduceAdd, Nat.reduceLeDiff, Int.reduceEq, Int.reduceLT, Int.reduceLE, Int.reduceAdd, Int.reduceSub, Int.reduceMul, Int.reduceNeg, Int.reduceToNat, Nat.reduceMul]))))
  all_goals exact leaf hQ (by simp [*]) rfl
theorem v47 (h47 : tbl 47 = some (.code m47)) (n lo hi : Int) (H : AH) : Val tbl 47 [.int .i64 n, .int .i64 lo, .int .i64 hi] H (.bool (decide (lo ≤ n ∧ n ≤ hi))) H := by
  refine Val.of_all fun Q hQ => ?_
  rw [rn_fun h47, k47]
  simp only [go_sem, Nat.reduceEqDiff, Nat.reduceAdd, Nat.reduceLeDiff, Int.reduceEq, Int.reduceLT, Int.reduceLE, Int.reduceAdd, Int.reduceSub, Int.reduceMul, Int.reduceNeg, Int.reduceToNat, Nat.reduceMul]
  iterate 6 (try (all_goals (try (refine iteP_intro ?_ ?_ <;> intro _ <;> simp only [*, go_sem, Nat.reduceEqDiff, Nat.reduceAdd, Nat.reduceLeDiff, Int.reduceEq, Int.reduceLT, Int.reduceLE, Int.reduceAdd, Int.reduceSub, Int.reduceMul, Int.reduceNeg, Int.reduceToNat, Nat.reduceMul]))))
  all_goals exact leaf hQ (by simp [*]) rfl
theorem v11 (h47 : tbl 47 = some (.code m47)) (h11 : tbl 11 = some (.code m11)) (a b c d e : Int) (H : AH) : Val tbl 11 [.agg #[.int .i64 a, .int .i64 b, .int .i64 c, .int .i64 d, .int .i64 e]] H (.int .i64 (if (0 ≤ a ∧ a ≤ 3600000) ∧ (a ≤ b ∧ b ≤ 3600000) ∧ (1 ≤ c ∧ c ≤ 100) ∧ (0 ≤ d ∧ d ≤ 100) ∧ (1 ≤ e ∧ e ≤ 100) then 0 else 7)) H := by
  refine Val.of_all fun Q hQ => ?_
  rw [rn_fun h11, k11]
  simp only [go_sem, Nat.reduceEqDiff, Nat.reduceAdd, Nat.reduceLeDiff, Int.reduceEq, Int.reduceLT, Int.reduceLE, Int.reduceAdd, Int.reduceSub, Int.reduceMul, Int.reduceNeg, Int.reduceToNat, Nat.reduceMul, ↓(v47 h47 _ _ _ _).run]
  iterate 6 (try (all_goals (try (refine iteP_intro ?_ ?_ <;> intro _ <;> simp only [*, go_sem, Nat.reduceEqDiff, Nat.reduceAdd, Nat.reduceLeDiff, Int.reduceEq, Int.reduceLT, Int.reduceLE, Int.reduceAdd, Int.reduceSub, Int.reduceMul, Int.reduceNeg, Int.reduceToNat, Nat.reduceMul, ↓(v47 h47 _ _ _ _).run]))))
  all_goals exact leaf hQ (by simp [*]) rfl
theorem v15 (h15 : tbl 15 = some (.code m15)) (H : AH) (v : Value) (l : List Int) (hs : Sl H 1 v l.length (l.map I64)) (hl : l.length < 1000000000) : Val tbl 15 [v] H (.int .i64 (firstL l)) H := by
  refine Val.of_all fun Q hQ => ?_
  obtain ⟨a, c, hv⟩ := hs.shape
  subst hv
  rw [rn_fun h15, k15]
  simp only [go_sem, Nat.reduceEqDiff, Nat.reduceAdd, Nat.reduceLeDiff, Int.reduceEq, Int.reduceLT, Int.reduceLE, Int.reduceAdd, Int.reduceSub, Int.reduceMul, Int.reduceNeg, Int.reduceToNat, Nat.reduceMul]
  refine rn_loop (fun m f H' => H' = H.enter ∧ ∃ i : Nat, i ≤ l.length ∧ m = l.length - i ∧ f 5 = .slice a l.length c ∧ f 6 = .int .i64 l.length ∧ f 7 = .int .i64 i ∧ firstL (l.drop i) = firstL l) ?_ (n := l.length) ⟨rfl, 0, by omega, by omega, by simp only [go_sem, Nat.reduceEqDiff, Nat.reduceAdd, Nat.reduceLeDiff, Int.reduceEq, Int.reduceLT, Int.reduceLE, Int.reduceAdd, Int.reduceSub, Int.reduceMul, Int.reduceNeg, Int.reduceToNat, Nat.reduceMul], by simp only [go_sem, Nat.reduceEqDiff, Nat.reduceAdd, Nat.reduceLeDiff, Int.reduceEq, Int.reduceLT, Int.reduceLE, Int.reduceAdd, Int.reduceSub, Int.reduceMul, Int.reduceNeg, Int.reduceToNat, Nat.reduceMul], by simp only [go_sem, Nat.reduceEqDiff, Nat.reduceAdd, Nat.reduceLeDiff, Int.reduceEq, Int.reduceLT, Int.reduceLE, Int.reduceAdd, Int.reduceSub, Int.reduceMul, Int.reduceNeg, Int.reduceToNat, Nat.reduceMul] <;> rfl, rfl⟩
  rintro m f H' ⟨rfl, i, hi, rfl, h5, h6, h7, hf⟩
  simp only [h5, h6, h7, go_sem, Nat.reduceEqDiff, Nat.reduceAdd, Nat.reduceLeDiff, Int.reduceEq, Int.reduceLT, Int.reduceLE, Int.reduceAdd, Int.reduceSub, Int.reduceMul, Int.reduceNeg, Int.reduceToNat, Nat.reduceMul]
  refine iteP_intro ?_ ?_ <;> intro hlt
  · simp only [h5, h6, h7, go_sem, Nat.reduceEqDiff, Nat.reduceAdd, Nat.reduceLeDiff, Int.reduceEq, Int.reduceLT, Int.reduceLE, Int.reduceAdd, Int.reduceSub, Int.reduceMul, Int.reduceNeg, Int.reduceToNat, Nat.reduceMul]
    have hi : i < l.length := by omega
    rw [List.drop_eq_getElem_cons hi] at hf
    refine hs.int hi fun p hpl hp => ?_
    simp only [h5, h6, h7, hp, go_sem, Nat.reduceEqDiff, Nat.reduceAdd, Nat.reduceLeDiff, Int.reduceEq, Int.reduceLT, Int.reduceLE, Int.reduceAdd, Int.reduceSub, Int.reduceMul, Int.reduceNeg, Int.reduceToNat, Nat.reduceMul]
    refine iteP_intro ?_ ?_ <;> intro hz
    · simp only [hz, firstL, if_true] at hf
      simp only [h5, h6, h7, hp, go_sem, Nat.reduceEqDiff, Nat.reduceAdd, Nat.reduceLeDiff, Int.reduceEq, Int.reduceLT, Int.reduceLE, Int.reduceAdd, Int.reduceSub, Int.reduceMul, Int.reduceNeg, Int.reduceToNat, Nat.reduceMul]
      rw [w64 (by omega) (by omega)]
      exact ⟨l.length - (i + 1), by omega, rfl, i + 1, by omega, rfl, by simp only [h5, go_sem, Nat.reduceEqDiff, Nat.reduceAdd, Nat.reduceLeDiff, Int.reduceEq, Int.reduceLT, Int.reduceLE, Int.reduceAdd, Int.reduceSub, Int.reduceMul, Int.reduceNeg, Int.reduceToNat, Nat.reduceMul], by simp only [h6, go_sem, Nat.reduceEqDiff, Nat.reduceAdd, Nat.reduceLeDiff, Int.reduceEq, Int.reduceLT, Int.reduceLE, Int.reduceAdd, Int.reduceSub, Int.reduceMul, Int.reduceNeg, Int.reduceToNat, Nat.reduceMul], by simp only [go_sem, Nat.reduceEqDiff, Nat.reduceAdd, Nat.reduceLeDiff, Int.reduceEq, Int.reduceLT, Int.reduceLE, Int.reduceAdd, Int.reduceSub, Int.reduceMul, Int.reduceNeg, Int.reduceToNat, Nat.reduceMul] <;> rfl, hf⟩
    · simp only [firstL, if_neg hz] at hf
      simp only [h5, h6, h7, hp, go_sem, Nat.reduceEqDiff, Nat.reduceAdd, Nat.reduceLeDiff, Int.reduceEq, Int.reduceLT, Int.reduceLE, Int.reduceAdd, Int.reduceSub, Int.reduceMul, Int.reduceNeg, Int.reduceToNat, Nat.reduceMul]
      rw [hf]
      exact hQ
  · have hi : i = l.length := by omega
    subst hi
    rw [List.drop_length] at hf
    rw [← hf] at hQ
    simp only [h5, h6, h7, go_sem, Nat.reduceEqDiff, Nat.reduceAdd, Nat.reduceLeDiff, Int.reduceEq, Int.reduceLT, Int.reduceLE, Int.reduceAdd, Int.reduceSub, Int.reduceMul, Int.reduceNeg, Int.reduceToNat, Nat.reduceMul]
    exact hQ
theorem v16 (h16 : tbl 16 = some (.code m16)) (p : Prop) [Decidable p] (e : Int) (H : AH) : Val tbl 16 [.bool (decide p), .int .i64 e] H (.int .i64 (if p then e else 0)) H := by
  refine Val.of_all fun Q hQ => ?_
  rw [rn_fun h16, k16]
  simp only [go_sem, Nat.reduceEqDiff, Nat.reduceAdd, Nat.reduceLeDiff, Int.reduceEq, Int.reduceLT, Int.reduceLE, Int.reduceAdd, Int.reduceSub, Int.reduceMul, Int.reduceNeg, Int.reduceToNat, Nat.reduceMul]
  iterate 6 (try (all_goals (try (refine iteP_intro ?_ ?_ <;> intro _ <;> simp only [*, go_sem, Nat.reduceEqDiff, Nat.reduceAdd, Nat.reduceLeDiff, Int.reduceEq, Int.reduceLT, Int.reduceLE, Int.reduceAdd, Int.reduceSub, Int.reduceMul, Int.reduceNeg, Int.reduceToNat, Nat.reduceMul]))))
  all_goals exact leaf hQ (by simp [*]) rfl
theorem v48 (h48 : tbl 48 = some (.code m48)) (n : Int) (H : AH) : Val tbl 48 [.int .i64 n] H (.bool (decide (0 ≤ n ∧ n ≤ 2147483647))) H := by
  refine Val.of_all fun Q hQ => ?_
  rw [rn_fun h48, k48]
  simp only [go_sem, Nat.reduceEqDiff, Nat.reduceAdd, Nat.reduceLeDiff, Int.reduceEq, Int.reduceLT, Int.reduceLE, Int.reduceAdd, Int.reduceSub, Int.reduceMul, Int.reduceNeg, Int.reduceToNat, Nat.reduceMul]
  iterate 6 (try (all_goals (try (refine iteP_intro ?_ ?_ <;> intro _ <;> simp only [*, go_sem, Nat.reduceEqDiff, Nat.reduceAdd, Nat.reduceLeDiff, Int.reduceEq, Int.reduceLT, Int.reduceLE, Int.reduceAdd, Int.reduceSub, Int.reduceMul, Int.reduceNeg, Int.reduceToNat, Nat.reduceMul]))))
  · refine leaf hQ ?_ rfl
    congr 2
    simp only [*, true_and, eq_iff_iff]
    omega
  · exact leaf hQ (by simp [*]) rfl
def chanceI (s : Int) : Int := (s * 1103515245 + 12345) % 2147483648
theorem chance_range (s : Int) : 0 ≤ chanceI s ∧ chanceI s ≤ 2147483647 := by unfold chanceI; omega
theorem v68 (h68 : tbl 68 = some (.code m68)) (s : Int) (hs : 0 ≤ s ∧ s ≤ 2147483647) (H : AH) : Val tbl 68 [.int .i64 s] H (.int .i64 (chanceI s)) H := by
  refine Val.of_all fun Q hQ => ?_
  rw [rn_fun h68, k68]
  simp only [go_sem, Nat.reduceEqDiff, Nat.reduceAdd, Nat.reduceLeDiff, Int.reduceEq, Int.reduceLT, Int.reduceLE, Int.reduceAdd, Int.reduceSub, Int.reduceMul, Int.reduceNeg, Int.reduceToNat, Nat.reduceMul]
  rw [w64 (x := s * 1103515245) (by omega) (by omega), w64 (by omega) (by omega)]
  refine leaf hQ ?_ rfl
  rw [Int.tmod_eq_emod_of_nonneg (by omega)]
  rfl
theorem v50 (h50 : tbl 50 = some (.code m50)) (s : Int) (hs : 0 ≤ s ∧ s ≤ 2147483647) (H : AH) : Val tbl 50 [.int .i64 s] H (.int .i64 (chanceI s)) H := by
  refine Val.of_all fun Q hQ => ?_
  rw [rn_fun h50, k50]
  simp only [go_sem, Nat.reduceEqDiff, Nat.reduceAdd, Nat.reduceLeDiff, Int.reduceEq, Int.reduceLT, Int.reduceLE, Int.reduceAdd, Int.reduceSub, Int.reduceMul, Int.reduceNeg, Int.reduceToNat, Nat.reduceMul]
  rw [w64 (x := s * 1103515245) (by omega) (by omega), w64 (by omega) (by omega)]
  refine leaf hQ ?_ rfl
  rw [Int.tmod_eq_emod_of_nonneg (by omega)]
  rfl
def okB (a b c d e : Int) : Prop := (0 ≤ a ∧ a ≤ 3600000) ∧ (a ≤ b ∧ b ≤ 3600000) ∧ (1 ≤ c ∧ c ≤ 100) ∧ (0 ≤ d ∧ d ≤ 100) ∧ (1 ≤ e ∧ e ≤ 100)
instance (a b c d e : Int) : Decidable (okB a b c d e) := inferInstanceAs (Decidable (_ ∧ _))
theorem v13 (h13 : tbl 13 = some (.code m13)) (a b c d e : Int) (H : AH) : Val tbl 13 [.agg #[.int .i64 a, .int .i64 b, .int .i64 c, .int .i64 d, .int .i64 e]] H (.int .i64 (if okB a b c d e then 0 else 7)) H := by
  refine Val.of_all fun Q hQ => ?_
  rw [rn_fun h13, k13]
  simp only [go_sem, Nat.reduceEqDiff, Nat.reduceAdd, Nat.reduceLeDiff, Int.reduceEq, Int.reduceLT, Int.reduceLE, Int.reduceAdd, Int.reduceSub, Int.reduceMul, Int.reduceNeg, Int.reduceToNat, Nat.reduceMul]
  iterate 12 (try (all_goals (try (refine iteP_intro ?_ ?_ <;> intro _ <;> simp only [*, go_sem, Nat.reduceEqDiff, Nat.reduceAdd, Nat.reduceLeDiff, Int.reduceEq, Int.reduceLT, Int.reduceLE, Int.reduceAdd, Int.reduceSub, Int.reduceMul, Int.reduceNeg, Int.reduceToNat, Nat.reduceMul]))))
  all_goals refine leaf hQ ?_ rfl
  all_goals first
    | (rw [if_pos (by unfold okB; omega)]; done)
    | (rw [if_neg (by unfold okB; omega)]; done)
theorem v18 (h18 : tbl 18 = some (.code m18)) (H : AH) (v u : Value) (l r : List Int) (hs : Sl H 1 v l.length (l.map I64)) (hr : Sl H 1 u r.length (r.map I64)) (hl : l.length < 1000000000) : Val tbl 18 [v, u] H (.bool (decide (l = r))) H := by
  refine Val.of_all fun Q hQ => ?_
  obtain ⟨a, c, hv⟩ := hs.shape
  obtain ⟨a2, c2, hu⟩ := hr.shape
  subst hv
  subst hu
  rw [rn_fun h18, k18]
  simp only [go_sem, Nat.reduceEqDiff, Nat.reduceAdd, Nat.reduceLeDiff, Int.reduceEq, Int.reduceLT, Int.reduceLE, Int.reduceAdd, Int.reduceSub, Int.reduceMul, Int.reduceNeg, Int.reduceToNat, Nat.reduceMul]
  refine iteP_intro ?_ ?_ <;> intro hlen
  · have hlen : l.length = r.length := by omega
    simp only [go_sem, Nat.reduceEqDiff, Nat.reduceAdd, Nat.reduceLeDiff, Int.reduceEq, Int.reduceLT, Int.reduceLE, Int.reduceAdd, Int.reduceSub, Int.reduceMul, Int.reduceNeg, Int.reduceToNat, Nat.reduceMul]
    refine rn_loop (fun m f H' => H' = H.enter ∧ ∃ i : Nat, i ≤ l.length ∧ m = l.length - i ∧ f 0 = .slice a l.length c ∧ f 1 = .slice a2 r.length c2 ∧ f 12 = .int .i64 l.length ∧ f 13 = .int .i64 i ∧ l.take i = r.take i) ?_ (n := l.length) ⟨rfl, 0, by omega, by omega, by simp only [go_sem, Nat.reduceEqDiff, Nat.reduceAdd, Nat.reduceLeDiff, Int.reduceEq, Int.reduceLT, Int.reduceLE, Int.reduceAdd, Int.reduceSub, Int.reduceMul, Int.reduceNeg, Int.reduceToNat, Nat.reduceMul], by simp only [go_sem, Nat.reduceEqDiff, Nat.reduceAdd, Nat.reduceLeDiff, Int.reduceEq, Int.reduceLT, Int.reduceLE, Int.reduceAdd, Int.reduceSub, Int.reduceMul, Int.reduceNeg, Int.reduceToNat, Nat.reduceMul], by simp only [go_sem, Nat.reduceEqDiff, Nat.reduceAdd, Nat.reduceLeDiff, Int.reduceEq, Int.reduceLT, Int.reduceLE, Int.reduceAdd, Int.reduceSub, Int.reduceMul, Int.reduceNeg, Int.reduceToNat, Nat.reduceMul], by simp only [go_sem, Nat.reduceEqDiff, Nat.reduceAdd, Nat.reduceLeDiff, Int.reduceEq, Int.reduceLT, Int.reduceLE, Int.reduceAdd, Int.reduceSub, Int.reduceMul, Int.reduceNeg, Int.reduceToNat, Nat.reduceMul] <;> rfl, rfl⟩
    rintro m f H' ⟨rfl, i, hi, rfl, h5, h1, h6, h7, hf⟩
    simp only [h5, h1, h6, h7, go_sem, Nat.reduceEqDiff, Nat.reduceAdd, Nat.reduceLeDiff, Int.reduceEq, Int.reduceLT, Int.reduceLE, Int.reduceAdd, Int.reduceSub, Int.reduceMul, Int.reduceNeg, Int.reduceToNat, Nat.reduceMul]
    refine iteP_intro ?_ ?_ <;> intro hlt
    · simp only [h5, h1, h6, h7, go_sem, Nat.reduceEqDiff, Nat.reduceAdd, Nat.reduceLeDiff, Int.reduceEq, Int.reduceLT, Int.reduceLE, Int.reduceAdd, Int.reduceSub, Int.reduceMul, Int.reduceNeg, Int.reduceToNat, Nat.reduceMul]
      have hi : i < l.length := by omega
      have hi2 : i < r.length := by omega
      refine hs.int hi fun p hpl hp => ?_
      simp only [h5, h1, h6, h7, hp, hpl, go_sem, Nat.reduceEqDiff, Nat.reduceAdd, Nat.reduceLeDiff, Int.reduceEq, Int.reduceLT, Int.reduceLE, Int.reduceAdd, Int.reduceSub, Int.reduceMul, Int.reduceNeg, Int.reduceToNat, Nat.reduceMul]
      refine hr.int hi2 fun p2 hpl2 hp2 => ?_
      simp only [h5, h1, h6, h7, hp2, hpl2, go_sem, Nat.reduceEqDiff, Nat.reduceAdd, Nat.reduceLeDiff, Int.reduceEq, Int.reduceLT, Int.reduceLE, Int.reduceAdd, Int.reduceSub, Int.reduceMul, Int.reduceNeg, Int.reduceToNat, Nat.reduceMul]
      have htl : l.take (i + 1) = l.take i ++ [l[i]] := by rw [List.take_succ_eq_append_getElem hi]
      have htr : r.take (i + 1) = r.take i ++ [r[i]] := by rw [List.take_succ_eq_append_getElem hi2]
      refine iteP_intro ?_ ?_ <;> intro hz
      · simp only [h5, h1, h6, h7, go_sem, Nat.reduceEqDiff, Nat.reduceAdd, Nat.reduceLeDiff, Int.reduceEq, Int.reduceLT, Int.reduceLE, Int.reduceAdd, Int.reduceSub, Int.reduceMul, Int.reduceNeg, Int.reduceToNat, Nat.reduceMul]
        rw [w64 (by omega) (by omega)]
        exact ⟨l.length - (i + 1), by omega, rfl, i + 1, by omega, rfl, by simp only [h5, go_sem, Nat.reduceEqDiff, Nat.reduceAdd, Nat.reduceLeDiff, Int.reduceEq, Int.reduceLT, Int.reduceLE, Int.reduceAdd, Int.reduceSub, Int.reduceMul, Int.reduceNeg, Int.reduceToNat, Nat.reduceMul], by simp only [h1, go_sem, Nat.reduceEqDiff, Nat.reduceAdd, Nat.reduceLeDiff, Int.reduceEq, Int.reduceLT, Int.reduceLE, Int.reduceAdd, Int.reduceSub, Int.reduceMul, Int.reduceNeg, Int.reduceToNat, Nat.reduceMul], by simp only [h6, go_sem, Nat.reduceEqDiff, Nat.reduceAdd, Nat.reduceLeDiff, Int.reduceEq, Int.reduceLT, Int.reduceLE, Int.reduceAdd, Int.reduceSub, Int.reduceMul, Int.reduceNeg, Int.reduceToNat, Nat.reduceMul], by simp only [go_sem, Nat.reduceEqDiff, Nat.reduceAdd, Nat.reduceLeDiff, Int.reduceEq, Int.reduceLT, Int.reduceLE, Int.reduceAdd, Int.reduceSub, Int.reduceMul, Int.reduceNeg, Int.reduceToNat, Nat.reduceMul] <;> rfl, by rw [htl, htr, hf, hz]⟩
      · simp only [h5, h1, h6, h7, go_sem, Nat.reduceEqDiff, Nat.reduceAdd, Nat.reduceLeDiff, Int.reduceEq, Int.reduceLT, Int.reduceLE, Int.reduceAdd, Int.reduceSub, Int.reduceMul, Int.reduceNeg, Int.reduceToNat, Nat.reduceMul]
        refine leaf hQ ?_ rfl
        rw [decide_eq_false]
        intro e
        subst e
        exact hz rfl
    · have hi : i = l.length := by omega
      subst hi
      simp only [h5, h1, h6, h7, go_sem, Nat.reduceEqDiff, Nat.reduceAdd, Nat.reduceLeDiff, Int.reduceEq, Int.reduceLT, Int.reduceLE, Int.reduceAdd, Int.reduceSub, Int.reduceMul, Int.reduceNeg, Int.reduceToNat, Nat.reduceMul]
      refine leaf hQ ?_ rfl
      rw [decide_eq_true]
      rw [List.take_length, hlen, List.take_length] at hf
      exact hf
  · simp only [go_sem, Nat.reduceEqDiff, Nat.reduceAdd, Nat.reduceLeDiff, Int.reduceEq, Int.reduceLT, Int.reduceLE, Int.reduceAdd, Int.reduceSub, Int.reduceMul, Int.reduceNeg, Int.reduceToNat, Nat.reduceMul]
    refine leaf hQ ?_ rfl
    rw [decide_eq_false]
    intro e
    subst e
    simp at hlen
end Go.Proofs.Ytidpkoaomfbljaa.AM
