import Derived.Test.YtidpkoaomfbljaaRateF
namespace Go.Proofs.Ytidpkoaomfbljaa.AM
open Go
set_option linter.all false
variable {tbl : Tbl} [hT : TMono tbl]
section
variable (h24 : tbl 24 = some (.code m24)) (h51 : tbl 51 = some (.code m51)) (h52 : tbl 52 = some (.code m52)) (h55 : tbl 55 = some (.code m55)) (h26 : tbl 26 = some (.code m26))
include h24 h51 h52 h55 h26
theorem v26_ok {H : AH} {v : Value} {l : List (Int × Int)} (hs : Sl H 2 v l.length (cells2 l)) (burst a b : Int) (h0 : ratesErr l = 0) (hb : 1 ≤ burst ∧ burst ≤ 1000000000) (ha : 0 ≤ a) (hab : a ≤ b) (hm : b ≤ 1099511627776) :
    Val tbl 26 [v, .int .i64 burst, .int .i64 a, .int .i64 b] H (.tuple #[.int .i64 (allowedV l burst a (b - a).toNat), .int .i64 0]) H := by
  refine Val.of_all fun Q hQ => ?_
  rw [rn_fun h26, k26]
  have hs' : Sl H.enter 2 v l.length (cells2 l) := hs
  have hv := v51 h24 h51 hs' burst
  rw [if_neg (by omega), if_pos hb] at hv
  have n1 : ¬ a < 0 := by omega
  have n2 : ¬ 1099511627776 < a := by omega
  have n3 : ¬ b < a := by omega
  have n4 : ¬ 1099511627776 < b := by omega
  simp only [↓hv.run, ↓(v52 h55 h52 hs' (right_of h0) burst a b hb ha hab hm).run, n1, n2, n3, n4, go_sem, Nat.reduceEqDiff, Nat.reduceAdd, Nat.reduceLeDiff, Int.reduceEq, Int.reduceLT, Int.reduceLE, Int.reduceAdd, Int.reduceSub, Int.reduceMul, Int.reduceNeg, Int.reduceToNat, Nat.reduceMul]
  exact hQ
theorem v26_bad {H : AH} {v : Value} {l : List (Int × Int)} (hs : Sl H 2 v l.length (cells2 l)) (burst a b : Int) (h0 : ¬ (ratesErr l = 0 ∧ (1 ≤ burst ∧ burst ≤ 1000000000) ∧ 0 ≤ a ∧ a ≤ b ∧ b ≤ 1099511627776)) :
    Val tbl 26 [v, .int .i64 burst, .int .i64 a, .int .i64 b] H (.tuple #[.int .i64 0, .int .i64 (if ratesErr l ≠ 0 then ratesErr l else 7)]) H := by
  refine Val.of_all fun Q hQ => ?_
  rw [rn_fun h26, k26]
  have hs' : Sl H.enter 2 v l.length (cells2 l) := hs
  have hv := v51 h24 h51 hs' burst
  by_cases e0 : ratesErr l = 0
  · rw [if_neg (by omega)] at hv hQ
    by_cases e1 : 1 ≤ burst ∧ burst ≤ 1000000000
    · rw [if_pos e1] at hv
      by_cases n1 : a < 0
      · simp only [↓hv.run, n1, go_sem, Nat.reduceEqDiff, Nat.reduceAdd, Nat.reduceLeDiff, Int.reduceEq, Int.reduceLT, Int.reduceLE, Int.reduceAdd, Int.reduceSub, Int.reduceMul, Int.reduceNeg, Int.reduceToNat, Nat.reduceMul]
        exact hQ
      by_cases n2 : 1099511627776 < a
      · simp only [↓hv.run, n1, n2, go_sem, Nat.reduceEqDiff, Nat.reduceAdd, Nat.reduceLeDiff, Int.reduceEq, Int.reduceLT, Int.reduceLE, Int.reduceAdd, Int.reduceSub, Int.reduceMul, Int.reduceNeg, Int.reduceToNat, Nat.reduceMul]
        exact hQ
      by_cases n3 : b < a
      · simp only [↓hv.run, n1, n2, n3, go_sem, Nat.reduceEqDiff, Nat.reduceAdd, Nat.reduceLeDiff, Int.reduceEq, Int.reduceLT, Int.reduceLE, Int.reduceAdd, Int.reduceSub, Int.reduceMul, Int.reduceNeg, Int.reduceToNat, Nat.reduceMul]
        exact hQ
      by_cases n4 : 1099511627776 < b
      · simp only [↓hv.run, n1, n2, n3, n4, go_sem, Nat.reduceEqDiff, Nat.reduceAdd, Nat.reduceLeDiff, Int.reduceEq, Int.reduceLT, Int.reduceLE, Int.reduceAdd, Int.reduceSub, Int.reduceMul, Int.reduceNeg, Int.reduceToNat, Nat.reduceMul]
        exact hQ
      exact absurd ⟨e0, e1, by omega, by omega, by omega⟩ h0
    · rw [if_neg e1] at hv
      simp only [↓hv.run, go_sem, Nat.reduceEqDiff, Nat.reduceAdd, Nat.reduceLeDiff, Int.reduceEq, Int.reduceLT, Int.reduceLE, Int.reduceAdd, Int.reduceSub, Int.reduceMul, Int.reduceNeg, Int.reduceToNat, Nat.reduceMul]
      exact hQ
  · rw [if_pos e0] at hv hQ
    simp only [↓hv.run, e0, go_sem, Nat.reduceEqDiff, Nat.reduceAdd, Nat.reduceLeDiff, Int.reduceEq, Int.reduceLT, Int.reduceLE, Int.reduceAdd, Int.reduceSub, Int.reduceMul, Int.reduceNeg, Int.reduceToNat, Nat.reduceMul]
    exact hQ
end
section
variable (h47 : tbl 47 = some (.code m47)) (h11 : tbl 11 = some (.code m11)) (h48 : tbl 48 = some (.code m48)) (h68 : tbl 68 = some (.code m68)) (h49 : tbl 49 = some (.code m49)) (h12 : tbl 12 = some (.code m12)) (h14 : tbl 14 = some (.code m14)) (h18 : tbl 18 = some (.code m18))
  (h15 : tbl 15 = some (.code m15)) (h16 : tbl 16 = some (.code m16)) (h17 : tbl 17 = some (.code m17))
  (h24 : tbl 24 = some (.code m24)) (h25 : tbl 25 = some (.code m25)) (h51 : tbl 51 = some (.code m51)) (h52 : tbl 52 = some (.code m52)) (h55 : tbl 55 = some (.code m55)) (h26 : tbl 26 = some (.code m26)) (h53 : tbl 53 = some (.code m53)) (h27 : tbl 27 = some (.code m27)) (h5 : tbl 5 = some (.code m5))
include h47 h11 h48 h68 h49 h12 h14 h18 h15 h16 h17 h24 h25 h51 h52 h55 h26 h53 h27 h5
theorem v5 {H : AH} {v : Value} {l : List (Int × Int)} (hs : Sl H 2 v l.length (cells2 l)) (burst a b : Int) : Val tbl 5 [v, .int .i64 burst, .int .i64 a, .int .i64 b] H (.bool true) H := by
  refine Val.of_all fun Q hQ => ?_
  rw [rn_fun h5, k5]
  have hs' : Sl H.enter 2 v l.length (cells2 l) := hs
  have hv1 := vrates h24 hs'
  have hv2 : Val tbl 25 [v] H.enter (.int .i64 (ratesErr l)) H.enter := vrates (n := 25) h25 hs'
  have hv3 := v14 h47 h11 h48 h68 h49 h12 h14 h18 H.enter
  by_cases hok : ratesErr l = 0 ∧ (1 ≤ burst ∧ burst ≤ 1000000000) ∧ 0 ≤ a ∧ a ≤ b ∧ b ≤ 1099511627776
  · obtain ⟨e0, e1, e2, e3, e4⟩ := hok
    have e5 : a ≤ 1099511627776 := by omega
    have hv4 := v26_ok h24 h51 h52 h55 h26 hs' burst a b e0 e1 e2 e3 e4
    have w1 := w64 (x := b - a) (by omega) (by omega)
    simp only [↓hv1.run, ↓hv2.run, ↓hv3.run, ↓hv4.run, ↓(v17 h17 _ _ _ _).run, ↓(v16b h16 _ _ _).run, e0, e1, e2, e3, e4, e5, go_sem, Nat.reduceEqDiff, Nat.reduceAdd, Nat.reduceLeDiff, Int.reduceEq, Int.reduceLT, Int.reduceLE, Int.reduceAdd, Int.reduceSub, Int.reduceMul, Int.reduceNeg, Int.reduceToNat, Nat.reduceMul]
    refine (Val.run (v15 h15 _ _ [0, 0] (sl2' (H := H.enter) (b := H.next) rfl) (by simp))).2 ?_
    by_cases hd : 300000 < b - a
    · simp only [firstL, w1, hd, go_sem, Nat.reduceEqDiff, Nat.reduceAdd, Nat.reduceLeDiff, Int.reduceEq, Int.reduceLT, Int.reduceLE, Int.reduceAdd, Int.reduceSub, Int.reduceMul, Int.reduceNeg, Int.reduceToNat, Nat.reduceMul]
      exact hQ
    · have hs2 : Sl (H.enter.push ⟨[.int .i64 0, .int .i64 0], 1, false⟩) 2 v l.length (cells2 l) := hs'.keep fun id hid => AH.get_push_lt _ _ hid
      have hv5 := v27 h53 h27 hs2 (right_of e0) burst a b e1 e2 e3 (by omega) e4
      simp only [firstL, w1, hd, ↓hv5.run, go_sem, Nat.reduceEqDiff, Nat.reduceAdd, Nat.reduceLeDiff, Int.reduceEq, Int.reduceLT, Int.reduceLE, Int.reduceAdd, Int.reduceSub, Int.reduceMul, Int.reduceNeg, Int.reduceToNat, Nat.reduceMul]
      exact hQ
  · have hv4 := v26_bad h24 h51 h52 h55 h26 hs' burst a b hok
    by_cases e0 : ratesErr l = 0
    · rw [e0] at hv1 hv2
      rw [if_neg (by omega)] at hv4
      by_cases e1 : 1 ≤ burst ∧ burst ≤ 1000000000
      · by_cases e2 : 0 ≤ a ∧ a ≤ 1099511627776
        · have e3 : ¬ (a ≤ b ∧ b ≤ 1099511627776) := fun h => hok ⟨e0, e1, e2.1, h.1, h.2⟩
          simp only [↓hv1.run, ↓hv2.run, ↓hv3.run, ↓hv4.run, ↓(v17 h17 _ _ _ _).run, ↓(v16b h16 _ _ _).run, e1, e2, e3, go_sem, Nat.reduceEqDiff, Nat.reduceAdd, Nat.reduceLeDiff, Int.reduceEq, Int.reduceLT, Int.reduceLE, Int.reduceAdd, Int.reduceSub, Int.reduceMul, Int.reduceNeg, Int.reduceToNat, Nat.reduceMul]
          refine (Val.run (v15 h15 _ _ [0, 7] (sl2' (H := H.enter) (b := H.next) rfl) (by simp))).2 ?_
          simp only [firstL, go_sem, Nat.reduceEqDiff, Nat.reduceAdd, Nat.reduceLeDiff, Int.reduceEq, Int.reduceLT, Int.reduceLE, Int.reduceAdd, Int.reduceSub, Int.reduceMul, Int.reduceNeg, Int.reduceToNat, Nat.reduceMul]
          exact hQ
        · simp only [↓hv1.run, ↓hv2.run, ↓hv3.run, ↓hv4.run, ↓(v17 h17 _ _ _ _).run, ↓(v16b h16 _ _ _).run, e1, e2, go_sem, Nat.reduceEqDiff, Nat.reduceAdd, Nat.reduceLeDiff, Int.reduceEq, Int.reduceLT, Int.reduceLE, Int.reduceAdd, Int.reduceSub, Int.reduceMul, Int.reduceNeg, Int.reduceToNat, Nat.reduceMul]
          refine (Val.run (v15 h15 _ _ [0, 7] (sl2' (H := H.enter) (b := H.next) rfl) (by simp))).2 ?_
          simp only [firstL, go_sem, Nat.reduceEqDiff, Nat.reduceAdd, Nat.reduceLeDiff, Int.reduceEq, Int.reduceLT, Int.reduceLE, Int.reduceAdd, Int.reduceSub, Int.reduceMul, Int.reduceNeg, Int.reduceToNat, Nat.reduceMul]
          exact hQ
      · simp only [↓hv1.run, ↓hv2.run, ↓hv3.run, ↓hv4.run, ↓(v17 h17 _ _ _ _).run, ↓(v16b h16 _ _ _).run, e1, go_sem, Nat.reduceEqDiff, Nat.reduceAdd, Nat.reduceLeDiff, Int.reduceEq, Int.reduceLT, Int.reduceLE, Int.reduceAdd, Int.reduceSub, Int.reduceMul, Int.reduceNeg, Int.reduceToNat, Nat.reduceMul]
        refine (Val.run (v15 h15 _ _ [0, 7] (sl2' (H := H.enter) (b := H.next) rfl) (by simp))).2 ?_
        simp only [firstL, go_sem, Nat.reduceEqDiff, Nat.reduceAdd, Nat.reduceLeDiff, Int.reduceEq, Int.reduceLT, Int.reduceLE, Int.reduceAdd, Int.reduceSub, Int.reduceMul, Int.reduceNeg, Int.reduceToNat, Nat.reduceMul]
        exact hQ
    · rw [if_pos e0] at hv4
      by_cases e1 : 1 ≤ burst ∧ burst ≤ 1000000000
      · by_cases e2 : 0 ≤ a ∧ a ≤ 1099511627776
        · by_cases e3 : a ≤ b ∧ b ≤ 1099511627776
          · simp only [↓hv1.run, ↓hv2.run, ↓hv3.run, ↓hv4.run, ↓(v17 h17 _ _ _ _).run, ↓(v16b h16 _ _ _).run, e0, e1, e2, e3, go_sem, Nat.reduceEqDiff, Nat.reduceAdd, Nat.reduceLeDiff, Int.reduceEq, Int.reduceLT, Int.reduceLE, Int.reduceAdd, Int.reduceSub, Int.reduceMul, Int.reduceNeg, Int.reduceToNat, Nat.reduceMul]
            refine (Val.run (v15 h15 _ _ [ratesErr l, 0] (sl2' (H := H.enter) (b := H.next) rfl) (by simp))).2 ?_
            simp only [firstL, e0, go_sem, Nat.reduceEqDiff, Nat.reduceAdd, Nat.reduceLeDiff, Int.reduceEq, Int.reduceLT, Int.reduceLE, Int.reduceAdd, Int.reduceSub, Int.reduceMul, Int.reduceNeg, Int.reduceToNat, Nat.reduceMul]
            exact hQ
          · simp only [↓hv1.run, ↓hv2.run, ↓hv3.run, ↓hv4.run, ↓(v17 h17 _ _ _ _).run, ↓(v16b h16 _ _ _).run, e0, e1, e2, e3, go_sem, Nat.reduceEqDiff, Nat.reduceAdd, Nat.reduceLeDiff, Int.reduceEq, Int.reduceLT, Int.reduceLE, Int.reduceAdd, Int.reduceSub, Int.reduceMul, Int.reduceNeg, Int.reduceToNat, Nat.reduceMul]
            refine (Val.run (v15 h15 _ _ [ratesErr l, 7] (sl2' (H := H.enter) (b := H.next) rfl) (by simp))).2 ?_
            simp only [firstL, e0, go_sem, Nat.reduceEqDiff, Nat.reduceAdd, Nat.reduceLeDiff, Int.reduceEq, Int.reduceLT, Int.reduceLE, Int.reduceAdd, Int.reduceSub, Int.reduceMul, Int.reduceNeg, Int.reduceToNat, Nat.reduceMul]
            exact hQ
        · simp only [↓hv1.run, ↓hv2.run, ↓hv3.run, ↓hv4.run, ↓(v17 h17 _ _ _ _).run, ↓(v16b h16 _ _ _).run, e0, e1, e2, go_sem, Nat.reduceEqDiff, Nat.reduceAdd, Nat.reduceLeDiff, Int.reduceEq, Int.reduceLT, Int.reduceLE, Int.reduceAdd, Int.reduceSub, Int.reduceMul, Int.reduceNeg, Int.reduceToNat, Nat.reduceMul]
          refine (Val.run (v15 h15 _ _ [ratesErr l, 7] (sl2' (H := H.enter) (b := H.next) rfl) (by simp))).2 ?_
          simp only [firstL, e0, go_sem, Nat.reduceEqDiff, Nat.reduceAdd, Nat.reduceLeDiff, Int.reduceEq, Int.reduceLT, Int.reduceLE, Int.reduceAdd, Int.reduceSub, Int.reduceMul, Int.reduceNeg, Int.reduceToNat, Nat.reduceMul]
          exact hQ
      · simp only [↓hv1.run, ↓hv2.run, ↓hv3.run, ↓hv4.run, ↓(v17 h17 _ _ _ _).run, ↓(v16b h16 _ _ _).run, e0, e1, go_sem, Nat.reduceEqDiff, Nat.reduceAdd, Nat.reduceLeDiff, Int.reduceEq, Int.reduceLT, Int.reduceLE, Int.reduceAdd, Int.reduceSub, Int.reduceMul, Int.reduceNeg, Int.reduceToNat, Nat.reduceMul]
        refine (Val.run (v15 h15 _ _ [ratesErr l, 7] (sl2' (H := H.enter) (b := H.next) rfl) (by simp))).2 ?_
        simp only [firstL, e0, go_sem, Nat.reduceEqDiff, Nat.reduceAdd, Nat.reduceLeDiff, Int.reduceEq, Int.reduceLT, Int.reduceLE, Int.reduceAdd, Int.reduceSub, Int.reduceMul, Int.reduceNeg, Int.reduceToNat, Nat.reduceMul]
        exact hQ
end
end Go.Proofs.Ytidpkoaomfbljaa.AM
