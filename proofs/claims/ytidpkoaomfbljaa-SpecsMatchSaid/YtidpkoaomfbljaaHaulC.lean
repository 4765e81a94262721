import Derived.Test.YtidpkoaomfbljaaHaulB
namespace Go.Proofs.Ytidpkoaomfbljaa.AM
open Go
set_option linter.all false
variable {tbl : Tbl} [hT : TMono tbl]

theorem Own.mkH {base : Nat} {H : AH} {es n es' n' : Nat} {v : Value} {l l' : List Value} (h : Own base H es v n l) : Own base (mkH H es' n' l') es v n l := by
  unfold AM.mkH
  split
  · exact h
  · exact h.push _
theorem sl2 {H : AH} {x y : Int} {c : Nat} : Sl (H.push ⟨[.int .i64 x, .int .i64 y], 1, false⟩) 1 (.slice (some ⟨H.next, 0, none⟩) 2 c) 2 ([x, y].map I64) := by
  refine .inr ⟨_, _, rfl, ?_⟩
  simp [ldc_eq, ldcB_some, gt_push, I64]
theorem sl2' {H : AH} {x y : Int} {b c : Nat} (hb : b = H.next) : Sl (H.push ⟨[.int .i64 x, .int .i64 y], 1, false⟩) 1 (.slice (some ⟨b, 0, none⟩) 2 c) 2 ([x, y].map I64) := by
  subst hb
  exact sl2
theorem v16b (h16 : tbl 16 = some (.code m16)) (b : Bool) (e : Int) (H : AH) : Val tbl 16 [.bool b, .int .i64 e] H (.int .i64 (if b = true then e else 0)) H := by
  have := v16 h16 (b = true) e H
  simpa only [Bool.decide_eq_true] using this
theorem ints_len (l : List Int) : (l.map I64).length = l.length * 1 := by simp
theorem v11' (h47 : tbl 47 = some (.code m47)) (h11 : tbl 11 = some (.code m11)) (a b c d e : Int) (H : AH) : Val tbl 11 [.agg #[.int .i64 a, .int .i64 b, .int .i64 c, .int .i64 d, .int .i64 e]] H (.int .i64 (if okB a b c d e then 0 else 7)) H := v11 h47 h11 a b c d e H
section
variable (h47 : tbl 47 = some (.code m47)) (h11 : tbl 11 = some (.code m11)) (h48 : tbl 48 = some (.code m48)) (h68 : tbl 68 = some (.code m68)) (h49 : tbl 49 = some (.code m49)) (h12 : tbl 12 = some (.code m12))
include h47 h11 h48 h68 h49 h12
theorem v12_ok (a b c j e s : Int) (hok : okB a b c j e) (hs : 0 ≤ s ∧ s ≤ 2147483647) (H : AH) : Val tbl 12 [.agg #[.int .i64 a, .int .i64 b, .int .i64 c, .int .i64 j, .int .i64 e], .int .i64 s] H
    (.tuple #[mkS H (e - 1).toNat, .int .i64 0]) (mkH H 1 (e - 1).toNat ((delL b c j (e - 1).toNat a s).map I64)) := by
  refine Val.of_all fun Q hQ => ?_
  rw [rn_fun h12, k12]
  simp only [↓(v11' h47 h11 _ _ _ _ _ _).run, ↓(v48 h48 _ _).run, ↓(v49 h68 h49 _ _ _ _ _ _ hok hs _).run, hok, hs, go_sem, Nat.reduceEqDiff, Nat.reduceAdd, Nat.reduceLeDiff, Int.reduceEq, Int.reduceLT, Int.reduceLE, Int.reduceAdd, Int.reduceSub, Int.reduceMul, Int.reduceNeg, Int.reduceToNat, Nat.reduceMul]
  rw [back_own2 (own_mk (by rw [ints_len, delL_len])) (by simp only [go_sem, Nat.reduceEqDiff, Nat.reduceAdd, Nat.reduceLeDiff, Int.reduceEq, Int.reduceLT, Int.reduceLE, Int.reduceAdd, Int.reduceSub, Int.reduceMul, Int.reduceNeg, Int.reduceToNat, Nat.reduceMul] <;> omega) (by rw [mkH_low]; simp only [go_sem, Nat.reduceEqDiff, Nat.reduceAdd, Nat.reduceLeDiff, Int.reduceEq, Int.reduceLT, Int.reduceLE, Int.reduceAdd, Int.reduceSub, Int.reduceMul, Int.reduceNeg, Int.reduceToNat, Nat.reduceMul]; omega) (p1_ints _) rfl]
  exact hQ
theorem v12_bad (a b c j e s : Int) (hok : ¬ (okB a b c j e ∧ (0 ≤ s ∧ s ≤ 2147483647))) (H : AH) : Val tbl 12 [.agg #[.int .i64 a, .int .i64 b, .int .i64 c, .int .i64 j, .int .i64 e], .int .i64 s] H
    (.tuple #[.slice none 0 0, .int .i64 7]) H := by
  refine Val.of_all fun Q hQ => ?_
  rw [rn_fun h12, k12]
  by_cases h1 : okB a b c j e
  · have h2 : ¬ (0 ≤ s ∧ s ≤ 2147483647) := fun h => hok ⟨h1, h⟩
    simp only [↓(v11' h47 h11 _ _ _ _ _ _).run, ↓(v48 h48 _ _).run, h1, h2, go_sem, Nat.reduceEqDiff, Nat.reduceAdd, Nat.reduceLeDiff, Int.reduceEq, Int.reduceLT, Int.reduceLE, Int.reduceAdd, Int.reduceSub, Int.reduceMul, Int.reduceNeg, Int.reduceToNat, Nat.reduceMul]
    exact hQ
  · simp only [↓(v11' h47 h11 _ _ _ _ _ _).run, ↓(v48 h48 _ _).run, h1, go_sem, Nat.reduceEqDiff, Nat.reduceAdd, Nat.reduceLeDiff, Int.reduceEq, Int.reduceLT, Int.reduceLE, Int.reduceAdd, Int.reduceSub, Int.reduceMul, Int.reduceNeg, Int.reduceToNat, Nat.reduceMul]
    exact hQ
variable (h14 : tbl 14 = some (.code m14)) (h18 : tbl 18 = some (.code m18))
include h14 h18
theorem v14 (H : AH) : Val tbl 14 [] H (.bool true) H := by
  refine Val.of_all fun Q hQ => ?_
  rw [rn_fun h14, k14]
  have h := v12_ok h47 h11 h48 h68 h49 h12 1 10 2 0 3 0 (by decide) (by decide) H.enter
  have e1 : (delL 10 2 0 ((3 : Int) - 1).toNat 1 0) = [1, 2] := by decide
  rw [e1] at h
  have e2 : mkS H.enter ((3 : Int) - 1).toNat = .slice (some ⟨H.next, 0, none⟩) 2 2 := rfl
  have e3 : mkH H.enter 1 ((3 : Int) - 1).toNat ([1, 2].map I64) = H.enter.push ⟨[.int .i64 1, .int .i64 2], 1, false⟩ := rfl
  rw [e2, e3] at h
  simp only [↓h.run, go_sem, Nat.reduceEqDiff, Nat.reduceAdd, Nat.reduceLeDiff, Int.reduceEq, Int.reduceLT, Int.reduceLE, Int.reduceAdd, Int.reduceSub, Int.reduceMul, Int.reduceNeg, Int.reduceToNat, Nat.reduceMul]
  refine (Val.run (v18 h18 _ (.slice (some ⟨H.next, 0, none⟩) 2 2) (.slice (some ⟨H.next + 1, 0, none⟩) 2 2) [1, 2] [1, 2] (.inr ⟨_, _, rfl, ?_⟩) (.inr ⟨_, _, rfl, ?_⟩) (by decide))).2 ?_
  · simp [ldc_eq, ldcB_some, gt_push, AH.next_push, nx_enter, I64]
  · simp [ldc_eq, ldcB_some, gt_push, AH.next_push, nx_enter, I64]
  · simp only [go_sem, Nat.reduceEqDiff, Nat.reduceAdd, Nat.reduceLeDiff, Int.reduceEq, Int.reduceLT, Int.reduceLE, Int.reduceAdd, Int.reduceSub, Int.reduceMul, Int.reduceNeg, Int.reduceToNat, Nat.reduceMul]
    exact hQ
variable (h3 : tbl 3 = some (.code m3)) (h13 : tbl 13 = some (.code m13)) (h15 : tbl 15 = some (.code m15)) (h16 : tbl 16 = some (.code m16)) (h17 : tbl 17 = some (.code m17)) (h19 : tbl 19 = some (.code m19)) (h50 : tbl 50 = some (.code m50))
include h3 h13 h15 h16 h17 h19 h50
theorem v3 (a b c j e s : Int) (H : AH) : Val tbl 3 [.agg #[.int .i64 a, .int .i64 b, .int .i64 c, .int .i64 j, .int .i64 e], .int .i64 s] H (.bool true) H := by
  refine Val.of_all fun Q hQ => ?_
  rw [rn_fun h3, k3]
  by_cases hok : okB a b c j e ∧ (0 ≤ s ∧ s ≤ 2147483647)
  · obtain ⟨hok, hs⟩ := hok
    obtain ⟨H1, hH1⟩ : ∃ H1, H1 = mkH (H.enter.push ⟨[.int .i64 a, .int .i64 b, .int .i64 c, .int .i64 j, .int .i64 e], 1, false⟩) 1 (e - 1).toNat ((delL b c j (e - 1).toNat a s).map I64) := ⟨_, rfl⟩
    obtain ⟨v1, hv1⟩ : ∃ v1, v1 = mkS (H.enter.push ⟨[.int .i64 a, .int .i64 b, .int .i64 c, .int .i64 j, .int .i64 e], 1, false⟩) (e - 1).toNat := ⟨_, rfl⟩
    have own1 := own_mk (H := H.enter.push ⟨[.int .i64 a, .int .i64 b, .int .i64 c, .int .i64 j, .int .i64 e], 1, false⟩) (es := 1) (n := (e - 1).toNat) (l := (delL b c j (e - 1).toNat a s).map I64) (by rw [ints_len, delL_len])
    have g1 : H1.get H.next = some (box5 a b c j e) := by
      rw [hH1, mkH_get (by rw [AH.next_push, nx_enter]; omega), gt_push, nx_enter, if_pos rfl]; rfl
    have n1 : H.next + 1 ≤ H1.next := by
      have := mkH_next (H := H.enter.push ⟨[.int .i64 a, .int .i64 b, .int .i64 c, .int .i64 j, .int .i64 e], 1, false⟩) (es := 1) (n := (e - 1).toNat) (l := (delL b c j (e - 1).toNat a s).map I64)
      rw [AH.next_push, nx_enter] at this
      rw [hH1]; exact this
    have l1 : H1.low = H.next := by rw [hH1, mkH_low]; rfl
    rw [← hH1, ← hv1] at own1
    have ne1 : ¬ H.next = H1.next := by omega
    have lt1 : ¬ H1.low < H.next := by omega
    simp only [↓(v11' h47 h11 _ _ _ _ _ _).run, ↓(v12_ok h47 h11 h48 h68 h49 h12 _ _ _ _ _ _ hok hs _).run, ↓(v13 h13 _ _ _ _ _ _).run, ↓(v14 h47 h11 h48 h68 h49 h12 h14 h18 _).run, ↓(v17 h17 _ _ _ _).run, ↓(v16b h16 _ _ _).run, hok, hs, ← hH1, ← hv1, g1, ne1, box5, go_sem, Nat.reduceEqDiff, Nat.reduceAdd, Nat.reduceLeDiff, Int.reduceEq, Int.reduceLT, Int.reduceLE, Int.reduceAdd, Int.reduceSub, Int.reduceMul, Int.reduceNeg, Int.reduceToNat, Nat.reduceMul]
    refine (Val.run (v15 h15 _ (.slice (some ⟨H1.next, 0, none⟩) 2 2) [0, 0] sl2 (by decide))).2 ?_
    simp only [firstL, ↓(v19 h50 h19 _ _ _ _ _ _ hok hs _).run, hok, hs, g1, ne1, box5, go_sem, Nat.reduceEqDiff, Nat.reduceAdd, Nat.reduceLeDiff, Int.reduceEq, Int.reduceLT, Int.reduceLE, Int.reduceAdd, Int.reduceSub, Int.reduceMul, Int.reduceNeg, Int.reduceToNat, Nat.reduceMul]
    have hLR : delR b c j (e - 1).toNat a s = delL b c j (e - 1).toNat a s := by
      obtain ⟨k1, k2, k3, k4, k5⟩ := hok
      rw [delR_eq ⟨by omega, k2.2⟩ k3.1 _ _ _ k1.1, if_neg (by omega)]
    have slL := ((own1.push ⟨[.int .i64 0, .int .i64 0], 1, false⟩).mkH (es' := 1) (n' := (e - 1).toNat) (l' := (delR b c j (e - 1).toNat a s).map I64)).sl
    have slR := (own_mk (H := H1.push ⟨[.int .i64 0, .int .i64 0], 1, false⟩) (es := 1) (n := (e - 1).toNat) (l := (delR b c j (e - 1).toNat a s).map I64) (by rw [ints_len, delR_len])).sl
    have hnn : (e - 1).toNat < 1000000000 := by
      obtain ⟨k1, k2, k3, k4, k5⟩ := hok
      omega
    refine (Val.run (v18 h18 _ v1 _ (delL b c j (e - 1).toNat a s) (delR b c j (e - 1).toNat a s) (by rw [delL_len]; exact slL) (by rw [delR_len]; exact slR) (by rw [delL_len]; exact hnn))).2 ?_
    simp only [hLR, mkH_low, l1, go_sem, Nat.reduceEqDiff, Nat.reduceAdd, Nat.reduceLeDiff, Int.reduceEq, Int.reduceLT, Int.reduceLE, Int.reduceAdd, Int.reduceSub, Int.reduceMul, Int.reduceNeg, Int.reduceToNat, Nat.reduceMul]
    exact hQ
  · by_cases h1 : okB a b c j e
    · have h2 : ¬ (0 ≤ s ∧ s ≤ 2147483647) := fun h => hok ⟨h1, h⟩
      simp only [↓(v11' h47 h11 _ _ _ _ _ _).run, ↓(v12_bad h47 h11 h48 h68 h49 h12 _ _ _ _ _ _ hok _).run, ↓(v13 h13 _ _ _ _ _ _).run, ↓(v14 h47 h11 h48 h68 h49 h12 h14 h18 _).run, ↓(v17 h17 _ _ _ _).run, ↓(v16b h16 _ _ _).run, h1, h2, go_sem, Nat.reduceEqDiff, Nat.reduceAdd, Nat.reduceLeDiff, Int.reduceEq, Int.reduceLT, Int.reduceLE, Int.reduceAdd, Int.reduceSub, Int.reduceMul, Int.reduceNeg, Int.reduceToNat, Nat.reduceMul]
      refine (Val.run (v15 h15 _ _ [0, 7] (sl2' (by rw [AH.next_push]; rfl)) (by decide))).2 ?_
      simp only [firstL, go_sem, Nat.reduceEqDiff, Nat.reduceAdd, Nat.reduceLeDiff, Int.reduceEq, Int.reduceLT, Int.reduceLE, Int.reduceAdd, Int.reduceSub, Int.reduceMul, Int.reduceNeg, Int.reduceToNat, Nat.reduceMul]
      exact hQ
    · simp only [↓(v11' h47 h11 _ _ _ _ _ _).run, ↓(v12_bad h47 h11 h48 h68 h49 h12 _ _ _ _ _ _ hok _).run, ↓(v13 h13 _ _ _ _ _ _).run, ↓(v14 h47 h11 h48 h68 h49 h12 h14 h18 _).run, ↓(v17 h17 _ _ _ _).run, ↓(v16b h16 _ _ _).run, h1, go_sem, Nat.reduceEqDiff, Nat.reduceAdd, Nat.reduceLeDiff, Int.reduceEq, Int.reduceLT, Int.reduceLE, Int.reduceAdd, Int.reduceSub, Int.reduceMul, Int.reduceNeg, Int.reduceToNat, Nat.reduceMul]
      by_cases h2 : 0 ≤ s ∧ s ≤ 2147483647
      · simp only [h2, go_sem, Nat.reduceEqDiff, Nat.reduceAdd, Nat.reduceLeDiff, Int.reduceEq, Int.reduceLT, Int.reduceLE, Int.reduceAdd, Int.reduceSub, Int.reduceMul, Int.reduceNeg, Int.reduceToNat, Nat.reduceMul]
        refine (Val.run (v15 h15 _ _ [7, 0] (sl2' (by rw [AH.next_push]; rfl)) (by decide))).2 ?_
        simp only [firstL, go_sem, Nat.reduceEqDiff, Nat.reduceAdd, Nat.reduceLeDiff, Int.reduceEq, Int.reduceLT, Int.reduceLE, Int.reduceAdd, Int.reduceSub, Int.reduceMul, Int.reduceNeg, Int.reduceToNat, Nat.reduceMul]
        exact hQ
      · simp only [h2, go_sem, Nat.reduceEqDiff, Nat.reduceAdd, Nat.reduceLeDiff, Int.reduceEq, Int.reduceLT, Int.reduceLE, Int.reduceAdd, Int.reduceSub, Int.reduceMul, Int.reduceNeg, Int.reduceToNat, Nat.reduceMul]
        refine (Val.run (v15 h15 _ _ [7, 7] (sl2' (by rw [AH.next_push]; rfl)) (by decide))).2 ?_
        simp only [firstL, go_sem, Nat.reduceEqDiff, Nat.reduceAdd, Nat.reduceLeDiff, Int.reduceEq, Int.reduceLT, Int.reduceLE, Int.reduceAdd, Int.reduceSub, Int.reduceMul, Int.reduceNeg, Int.reduceToNat, Nat.reduceMul]
        exact hQ
end
end Go.Proofs.Ytidpkoaomfbljaa.AM
