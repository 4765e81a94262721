import Derived.Test.YtidpkoaomfbljaaRateA
namespace Go.Proofs.Ytidpkoaomfbljaa.AM
open Go
set_option linter.all false
variable {tbl : Tbl} [hT : TMono tbl]

theorem v51 (h24 : tbl 24 = some (.code m24)) (h51 : tbl 51 = some (.code m51)) {H : AH} {v : Value} {l : List (Int × Int)} (hs : Sl H 2 v l.length (cells2 l)) (burst : Int) :
    Val tbl 51 [v, .int .i64 burst] H (.int .i64 (if ratesErr l ≠ 0 then ratesErr l else if 1 ≤ burst ∧ burst ≤ 1000000000 then 0 else 7)) H := by
  refine Val.of_all fun Q hQ => ?_
  rw [rn_fun h51, k51]
  have hs' : Sl H.enter 2 v l.length (cells2 l) := hs
  by_cases h0 : ratesErr l = 0
  · rw [if_neg (by omega)] at hQ
    by_cases hA : burst < 1
    · rw [if_neg (by omega)] at hQ
      simp only [↓(vrates h24 hs').run, h0, hA, go_sem, Nat.reduceEqDiff, Nat.reduceAdd, Nat.reduceLeDiff, Int.reduceEq, Int.reduceLT, Int.reduceLE, Int.reduceAdd, Int.reduceSub, Int.reduceMul, Int.reduceNeg, Int.reduceToNat, Nat.reduceMul]
      exact hQ
    · by_cases hB : 1000000000 < burst
      · rw [if_neg (by omega)] at hQ
        simp only [↓(vrates h24 hs').run, h0, hA, hB, go_sem, Nat.reduceEqDiff, Nat.reduceAdd, Nat.reduceLeDiff, Int.reduceEq, Int.reduceLT, Int.reduceLE, Int.reduceAdd, Int.reduceSub, Int.reduceMul, Int.reduceNeg, Int.reduceToNat, Nat.reduceMul]
        exact hQ
      · rw [if_pos (by omega)] at hQ
        simp only [↓(vrates h24 hs').run, h0, hA, hB, go_sem, Nat.reduceEqDiff, Nat.reduceAdd, Nat.reduceLeDiff, Int.reduceEq, Int.reduceLT, Int.reduceLE, Int.reduceAdd, Int.reduceSub, Int.reduceMul, Int.reduceNeg, Int.reduceToNat, Nat.reduceMul]
        exact hQ
  · rw [if_pos h0] at hQ
    simp only [↓(vrates h24 hs').run, h0, go_sem, Nat.reduceEqDiff, Nat.reduceAdd, Nat.reduceLeDiff, Int.reduceEq, Int.reduceLT, Int.reduceLE, Int.reduceAdd, Int.reduceSub, Int.reduceMul, Int.reduceNeg, Int.reduceToNat, Nat.reduceMul]
    exact hQ
/-- The rate at a second of a day. -/
def rAtL (sec : Int) : List (Int × Int) → Int → Int
  | [], acc => acc
  | p :: r, acc => rAtL sec r (if p.1 ≤ sec then p.2 else acc)
def secOf (t : Int) : Int := t % 86400000 / 1000
theorem sec_eq {t : Int} (h : 0 ≤ t) : (t.tmod 86400000).tdiv 1000 = secOf t := by
  rw [Int.tmod_eq_emod_of_nonneg h, Int.tdiv_eq_ediv_of_nonneg (by omega)]
  rfl
theorem v53 (h53 : tbl 53 = some (.code m53)) {H : AH} {v : Value} {l : List (Int × Int)} (hs : Sl H 2 v l.length (cells2 l)) (hn : l.length ≤ 24) (t : Int) (ht : 0 ≤ t) : Val tbl 53 [v, .int .i64 t] H (.int .i64 (rAtL (secOf t) l 0)) H := by
  refine Val.of_all fun Q hQ => ?_
  obtain ⟨ad, cp, hv⟩ := hs.shape
  subst hv
  rw [rn_fun h53, k53]
  have w0 := w64 (x := secOf t) (by unfold secOf; omega) (by unfold secOf; omega)
  simp only [sec_eq ht, w0, go_sem, Nat.reduceEqDiff, Nat.reduceAdd, Nat.reduceLeDiff, Int.reduceEq, Int.reduceLT, Int.reduceLE, Int.reduceAdd, Int.reduceSub, Int.reduceMul, Int.reduceNeg, Int.reduceToNat, Nat.reduceMul]
  refine rn_loop (fun m f H' => ∃ (i : Nat) (acc : Int), i ≤ l.length ∧ m = l.length - i ∧ f 5 = .int .i64 (secOf t) ∧ f 6 = .int .i64 acc ∧ f 12 = .slice ad l.length cp ∧ f 13 = .int .i64 l.length ∧ f 14 = .int .i64 i ∧ Junk H H' ∧ rAtL (secOf t) (l.drop i) acc = rAtL (secOf t) l 0) ?_ (n := l.length)
    ⟨0, 0, by omega, by omega, by simp only [go_sem, Nat.reduceEqDiff, Nat.reduceAdd, Nat.reduceLeDiff, Int.reduceEq, Int.reduceLT, Int.reduceLE, Int.reduceAdd, Int.reduceSub, Int.reduceMul, Int.reduceNeg, Int.reduceToNat, Nat.reduceMul], by simp only [go_sem, Nat.reduceEqDiff, Nat.reduceAdd, Nat.reduceLeDiff, Int.reduceEq, Int.reduceLT, Int.reduceLE, Int.reduceAdd, Int.reduceSub, Int.reduceMul, Int.reduceNeg, Int.reduceToNat, Nat.reduceMul] <;> rfl, by simp only [go_sem, Nat.reduceEqDiff, Nat.reduceAdd, Nat.reduceLeDiff, Int.reduceEq, Int.reduceLT, Int.reduceLE, Int.reduceAdd, Int.reduceSub, Int.reduceMul, Int.reduceNeg, Int.reduceToNat, Nat.reduceMul], by simp only [go_sem, Nat.reduceEqDiff, Nat.reduceAdd, Nat.reduceLeDiff, Int.reduceEq, Int.reduceLT, Int.reduceLE, Int.reduceAdd, Int.reduceSub, Int.reduceMul, Int.reduceNeg, Int.reduceToNat, Nat.reduceMul], by simp only [go_sem, Nat.reduceEqDiff, Nat.reduceAdd, Nat.reduceLeDiff, Int.reduceEq, Int.reduceLT, Int.reduceLE, Int.reduceAdd, Int.reduceSub, Int.reduceMul, Int.reduceNeg, Int.reduceToNat, Nat.reduceMul] <;> rfl, .enter H, rfl⟩
  rintro m f H' ⟨i, acc, hi, rfl, f5, f6, f12, f13, f14, st, hr⟩
  simp only [f5, f6, f12, f13, f14, go_sem, Nat.reduceEqDiff, Nat.reduceAdd, Nat.reduceLeDiff, Int.reduceEq, Int.reduceLT, Int.reduceLE, Int.reduceAdd, Int.reduceSub, Int.reduceMul, Int.reduceNeg, Int.reduceToNat, Nat.reduceMul]
  refine iteP_intro ?_ ?_ <;> intro hlt
  · simp only [f5, f6, f12, f13, f14, go_sem, Nat.reduceEqDiff, Nat.reduceAdd, Nat.reduceLeDiff, Int.reduceEq, Int.reduceLT, Int.reduceLE, Int.reduceAdd, Int.reduceSub, Int.reduceMul, Int.reduceNeg, Int.reduceToNat, Nat.reduceMul]
    have hi : i < l.length := by omega
    refine (hs.keep st.old).at_ hi fun q hq1 hq2 => ?_
    rw [cells2_at _ _ hi] at hq2
    have hlt2 : H'.next < H'.next + 1 := by omega
    rw [List.drop_eq_getElem_cons hi] at hr
    simp only [rAtL] at hr
    simp only [f5, f6, f12, f13, f14, hq2, stc_eq, stB_some, hlt2, go_sem, Nat.reduceEqDiff, Nat.reduceAdd, Nat.reduceLeDiff, Int.reduceEq, Int.reduceLT, Int.reduceLE, Int.reduceAdd, Int.reduceSub, Int.reduceMul, Int.reduceNeg, Int.reduceToNat, Nat.reduceMul]
    have st2 := st.elem ⟨[.int .i64 0, .int .i64 0], 1, false⟩ ⟨[.int .i64 l[i].1, .int .i64 l[i].2], 1, false⟩
    have g2 : ((H'.push ⟨[.int .i64 0, .int .i64 0], 1, false⟩).set H'.next (some ⟨[.int .i64 l[i].1, .int .i64 l[i].2], 1, false⟩)).get H'.next = some ⟨[.int .i64 l[i].1, .int .i64 l[i].2], 1, false⟩ := AH.get_set_eq _ _ (by rw [AH.next_push]; omega)
    generalize (H'.push ⟨[.int .i64 0, .int .i64 0], 1, false⟩).set H'.next (some ⟨[.int .i64 l[i].1, .int .i64 l[i].2], 1, false⟩) = H2 at st2 g2 ⊢
    have w2 := w64 (x := (i : Int) + 1) (by omega) (by omega)
    simp only [f5, f6, f12, f13, f14, g2, w2, go_sem, Nat.reduceEqDiff, Nat.reduceAdd, Nat.reduceLeDiff, Int.reduceEq, Int.reduceLT, Int.reduceLE, Int.reduceAdd, Int.reduceSub, Int.reduceMul, Int.reduceNeg, Int.reduceToNat, Nat.reduceMul]
    refine iteP_intro ?_ ?_ <;> intro hz
    · rw [if_pos hz] at hr
      simp only [f5, f6, f12, f13, f14, g2, w2, go_sem, Nat.reduceEqDiff, Nat.reduceAdd, Nat.reduceLeDiff, Int.reduceEq, Int.reduceLT, Int.reduceLE, Int.reduceAdd, Int.reduceSub, Int.reduceMul, Int.reduceNeg, Int.reduceToNat, Nat.reduceMul]
      exact ⟨l.length - (i + 1), by omega, i + 1, l[i].2, by omega, rfl, by simp only [f5, go_sem, Nat.reduceEqDiff, Nat.reduceAdd, Nat.reduceLeDiff, Int.reduceEq, Int.reduceLT, Int.reduceLE, Int.reduceAdd, Int.reduceSub, Int.reduceMul, Int.reduceNeg, Int.reduceToNat, Nat.reduceMul], by simp only [go_sem, Nat.reduceEqDiff, Nat.reduceAdd, Nat.reduceLeDiff, Int.reduceEq, Int.reduceLT, Int.reduceLE, Int.reduceAdd, Int.reduceSub, Int.reduceMul, Int.reduceNeg, Int.reduceToNat, Nat.reduceMul], by simp only [f12, go_sem, Nat.reduceEqDiff, Nat.reduceAdd, Nat.reduceLeDiff, Int.reduceEq, Int.reduceLT, Int.reduceLE, Int.reduceAdd, Int.reduceSub, Int.reduceMul, Int.reduceNeg, Int.reduceToNat, Nat.reduceMul], by simp only [f13, go_sem, Nat.reduceEqDiff, Nat.reduceAdd, Nat.reduceLeDiff, Int.reduceEq, Int.reduceLT, Int.reduceLE, Int.reduceAdd, Int.reduceSub, Int.reduceMul, Int.reduceNeg, Int.reduceToNat, Nat.reduceMul], by simp only [go_sem, Nat.reduceEqDiff, Nat.reduceAdd, Nat.reduceLeDiff, Int.reduceEq, Int.reduceLT, Int.reduceLE, Int.reduceAdd, Int.reduceSub, Int.reduceMul, Int.reduceNeg, Int.reduceToNat, Nat.reduceMul] <;> rfl, st2, hr⟩
    · rw [if_neg hz] at hr
      simp only [f5, f6, f12, f13, f14, g2, w2, go_sem, Nat.reduceEqDiff, Nat.reduceAdd, Nat.reduceLeDiff, Int.reduceEq, Int.reduceLT, Int.reduceLE, Int.reduceAdd, Int.reduceSub, Int.reduceMul, Int.reduceNeg, Int.reduceToNat, Nat.reduceMul]
      exact ⟨l.length - (i + 1), by omega, i + 1, acc, by omega, rfl, by simp only [f5, go_sem, Nat.reduceEqDiff, Nat.reduceAdd, Nat.reduceLeDiff, Int.reduceEq, Int.reduceLT, Int.reduceLE, Int.reduceAdd, Int.reduceSub, Int.reduceMul, Int.reduceNeg, Int.reduceToNat, Nat.reduceMul], by simp only [f6, go_sem, Nat.reduceEqDiff, Nat.reduceAdd, Nat.reduceLeDiff, Int.reduceEq, Int.reduceLT, Int.reduceLE, Int.reduceAdd, Int.reduceSub, Int.reduceMul, Int.reduceNeg, Int.reduceToNat, Nat.reduceMul], by simp only [f12, go_sem, Nat.reduceEqDiff, Nat.reduceAdd, Nat.reduceLeDiff, Int.reduceEq, Int.reduceLT, Int.reduceLE, Int.reduceAdd, Int.reduceSub, Int.reduceMul, Int.reduceNeg, Int.reduceToNat, Nat.reduceMul], by simp only [f13, go_sem, Nat.reduceEqDiff, Nat.reduceAdd, Nat.reduceLeDiff, Int.reduceEq, Int.reduceLT, Int.reduceLE, Int.reduceAdd, Int.reduceSub, Int.reduceMul, Int.reduceNeg, Int.reduceToNat, Nat.reduceMul], by simp only [go_sem, Nat.reduceEqDiff, Nat.reduceAdd, Nat.reduceLeDiff, Int.reduceEq, Int.reduceLT, Int.reduceLE, Int.reduceAdd, Int.reduceSub, Int.reduceMul, Int.reduceNeg, Int.reduceToNat, Nat.reduceMul] <;> rfl, st2, hr⟩
  · have hi : i = l.length := by omega
    subst hi
    rw [List.drop_length] at hr
    simp only [rAtL] at hr
    subst hr
    have hnl : ¬ H'.low < H.next := by have := st.low; omega
    simp only [f5, f6, f12, f13, f14, hnl, go_sem, Nat.reduceEqDiff, Nat.reduceAdd, Nat.reduceLeDiff, Int.reduceEq, Int.reduceLT, Int.reduceLE, Int.reduceAdd, Int.reduceSub, Int.reduceMul, Int.reduceNeg, Int.reduceToNat, Nat.reduceMul]
    exact hQ
end Go.Proofs.Ytidpkoaomfbljaa.AM
