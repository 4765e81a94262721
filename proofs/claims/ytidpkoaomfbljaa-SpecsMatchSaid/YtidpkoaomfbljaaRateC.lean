import Derived.Test.YtidpkoaomfbljaaRateB
namespace Go.Proofs.Ytidpkoaomfbljaa.AM
open Go
set_option linter.all false
variable {tbl : Tbl} [hT : TMono tbl]

def rEnd (sec day : Int) : List (Int × Int) → Int → Int × Int
  | [], e => (0, e)
  | p :: r, e => if p.1 ≤ sec then (p.2, e) else rEnd sec day r (day + p.1 * 1000)
def dayOf (t : Int) : Int := t - t % 86400000
theorem v55 (h55 : tbl 55 = some (.code m55)) {H : AH} {v : Value} {l : List (Int × Int)} (hs : Sl H 2 v l.length (cells2 l)) (hn : l.length ≤ 24) (hr1 : ∀ p ∈ l, 0 ≤ p.1 ∧ p.1 ≤ 86399) (t : Int) (ht : 0 ≤ t ∧ t ≤ 1099511627776) :
    Val tbl 55 [v, .int .i64 t] H (.tuple #[.int .i64 (rEnd (secOf t) (dayOf t) l.reverse (dayOf t + 86400000)).1, .int .i64 (rEnd (secOf t) (dayOf t) l.reverse (dayOf t + 86400000)).2]) H := by
  refine Val.of_all fun Q hQ => ?_
  obtain ⟨ad, cp, hv⟩ := hs.shape
  subst hv
  rw [rn_fun h55, k55]
  have w0 := w64 (x := secOf t) (by unfold secOf; omega) (by unfold secOf; omega)
  have m0 : t.tmod 86400000 = t % 86400000 := Int.tmod_eq_emod_of_nonneg ht.1
  have m1 : t - t % 86400000 = dayOf t := rfl
  have m2 : (t % 86400000).tdiv 1000 = secOf t := by rw [← m0]; exact sec_eq ht.1
  have hday : 0 ≤ dayOf t ∧ dayOf t ≤ 1099511627776 := by unfold dayOf; omega
  have w1 := w64 (x := dayOf t) (by omega) (by omega)
  have w2 := w64 (x := dayOf t + 86400000) (by omega) (by omega)
  have w3 := w64 (x := (l.length : Int) - 1) (by omega) (by omega)
  simp only [m0, m1, m2, w0, w1, w2, w3, go_sem, Nat.reduceEqDiff, Nat.reduceAdd, Nat.reduceLeDiff, Int.reduceEq, Int.reduceLT, Int.reduceLE, Int.reduceAdd, Int.reduceSub, Int.reduceMul, Int.reduceNeg, Int.reduceToNat, Nat.reduceMul]
  refine rn_loop (fun m f H' => H' = H.enter ∧ ∃ (k : Nat) (en : Int), k ≤ l.length ∧ m = k ∧ f 0 = .slice ad l.length cp ∧ f 5 = .int .i64 en ∧ f 6 = .int .i64 (dayOf t) ∧ f 7 = .int .i64 (secOf t) ∧ f 8 = .int .i64 ((k : Int) - 1) ∧ rEnd (secOf t) (dayOf t) (l.take k).reverse en = rEnd (secOf t) (dayOf t) l.reverse (dayOf t + 86400000)) ?_ (n := l.length)
    ⟨rfl, l.length, dayOf t + 86400000, by omega, rfl, by simp only [go_sem, Nat.reduceEqDiff, Nat.reduceAdd, Nat.reduceLeDiff, Int.reduceEq, Int.reduceLT, Int.reduceLE, Int.reduceAdd, Int.reduceSub, Int.reduceMul, Int.reduceNeg, Int.reduceToNat, Nat.reduceMul], by simp only [go_sem, Nat.reduceEqDiff, Nat.reduceAdd, Nat.reduceLeDiff, Int.reduceEq, Int.reduceLT, Int.reduceLE, Int.reduceAdd, Int.reduceSub, Int.reduceMul, Int.reduceNeg, Int.reduceToNat, Nat.reduceMul], by simp only [go_sem, Nat.reduceEqDiff, Nat.reduceAdd, Nat.reduceLeDiff, Int.reduceEq, Int.reduceLT, Int.reduceLE, Int.reduceAdd, Int.reduceSub, Int.reduceMul, Int.reduceNeg, Int.reduceToNat, Nat.reduceMul], by simp only [go_sem, Nat.reduceEqDiff, Nat.reduceAdd, Nat.reduceLeDiff, Int.reduceEq, Int.reduceLT, Int.reduceLE, Int.reduceAdd, Int.reduceSub, Int.reduceMul, Int.reduceNeg, Int.reduceToNat, Nat.reduceMul], by simp only [go_sem, Nat.reduceEqDiff, Nat.reduceAdd, Nat.reduceLeDiff, Int.reduceEq, Int.reduceLT, Int.reduceLE, Int.reduceAdd, Int.reduceSub, Int.reduceMul, Int.reduceNeg, Int.reduceToNat, Nat.reduceMul], by rw [List.take_length]⟩
  rintro m f H' ⟨rfl, k, en, hk, rfl, f0, f5, f6, f7, f8, hr⟩
  simp only [f0, f5, f6, f7, f8, go_sem, Nat.reduceEqDiff, Nat.reduceAdd, Nat.reduceLeDiff, Int.reduceEq, Int.reduceLT, Int.reduceLE, Int.reduceAdd, Int.reduceSub, Int.reduceMul, Int.reduceNeg, Int.reduceToNat, Nat.reduceMul]
  refine iteP_intro ?_ ?_ <;> intro hlt
  · obtain ⟨i, rfl⟩ : ∃ i, m = i + 1 := ⟨m - 1, by omega⟩
    have hi : i < l.length := by omega
    have e1 : ((i + 1 : Nat) : Int) - 1 = (i : Int) := by omega
    rw [e1] at f8 hlt
    have htk : (l.take (i + 1)).reverse = l[i] :: (l.take i).reverse := by rw [List.take_succ_eq_append_getElem hi, List.reverse_append]; rfl
    rw [htk] at hr
    simp only [rEnd] at hr
    simp only [f0, f5, f6, f7, f8, go_sem, Nat.reduceEqDiff, Nat.reduceAdd, Nat.reduceLeDiff, Int.reduceEq, Int.reduceLT, Int.reduceLE, Int.reduceAdd, Int.reduceSub, Int.reduceMul, Int.reduceNeg, Int.reduceToNat, Nat.reduceMul]
    refine hs.at_ hi fun q hq1 hq2 => ?_
    rw [cells2_at _ _ hi] at hq2
    obtain ⟨g1, g2⟩ := ldcB_two hq2
    simp only [f0, f5, f6, f7, f8, g1, addA, Nat.add_zero, go_sem, Nat.reduceEqDiff, Nat.reduceAdd, Nat.reduceLeDiff, Int.reduceEq, Int.reduceLT, Int.reduceLE, Int.reduceAdd, Int.reduceSub, Int.reduceMul, Int.reduceNeg, Int.reduceToNat, Nat.reduceMul]
    refine iteP_intro ?_ ?_ <;> intro hz
    · rw [if_pos hz] at hr
      rw [← hr] at hQ
      simp only [f0, f5, f6, f7, f8, g1, go_sem, Nat.reduceEqDiff, Nat.reduceAdd, Nat.reduceLeDiff, Int.reduceEq, Int.reduceLT, Int.reduceLE, Int.reduceAdd, Int.reduceSub, Int.reduceMul, Int.reduceNeg, Int.reduceToNat, Nat.reduceMul]
      refine hs.at_ hi fun q2 hq3 hq4 => ?_
      rw [cells2_at _ _ hi] at hq4
      obtain ⟨g3, g4⟩ := ldcB_two hq4
      simp only [f0, f5, f6, f7, f8, g4, addA, Nat.add_zero, go_sem, Nat.reduceEqDiff, Nat.reduceAdd, Nat.reduceLeDiff, Int.reduceEq, Int.reduceLT, Int.reduceLE, Int.reduceAdd, Int.reduceSub, Int.reduceMul, Int.reduceNeg, Int.reduceToNat, Nat.reduceMul]
      exact hQ
    · rw [if_neg hz] at hr
      have hri := hr1 l[i] (List.getElem_mem hi)
      have w4 := w64 (x := l[i].1 * 1000) (by omega) (by omega)
      have w5 := w64 (x := dayOf t + l[i].1 * 1000) (by omega) (by omega)
      have w6 := w64 (x := (i : Int) - 1) (by omega) (by omega)
      simp only [f0, f5, f6, f7, f8, g1, go_sem, Nat.reduceEqDiff, Nat.reduceAdd, Nat.reduceLeDiff, Int.reduceEq, Int.reduceLT, Int.reduceLE, Int.reduceAdd, Int.reduceSub, Int.reduceMul, Int.reduceNeg, Int.reduceToNat, Nat.reduceMul]
      refine hs.at_ hi fun q2 hq3 hq4 => ?_
      rw [cells2_at _ _ hi] at hq4
      obtain ⟨g3, g4⟩ := ldcB_two hq4
      simp only [f0, f5, f6, f7, f8, g3, w4, w5, w6, addA, Nat.add_zero, go_sem, Nat.reduceEqDiff, Nat.reduceAdd, Nat.reduceLeDiff, Int.reduceEq, Int.reduceLT, Int.reduceLE, Int.reduceAdd, Int.reduceSub, Int.reduceMul, Int.reduceNeg, Int.reduceToNat, Nat.reduceMul]
      exact ⟨i, by omega, rfl, i, dayOf t + l[i].1 * 1000, by omega, rfl, by simp only [f0, go_sem, Nat.reduceEqDiff, Nat.reduceAdd, Nat.reduceLeDiff, Int.reduceEq, Int.reduceLT, Int.reduceLE, Int.reduceAdd, Int.reduceSub, Int.reduceMul, Int.reduceNeg, Int.reduceToNat, Nat.reduceMul], by simp only [go_sem, Nat.reduceEqDiff, Nat.reduceAdd, Nat.reduceLeDiff, Int.reduceEq, Int.reduceLT, Int.reduceLE, Int.reduceAdd, Int.reduceSub, Int.reduceMul, Int.reduceNeg, Int.reduceToNat, Nat.reduceMul], by simp only [f6, go_sem, Nat.reduceEqDiff, Nat.reduceAdd, Nat.reduceLeDiff, Int.reduceEq, Int.reduceLT, Int.reduceLE, Int.reduceAdd, Int.reduceSub, Int.reduceMul, Int.reduceNeg, Int.reduceToNat, Nat.reduceMul], by simp only [f7, go_sem, Nat.reduceEqDiff, Nat.reduceAdd, Nat.reduceLeDiff, Int.reduceEq, Int.reduceLT, Int.reduceLE, Int.reduceAdd, Int.reduceSub, Int.reduceMul, Int.reduceNeg, Int.reduceToNat, Nat.reduceMul], by simp only [go_sem, Nat.reduceEqDiff, Nat.reduceAdd, Nat.reduceLeDiff, Int.reduceEq, Int.reduceLT, Int.reduceLE, Int.reduceAdd, Int.reduceSub, Int.reduceMul, Int.reduceNeg, Int.reduceToNat, Nat.reduceMul], hr⟩
  · have hk0 : m = 0 := by omega
    subst hk0
    simp only [List.take_zero, List.reverse_nil, rEnd] at hr
    rw [← hr] at hQ
    simp only [f0, f5, f6, f7, f8, go_sem, Nat.reduceEqDiff, Nat.reduceAdd, Nat.reduceLeDiff, Int.reduceEq, Int.reduceLT, Int.reduceLE, Int.reduceAdd, Int.reduceSub, Int.reduceMul, Int.reduceNeg, Int.reduceToNat, Nat.reduceMul]
    exact hQ
end Go.Proofs.Ytidpkoaomfbljaa.AM
