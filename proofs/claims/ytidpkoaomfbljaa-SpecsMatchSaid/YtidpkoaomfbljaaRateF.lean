import Derived.Test.YtidpkoaomfbljaaRateE
namespace Go.Proofs.Ytidpkoaomfbljaa.AM
open Go
set_option linter.all false
variable {tbl : Tbl} [hT : TMono tbl]

theorem v52 (h55 : tbl 55 = some (.code m55)) (h52 : tbl 52 = some (.code m52)) {H : AH} {v : Value} {l : List (Int × Int)} (hs : Sl H 2 v l.length (cells2 l)) (hl : Right l) (burst a b : Int) (hb : 1 ≤ burst ∧ burst ≤ 1000000000) (ha : 0 ≤ a) (hab : a ≤ b) (hm : b ≤ 1099511627776) :
    Val tbl 52 [v, .int .i64 burst, .int .i64 a, .int .i64 b] H (.int .i64 (allowedV l burst a (b - a).toNat)) H := by
  refine Val.of_all fun Q hQ => ?_
  rw [rn_fun h52, k52]
  simp only [go_sem, Nat.reduceEqDiff, Nat.reduceAdd, Nat.reduceLeDiff, Int.reduceEq, Int.reduceLT, Int.reduceLE, Int.reduceAdd, Int.reduceSub, Int.reduceMul, Int.reduceNeg, Int.reduceToNat, Nat.reduceMul]
  have hs' : Sl H.enter 2 v l.length (cells2 l) := hs
  have v55' := fun (t : Int) (ht : 0 ≤ t ∧ t ≤ 1099511627776) => v55 h55 hs' hl.len hl.from_ t ht
  refine rn_loop (fun m f H' => H' = H.enter ∧ ∃ (t wh rs : Int), a ≤ t ∧ t ≤ b ∧ m = (b - t).toNat ∧ f 0 = v ∧ f 1 = .int .i64 burst ∧ f 3 = .int .i64 b ∧ f 9 = .int .i64 wh ∧ f 10 = .int .i64 rs ∧ f 11 = .int .i64 t ∧ wh * 1000 + rs = sumR l a (t - a).toNat ∧ 0 ≤ rs ∧ rs ≤ 999 * (t - a) ∧ 0 ≤ wh ∧ negAt l a (t - a).toNat = false) ?_ (n := (b - a).toNat)
    ⟨rfl, a, 0, 0, by omega, hab, rfl, by simp only [go_sem, Nat.reduceEqDiff, Nat.reduceAdd, Nat.reduceLeDiff, Int.reduceEq, Int.reduceLT, Int.reduceLE, Int.reduceAdd, Int.reduceSub, Int.reduceMul, Int.reduceNeg, Int.reduceToNat, Nat.reduceMul], by simp only [go_sem, Nat.reduceEqDiff, Nat.reduceAdd, Nat.reduceLeDiff, Int.reduceEq, Int.reduceLT, Int.reduceLE, Int.reduceAdd, Int.reduceSub, Int.reduceMul, Int.reduceNeg, Int.reduceToNat, Nat.reduceMul], by simp only [go_sem, Nat.reduceEqDiff, Nat.reduceAdd, Nat.reduceLeDiff, Int.reduceEq, Int.reduceLT, Int.reduceLE, Int.reduceAdd, Int.reduceSub, Int.reduceMul, Int.reduceNeg, Int.reduceToNat, Nat.reduceMul], by simp only [go_sem, Nat.reduceEqDiff, Nat.reduceAdd, Nat.reduceLeDiff, Int.reduceEq, Int.reduceLT, Int.reduceLE, Int.reduceAdd, Int.reduceSub, Int.reduceMul, Int.reduceNeg, Int.reduceToNat, Nat.reduceMul], by simp only [go_sem, Nat.reduceEqDiff, Nat.reduceAdd, Nat.reduceLeDiff, Int.reduceEq, Int.reduceLT, Int.reduceLE, Int.reduceAdd, Int.reduceSub, Int.reduceMul, Int.reduceNeg, Int.reduceToNat, Nat.reduceMul], by simp only [go_sem, Nat.reduceEqDiff, Nat.reduceAdd, Nat.reduceLeDiff, Int.reduceEq, Int.reduceLT, Int.reduceLE, Int.reduceAdd, Int.reduceSub, Int.reduceMul, Int.reduceNeg, Int.reduceToNat, Nat.reduceMul], by rw [Int.sub_self]; rfl, by omega, by omega, by omega, by rw [Int.sub_self]; rfl⟩
  rintro m f H' ⟨rfl, t, wh, rs, hat, htb, rfl, f0, f1, f3, f9, f10, f11, hsum, hrs, hrs2, hwh, hneg⟩
  obtain ⟨e, he, hte, hed, hconst⟩ := rEnd_law hl (t := t) (by omega)
  have hv := v55' t (by omega)
  rw [he] at hv
  simp only at hv
  have hrr := rate_range hl t
  have hsr := sum_range hl (a := a) (t - a).toNat hneg
  by_cases hn : rate l t = -1
  · simp only [f0, f1, f3, f9, f10, f11, ↓hv.run, hn, go_sem, Nat.reduceEqDiff, Nat.reduceAdd, Nat.reduceLeDiff, Int.reduceEq, Int.reduceLT, Int.reduceLE, Int.reduceAdd, Int.reduceSub, Int.reduceMul, Int.reduceNeg, Int.reduceToNat, Nat.reduceMul]
    have hk : rate l (a + ((t - a).toNat : Nat)) < 0 := by rw [show a + (((t - a).toNat : Nat) : Int) = t by omega]; omega
    rw [allowedV, if_pos (negAt_of hk _ (by omega))] at hQ
    exact hQ
  · obtain ⟨t2, ht2⟩ : ∃ t2, t2 = (if b < e then b else e) := ⟨_, rfl⟩
    have ht2r : t ≤ t2 ∧ t2 ≤ b ∧ t2 ≤ e ∧ (t < b → t < t2) := by rw [ht2]; split <;> omega
    have hday : dayOf t ≤ t := by unfold dayOf; omega
    have hlen : 0 ≤ t2 - t ∧ t2 - t ≤ 86400000 := by omega
    have hgot : 0 ≤ rate l t * (t2 - t) ∧ rate l t * (t2 - t) ≤ 86400000000000000 := by
      refine ⟨Int.mul_nonneg (by omega) hlen.1, ?_⟩
      calc rate l t * (t2 - t) ≤ 1000000000 * (t2 - t) := Int.mul_le_mul_of_nonneg_right hrr.2 hlen.1
        _ ≤ 1000000000 * 86400000 := Int.mul_le_mul_of_nonneg_left hlen.2 (by omega)
    have hseg := seg (l := l) (a := a) (r := rate l t) (k := (t - a).toNat) (t2 - t).toNat (fun i hi => by
      rw [show a + (((t - a).toNat : Nat) : Int) + (i : Int) = t + i by omega]
      exact hconst (t + i) (by omega) (by omega))
    rw [show (t - a).toNat + (t2 - t).toNat = (t2 - a).toNat by omega, show (((t2 - t).toNat : Nat) : Int) = t2 - t by omega] at hseg
    obtain ⟨g1, g2⟩ := hseg
    have g2 := g2 (by omega)
    rw [hneg] at g2
    have q1 : (rate l t * (t2 - t)).tdiv 1000 = rate l t * (t2 - t) / 1000 := Int.tdiv_eq_ediv_of_nonneg hgot.1
    have q2 : (rate l t * (t2 - t)).tmod 1000 = rate l t * (t2 - t) % 1000 := Int.tmod_eq_emod_of_nonneg hgot.1
    have w1 := w64 (x := t2 - t) (by omega) (by omega)
    have w2 := w64 (x := rate l t * (t2 - t)) (by omega) (by omega)
    have w3 := w64 (x := rate l t * (t2 - t) / 1000) (by omega) (by omega)
    have w4 := w64 (x := wh + rate l t * (t2 - t) / 1000) (by omega) (by omega)
    have w5 := w64 (x := rs + rate l t * (t2 - t) % 1000) (by omega) (by omega)
    have hsr2 := sum_range hl (a := a) (t2 - a).toNat g2
    by_cases hend : t2 = b
    · have hv2 := v55' b (by omega)
      obtain ⟨e2, he2, _, _, _⟩ := rEnd_law hl (t := b) (by omega)
      rw [he2] at hv2
      simp only at hv2
      rw [hend] at w1 w2 w3 w4 w5 q1 q2 g1 g2 hsr2 hgot ht2 hlen
      have hsd : 0 ≤ b - a := by omega
      have q3 : (rs + rate l t * (b - t) % 1000).tdiv 1000 = (rs + rate l t * (b - t) % 1000) / 1000 := Int.tdiv_eq_ediv_of_nonneg (by omega)
      have w6 := w64 (x := burst + (wh + rate l t * (b - t) / 1000)) (by omega) (by omega)
      have w7 := w64 (x := (rs + rate l t * (b - t) % 1000) / 1000) (by omega) (by omega)
      have w8 := w64 (x := burst + (wh + rate l t * (b - t) / 1000) + (rs + rate l t * (b - t) % 1000) / 1000) (by omega) (by omega)
      by_cases hn2 : rate l b = -1
      · simp only [f0, f1, f3, f9, f10, f11, ↓hv.run, ↓hv2.run, hn, hn2, ← ht2, w1, w2, w3, w4, w5, q1, q2, go_sem, Nat.reduceEqDiff, Nat.reduceAdd, Nat.reduceLeDiff, Int.reduceEq, Int.reduceLT, Int.reduceLE, Int.reduceAdd, Int.reduceSub, Int.reduceMul, Int.reduceNeg, Int.reduceToNat, Nat.reduceMul]
        have hk : rate l (a + ((b - a).toNat : Nat)) < 0 := by rw [show a + (((b - a).toNat : Nat) : Int) = b by omega]; omega
        rw [allowedV, if_pos (negAt_of hk _ (by omega))] at hQ
        exact hQ
      · have hn3 := rate_range hl b
        have hneg3 : negAt l a ((b - a).toNat + 1) = false := by
          simp only [negAt, g2, Bool.false_or]
          rw [show a + (((b - a).toNat : Nat) : Int) = b by omega]
          exact decide_eq_false (by omega)
        rw [allowedV, hneg3, if_neg (by simp)] at hQ
        simp only [f0, f1, f3, f9, f10, f11, ↓hv.run, ↓hv2.run, hn, hn2, ← ht2, w1, w2, w3, w4, w5, w6, w7, w8, q1, q2, q3, go_sem, Nat.reduceEqDiff, Nat.reduceAdd, Nat.reduceLeDiff, Int.reduceEq, Int.reduceLT, Int.reduceLE, Int.reduceAdd, Int.reduceSub, Int.reduceMul, Int.reduceNeg, Int.reduceToNat, Nat.reduceMul]
        refine leaf hQ ?_ rfl
        congr 1
        rw [g1]
        omega
    · simp only [f0, f1, f3, f9, f10, f11, ↓hv.run, hn, ← ht2, w1, w2, w3, w4, w5, q1, q2, hend, go_sem, Nat.reduceEqDiff, Nat.reduceAdd, Nat.reduceLeDiff, Int.reduceEq, Int.reduceLT, Int.reduceLE, Int.reduceAdd, Int.reduceSub, Int.reduceMul, Int.reduceNeg, Int.reduceToNat, Nat.reduceMul]
      exact ⟨(b - t2).toNat, by omega, rfl, t2, wh + rate l t * (t2 - t) / 1000, rs + rate l t * (t2 - t) % 1000, by omega, by omega, rfl, by simp only [f0, go_sem, Nat.reduceEqDiff, Nat.reduceAdd, Nat.reduceLeDiff, Int.reduceEq, Int.reduceLT, Int.reduceLE, Int.reduceAdd, Int.reduceSub, Int.reduceMul, Int.reduceNeg, Int.reduceToNat, Nat.reduceMul], by simp only [f1, go_sem, Nat.reduceEqDiff, Nat.reduceAdd, Nat.reduceLeDiff, Int.reduceEq, Int.reduceLT, Int.reduceLE, Int.reduceAdd, Int.reduceSub, Int.reduceMul, Int.reduceNeg, Int.reduceToNat, Nat.reduceMul], by simp only [f3, go_sem, Nat.reduceEqDiff, Nat.reduceAdd, Nat.reduceLeDiff, Int.reduceEq, Int.reduceLT, Int.reduceLE, Int.reduceAdd, Int.reduceSub, Int.reduceMul, Int.reduceNeg, Int.reduceToNat, Nat.reduceMul], by simp only [go_sem, Nat.reduceEqDiff, Nat.reduceAdd, Nat.reduceLeDiff, Int.reduceEq, Int.reduceLT, Int.reduceLE, Int.reduceAdd, Int.reduceSub, Int.reduceMul, Int.reduceNeg, Int.reduceToNat, Nat.reduceMul], by simp only [go_sem, Nat.reduceEqDiff, Nat.reduceAdd, Nat.reduceLeDiff, Int.reduceEq, Int.reduceLT, Int.reduceLE, Int.reduceAdd, Int.reduceSub, Int.reduceMul, Int.reduceNeg, Int.reduceToNat, Nat.reduceMul], by simp only [go_sem, Nat.reduceEqDiff, Nat.reduceAdd, Nat.reduceLeDiff, Int.reduceEq, Int.reduceLT, Int.reduceLE, Int.reduceAdd, Int.reduceSub, Int.reduceMul, Int.reduceNeg, Int.reduceToNat, Nat.reduceMul], by rw [g1]; omega, by omega, by omega, by omega, g2⟩
end Go.Proofs.Ytidpkoaomfbljaa.AM
