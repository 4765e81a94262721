/- Part 6 of the texts that this claim needs. No conditions. -/
import Derived.Test.YtildhljhbbhmmaaCv5
namespace Go.Proofs.Ytildhljhbbhmmaa.AM
open Go
set_option linter.all false
set_option maxRecDepth 10000

theorem xor63u (a b : UInt8) : bitsK .xor .i64 (a.toNat : Int) (b.toNat : Int) = ((a ^^^ b).toNat : Int) := by
  have h1 := UInt8.toNat_lt a
  have h2 := UInt8.toNat_lt b
  rw [xor63 _ _ (by omega) (by omega), UInt8.toNat_xor]
theorem tS_wS (x y : Nat → UInt8) (n : Nat) (z : UInt8) (i : Nat) : vS x y n z (i + 1) = vS x y n z i ^^^ tS x y z i n := by
  rw [tS_eq]; rfl
variable {tbl : Tbl} [hT : TMono tbl]
theorem v101 (h74 : tbl 74 = some (.code m74)) (h101 : tbl 101 = some (.code m101)) (a : UInt8) (ha : a ≠ 0) (H : AH) : Val tbl 101 [.int .i64 (a.toNat : Int)] H (.int .i64 ((gI a).toNat : Int)) H := by
  refine Val.of_all fun Q hQ => ?_
  rw [rn_fun h101, k101]
  have hg := UInt8.toNat_lt (gI a)
  simp only [go_sem, Nat.reduceEqDiff, Nat.reduceAdd, Nat.reduceLeDiff, Int.reduceEq, Int.reduceLT, Int.reduceLE, Int.reduceAdd, Int.reduceSub, Int.reduceMul, Int.reduceNeg, Int.reduceToNat, Nat.reduceMul]
  refine rn_loop (fun m f H' => ∃ (j : Nat), j ≤ (gI a).toNat ∧ m = 256 - j ∧ f 0 = .int .i64 (a.toNat : Int) ∧ f 4 = .int .i64 (j : Int) ∧ H' = H.enter) ?_ (n := 256)
    ⟨0, by omega, rfl, by simp only [go_sem, Nat.reduceEqDiff, Nat.reduceAdd, Nat.reduceLeDiff, Int.reduceEq, Int.reduceLT, Int.reduceLE, Int.reduceAdd, Int.reduceSub, Int.reduceMul, Int.reduceNeg, Int.reduceToNat, Nat.reduceMul], by simp only [go_sem, Nat.reduceEqDiff, Nat.reduceAdd, Nat.reduceLeDiff, Int.reduceEq, Int.reduceLT, Int.reduceLE, Int.reduceAdd, Int.reduceSub, Int.reduceMul, Int.reduceNeg, Int.reduceToNat, Nat.reduceMul] <;> rfl, rfl⟩
  rintro m f H' ⟨j, hj, rfl, f0, f4, rfl⟩
  have hlt : (j : Int) < 256 := by omega
  have hjb : ((j : Nat) : Int) = ((UInt8.ofNat j).toNat : Int) := by
    rw [UInt8.toNat_ofNat']; omega
  have wj := w64 (x := (j : Int) + 1) (by omega) (by omega)
  have hv := fun X => v74 h74 a (UInt8.ofNat j) X
  rw [← hjb] at hv
  by_cases h1 : gM a (UInt8.ofNat j) = 1
  · have he : UInt8.ofNat j = gI a := gM_cancel ha (by rw [h1, gM_I a ha])
    have e1 : (((gM a (UInt8.ofNat j)).toNat : Int) = 1) := by rw [h1]; rfl
    have hjg : ((j : Nat) : Int) = ((gI a).toNat : Int) := by rw [hjb, he]
    simp only [f0, f4, hlt, wj, ↓(hv _).run, e1, go_sem, Nat.reduceEqDiff, Nat.reduceAdd, Nat.reduceLeDiff, Int.reduceEq, Int.reduceLT, Int.reduceLE, Int.reduceAdd, Int.reduceSub, Int.reduceMul, Int.reduceNeg, Int.reduceToNat, Nat.reduceMul]
    rw [hjg]
    exact hQ
  · have e1 : ¬ (((gM a (UInt8.ofNat j)).toNat : Int) = 1) := fun e => h1 (by
      apply UInt8.toNat_inj.1
      have : (gM a (UInt8.ofNat j)).toNat = 1 := by omega
      rw [this]; rfl)
    have hne : j ≠ (gI a).toNat := fun e => h1 (by
      rw [e, UInt8.ofNat_toNat, gM_I a ha])
    simp only [f0, f4, hlt, wj, ↓(hv _).run, e1, go_sem, Nat.reduceEqDiff, Nat.reduceAdd, Nat.reduceLeDiff, Int.reduceEq, Int.reduceLT, Int.reduceLE, Int.reduceAdd, Int.reduceSub, Int.reduceMul, Int.reduceNeg, Int.reduceToNat, Nat.reduceMul]
    exact ⟨256 - (j + 1), by omega, j + 1, by omega, rfl, by simp only [f0, go_sem, Nat.reduceEqDiff, Nat.reduceAdd, Nat.reduceLeDiff, Int.reduceEq, Int.reduceLT, Int.reduceLE, Int.reduceAdd, Int.reduceSub, Int.reduceMul, Int.reduceNeg, Int.reduceToNat, Nat.reduceMul], by simp only [go_sem, Nat.reduceEqDiff, Nat.reduceAdd, Nat.reduceLeDiff, Int.reduceEq, Int.reduceLT, Int.reduceLE, Int.reduceAdd, Int.reduceSub, Int.reduceMul, Int.reduceNeg, Int.reduceToNat, Nat.reduceMul] <;> rfl, rfl⟩
theorem v72 (h74 : tbl 74 = some (.code m74)) (h101 : tbl 101 = some (.code m101)) (h72 : tbl 72 = some (.code m72)) (l : List Sh) (n : Nat) (hn : n ≤ l.length) (hn2 : n ≤ 1000) (hg : ∀ i (h : i < l.length), 0 ≤ l[i].1 ∧ l[i].1 ≤ 255) (hd : ∀ i k, i < n → k < n → i ≠ k → xb l i ≠ xb l k) (j : Nat) (hj : ∀ i (h : i < l.length), j < l[i].2.length) (hj2 : j ≤ 1000000) {H : AH} {v : Value} (hs : Sl H 2 v l.length (shc l)) (z : UInt8) :
    Val tbl 72 [v, .int .i64 n, .int .i64 j, .int .i64 (z.toNat : Int)] H (.int .i64 ((vS (xb l) (yb l j) n z n).toNat : Int)) H := by
  refine Val.of_all fun Q hQ => ?_
  obtain ⟨ad, cp, hv⟩ := hs.shape
  subst hv
  rw [rn_fun h72, k72]
  simp only [go_sem, Nat.reduceEqDiff, Nat.reduceAdd, Nat.reduceLeDiff, Int.reduceEq, Int.reduceLT, Int.reduceLE, Int.reduceAdd, Int.reduceSub, Int.reduceMul, Int.reduceNeg, Int.reduceToNat, Nat.reduceMul]
  refine rn_loop (fun mm f H' => ∃ i : Nat, i ≤ n ∧ mm = n - i ∧ f 0 = .slice ad l.length cp ∧ f 1 = .int .i64 n ∧ f 2 = .int .i64 j ∧ f 3 = .int .i64 (z.toNat : Int) ∧ f 9 = .int .i64 ((vS (xb l) (yb l j) n z i).toNat : Int) ∧ f 13 = .int .i64 n ∧ f 14 = .int .i64 i ∧ H' = H.enter) ?_ (n := n)
    ⟨0, by omega, rfl, by simp only [go_sem, Nat.reduceEqDiff, Nat.reduceAdd, Nat.reduceLeDiff, Int.reduceEq, Int.reduceLT, Int.reduceLE, Int.reduceAdd, Int.reduceSub, Int.reduceMul, Int.reduceNeg, Int.reduceToNat, Nat.reduceMul], by simp only [go_sem, Nat.reduceEqDiff, Nat.reduceAdd, Nat.reduceLeDiff, Int.reduceEq, Int.reduceLT, Int.reduceLE, Int.reduceAdd, Int.reduceSub, Int.reduceMul, Int.reduceNeg, Int.reduceToNat, Nat.reduceMul], by simp only [go_sem, Nat.reduceEqDiff, Nat.reduceAdd, Nat.reduceLeDiff, Int.reduceEq, Int.reduceLT, Int.reduceLE, Int.reduceAdd, Int.reduceSub, Int.reduceMul, Int.reduceNeg, Int.reduceToNat, Nat.reduceMul], by simp only [go_sem, Nat.reduceEqDiff, Nat.reduceAdd, Nat.reduceLeDiff, Int.reduceEq, Int.reduceLT, Int.reduceLE, Int.reduceAdd, Int.reduceSub, Int.reduceMul, Int.reduceNeg, Int.reduceToNat, Nat.reduceMul], by simp only [go_sem, Nat.reduceEqDiff, Nat.reduceAdd, Nat.reduceLeDiff, Int.reduceEq, Int.reduceLT, Int.reduceLE, Int.reduceAdd, Int.reduceSub, Int.reduceMul, Int.reduceNeg, Int.reduceToNat, Nat.reduceMul] <;> rfl, by simp only [go_sem, Nat.reduceEqDiff, Nat.reduceAdd, Nat.reduceLeDiff, Int.reduceEq, Int.reduceLT, Int.reduceLE, Int.reduceAdd, Int.reduceSub, Int.reduceMul, Int.reduceNeg, Int.reduceToNat, Nat.reduceMul], by simp only [go_sem, Nat.reduceEqDiff, Nat.reduceAdd, Nat.reduceLeDiff, Int.reduceEq, Int.reduceLT, Int.reduceLE, Int.reduceAdd, Int.reduceSub, Int.reduceMul, Int.reduceNeg, Int.reduceToNat, Nat.reduceMul] <;> rfl, rfl⟩
  rintro mm f H' ⟨i, hi, rfl, f0, f1, f2, f3, f9, f13, f14, rfl⟩
  have hsE : Sl H.enter 2 (.slice ad l.length cp) l.length (shc l) := hs
  by_cases hlt : (i : Int) < n
  · have hi2 : i < n := by omega
    have hi3 : i < l.length := by omega
    have j0 : (0 : Int) ≤ j := by omega
    have wi := w64 (x := (i : Int) + 1) (by omega) (by omega)
    have hji := hj i hi3
    have hji1 : (j : Int) < l[i].2.length := by omega
    have hji2 : j + 1 ≤ l[i].2.length := by omega
    have hb := (gb l[i].2 j).toNat_lt
    have wb := w64 (x := ((gb l[i].2 j).toNat : Int)) (by omega) (by omega)
    simp only [f0, f1, f2, f3, f9, f13, f14, hlt, go_sem, Nat.reduceEqDiff, Nat.reduceAdd, Nat.reduceLeDiff, Int.reduceEq, Int.reduceLT, Int.reduceLE, Int.reduceAdd, Int.reduceSub, Int.reduceMul, Int.reduceNeg, Int.reduceToNat, Nat.reduceMul]
    refine hs.at_ hi3 fun q hq1 hq2 => ?_
    rw [shc_at _ _ hi3] at hq2
    obtain ⟨_, hq4⟩ := ldcB_two hq2
    simp only [f0, f1, f2, f3, f9, f13, f14, hlt, hq4, addA, j0, hji1, hji2, wb, tx_size, byteAt_tx, Int.toNat_natCast, go_sem, Nat.reduceEqDiff, Nat.reduceAdd, Nat.reduceLeDiff, Int.reduceEq, Int.reduceLT, Int.reduceLE, Int.reduceAdd, Int.reduceSub, Int.reduceMul, Int.reduceNeg, Int.reduceToNat, Nat.reduceMul]
    refine rn_loop (fun mm f H' => ∃ k : Nat, k ≤ n ∧ mm = n - k ∧ f 0 = .slice ad l.length cp ∧ f 1 = .int .i64 n ∧ f 2 = .int .i64 j ∧ f 3 = .int .i64 (z.toNat : Int) ∧ f 9 = .int .i64 ((vS (xb l) (yb l j) n z i).toNat : Int) ∧ f 13 = .int .i64 n ∧ f 14 = .int .i64 i ∧ f 10 = .int .i64 i ∧ f 11 = .int .i64 ((tS (xb l) (yb l j) z i k).toNat : Int) ∧ f 25 = .int .i64 n ∧ f 26 = .int .i64 k ∧ H' = H.enter) ?_ (n := n)
      ⟨0, by omega, rfl, by simp only [f0, go_sem, Nat.reduceEqDiff, Nat.reduceAdd, Nat.reduceLeDiff, Int.reduceEq, Int.reduceLT, Int.reduceLE, Int.reduceAdd, Int.reduceSub, Int.reduceMul, Int.reduceNeg, Int.reduceToNat, Nat.reduceMul], by simp only [f1, go_sem, Nat.reduceEqDiff, Nat.reduceAdd, Nat.reduceLeDiff, Int.reduceEq, Int.reduceLT, Int.reduceLE, Int.reduceAdd, Int.reduceSub, Int.reduceMul, Int.reduceNeg, Int.reduceToNat, Nat.reduceMul], by simp only [f2, go_sem, Nat.reduceEqDiff, Nat.reduceAdd, Nat.reduceLeDiff, Int.reduceEq, Int.reduceLT, Int.reduceLE, Int.reduceAdd, Int.reduceSub, Int.reduceMul, Int.reduceNeg, Int.reduceToNat, Nat.reduceMul], by simp only [f3, go_sem, Nat.reduceEqDiff, Nat.reduceAdd, Nat.reduceLeDiff, Int.reduceEq, Int.reduceLT, Int.reduceLE, Int.reduceAdd, Int.reduceSub, Int.reduceMul, Int.reduceNeg, Int.reduceToNat, Nat.reduceMul], by simp only [f9, go_sem, Nat.reduceEqDiff, Nat.reduceAdd, Nat.reduceLeDiff, Int.reduceEq, Int.reduceLT, Int.reduceLE, Int.reduceAdd, Int.reduceSub, Int.reduceMul, Int.reduceNeg, Int.reduceToNat, Nat.reduceMul], by simp only [f13, go_sem, Nat.reduceEqDiff, Nat.reduceAdd, Nat.reduceLeDiff, Int.reduceEq, Int.reduceLT, Int.reduceLE, Int.reduceAdd, Int.reduceSub, Int.reduceMul, Int.reduceNeg, Int.reduceToNat, Nat.reduceMul], by simp only [f14, go_sem, Nat.reduceEqDiff, Nat.reduceAdd, Nat.reduceLeDiff, Int.reduceEq, Int.reduceLT, Int.reduceLE, Int.reduceAdd, Int.reduceSub, Int.reduceMul, Int.reduceNeg, Int.reduceToNat, Nat.reduceMul], by simp only [go_sem, Nat.reduceEqDiff, Nat.reduceAdd, Nat.reduceLeDiff, Int.reduceEq, Int.reduceLT, Int.reduceLE, Int.reduceAdd, Int.reduceSub, Int.reduceMul, Int.reduceNeg, Int.reduceToNat, Nat.reduceMul], by simp only [go_sem, Nat.reduceEqDiff, Nat.reduceAdd, Nat.reduceLeDiff, Int.reduceEq, Int.reduceLT, Int.reduceLE, Int.reduceAdd, Int.reduceSub, Int.reduceMul, Int.reduceNeg, Int.reduceToNat, Nat.reduceMul]; rw [show tS (xb l) (yb l j) z i 0 = gb l[i].2 j from yb_at hi3], by simp only [go_sem, Nat.reduceEqDiff, Nat.reduceAdd, Nat.reduceLeDiff, Int.reduceEq, Int.reduceLT, Int.reduceLE, Int.reduceAdd, Int.reduceSub, Int.reduceMul, Int.reduceNeg, Int.reduceToNat, Nat.reduceMul], by simp only [go_sem, Nat.reduceEqDiff, Nat.reduceAdd, Nat.reduceLeDiff, Int.reduceEq, Int.reduceLT, Int.reduceLE, Int.reduceAdd, Int.reduceSub, Int.reduceMul, Int.reduceNeg, Int.reduceToNat, Nat.reduceMul] <;> rfl, rfl⟩
    clear f0 f1 f2 f3 f9 f13 f14
    rintro mm f H' ⟨k, hk, rfl, f0, f1, f2, f3, f9, f13, f14, f10, f11, f25, f26, rfl⟩
    by_cases hltk : (k : Int) < n
    · have hk2 : k < n := by omega
      have hk3 : k < l.length := by omega
      have wk := w64 (x := (k : Int) + 1) (by omega) (by omega)
      have htk : tS (xb l) (yb l j) z i (k + 1) = if k = i then tS (xb l) (yb l j) z i k else gM (tS (xb l) (yb l j) z i k) (gM (z ^^^ xb l k) (gI (xb l i ^^^ xb l k))) := rfl
      by_cases hki : k = i
      · rw [if_pos hki] at htk
        obtain rfl : k = i := hki
        simp only [f0, f1, f2, f3, f9, f13, f14, f10, f11, f25, f26, hltk, wk, go_sem, Nat.reduceEqDiff, Nat.reduceAdd, Nat.reduceLeDiff, Int.reduceEq, Int.reduceLT, Int.reduceLE, Int.reduceAdd, Int.reduceSub, Int.reduceMul, Int.reduceNeg, Int.reduceToNat, Nat.reduceMul]
        exact ⟨n - (k + 1), by omega, k + 1, by omega, rfl, by simp only [f0, go_sem, Nat.reduceEqDiff, Nat.reduceAdd, Nat.reduceLeDiff, Int.reduceEq, Int.reduceLT, Int.reduceLE, Int.reduceAdd, Int.reduceSub, Int.reduceMul, Int.reduceNeg, Int.reduceToNat, Nat.reduceMul], by simp only [f1, go_sem, Nat.reduceEqDiff, Nat.reduceAdd, Nat.reduceLeDiff, Int.reduceEq, Int.reduceLT, Int.reduceLE, Int.reduceAdd, Int.reduceSub, Int.reduceMul, Int.reduceNeg, Int.reduceToNat, Nat.reduceMul], by simp only [f2, go_sem, Nat.reduceEqDiff, Nat.reduceAdd, Nat.reduceLeDiff, Int.reduceEq, Int.reduceLT, Int.reduceLE, Int.reduceAdd, Int.reduceSub, Int.reduceMul, Int.reduceNeg, Int.reduceToNat, Nat.reduceMul], by simp only [f3, go_sem, Nat.reduceEqDiff, Nat.reduceAdd, Nat.reduceLeDiff, Int.reduceEq, Int.reduceLT, Int.reduceLE, Int.reduceAdd, Int.reduceSub, Int.reduceMul, Int.reduceNeg, Int.reduceToNat, Nat.reduceMul], by simp only [f9, go_sem, Nat.reduceEqDiff, Nat.reduceAdd, Nat.reduceLeDiff, Int.reduceEq, Int.reduceLT, Int.reduceLE, Int.reduceAdd, Int.reduceSub, Int.reduceMul, Int.reduceNeg, Int.reduceToNat, Nat.reduceMul], by simp only [f13, go_sem, Nat.reduceEqDiff, Nat.reduceAdd, Nat.reduceLeDiff, Int.reduceEq, Int.reduceLT, Int.reduceLE, Int.reduceAdd, Int.reduceSub, Int.reduceMul, Int.reduceNeg, Int.reduceToNat, Nat.reduceMul], by simp only [f14, go_sem, Nat.reduceEqDiff, Nat.reduceAdd, Nat.reduceLeDiff, Int.reduceEq, Int.reduceLT, Int.reduceLE, Int.reduceAdd, Int.reduceSub, Int.reduceMul, Int.reduceNeg, Int.reduceToNat, Nat.reduceMul], by simp only [f10, go_sem, Nat.reduceEqDiff, Nat.reduceAdd, Nat.reduceLeDiff, Int.reduceEq, Int.reduceLT, Int.reduceLE, Int.reduceAdd, Int.reduceSub, Int.reduceMul, Int.reduceNeg, Int.reduceToNat, Nat.reduceMul], by simp only [f11, go_sem, Nat.reduceEqDiff, Nat.reduceAdd, Nat.reduceLeDiff, Int.reduceEq, Int.reduceLT, Int.reduceLE, Int.reduceAdd, Int.reduceSub, Int.reduceMul, Int.reduceNeg, Int.reduceToNat, Nat.reduceMul]; rw [htk], by simp only [f25, go_sem, Nat.reduceEqDiff, Nat.reduceAdd, Nat.reduceLeDiff, Int.reduceEq, Int.reduceLT, Int.reduceLE, Int.reduceAdd, Int.reduceSub, Int.reduceMul, Int.reduceNeg, Int.reduceToNat, Nat.reduceMul], by simp only [go_sem, Nat.reduceEqDiff, Nat.reduceAdd, Nat.reduceLeDiff, Int.reduceEq, Int.reduceLT, Int.reduceLE, Int.reduceAdd, Int.reduceSub, Int.reduceMul, Int.reduceNeg, Int.reduceToNat, Nat.reduceMul] <;> rfl, rfl⟩
      · rw [if_neg hki] at htk
        have hki2 : ¬ ((k : Int) = (i : Int)) := by omega
        have hx1 := xb_at hi3 (hg i hi3)
        have hx2 := xb_at hk3 (hg k hk3)
        have hne : xb l i ^^^ xb l k ≠ 0 := xor_ne (hd i k hi2 hk2 (fun e => hki e.symm))
        simp only [f0, f1, f2, f3, f9, f13, f14, f10, f11, f25, f26, hltk, wk, hki2, go_sem, Nat.reduceEqDiff, Nat.reduceAdd, Nat.reduceLeDiff, Int.reduceEq, Int.reduceLT, Int.reduceLE, Int.reduceAdd, Int.reduceSub, Int.reduceMul, Int.reduceNeg, Int.reduceToNat, Nat.reduceMul]
        refine hs.at_ hk3 fun q2 hq1 hq2 => ?_
        rw [shc_at _ _ hk3, ← hx2] at hq2
        obtain ⟨hq5, _⟩ := ldcB_two hq2
        simp only [f0, f1, f2, f3, f9, f13, f14, f10, f11, f25, f26, hltk, wk, hki2, hq5, xor63u, addA, Nat.add_zero, go_sem, Nat.reduceEqDiff, Nat.reduceAdd, Nat.reduceLeDiff, Int.reduceEq, Int.reduceLT, Int.reduceLE, Int.reduceAdd, Int.reduceSub, Int.reduceMul, Int.reduceNeg, Int.reduceToNat, Nat.reduceMul]
        refine hs.at_ hi3 fun q3 hq1 hq2 => ?_
        rw [shc_at _ _ hi3, ← hx1] at hq2
        obtain ⟨hq6, _⟩ := ldcB_two hq2
        simp only [f0, f1, f2, f3, f9, f13, f14, f10, f11, f25, f26, hltk, wk, hki2, hq5, hq6, xor63u, addA, Nat.add_zero, go_sem, Nat.reduceEqDiff, Nat.reduceAdd, Nat.reduceLeDiff, Int.reduceEq, Int.reduceLT, Int.reduceLE, Int.reduceAdd, Int.reduceSub, Int.reduceMul, Int.reduceNeg, Int.reduceToNat, Nat.reduceMul]
        refine hs.at_ hk3 fun q4 hq1 hq2 => ?_
        rw [shc_at _ _ hk3, ← hx2] at hq2
        obtain ⟨hq7, _⟩ := ldcB_two hq2
        simp only [f0, f1, f2, f3, f9, f13, f14, f10, f11, f25, f26, hltk, wk, hki2, hq5, hq6, hq7, xor63u, ↓(v101 h74 h101 _ hne _).run, ↓(v74 h74 _ _ _).run, relow', addA, Nat.add_zero, go_sem, Nat.reduceEqDiff, Nat.reduceAdd, Nat.reduceLeDiff, Int.reduceEq, Int.reduceLT, Int.reduceLE, Int.reduceAdd, Int.reduceSub, Int.reduceMul, Int.reduceNeg, Int.reduceToNat, Nat.reduceMul]
        exact ⟨n - (k + 1), by omega, k + 1, by omega, rfl, by simp only [f0, go_sem, Nat.reduceEqDiff, Nat.reduceAdd, Nat.reduceLeDiff, Int.reduceEq, Int.reduceLT, Int.reduceLE, Int.reduceAdd, Int.reduceSub, Int.reduceMul, Int.reduceNeg, Int.reduceToNat, Nat.reduceMul], by simp only [f1, go_sem, Nat.reduceEqDiff, Nat.reduceAdd, Nat.reduceLeDiff, Int.reduceEq, Int.reduceLT, Int.reduceLE, Int.reduceAdd, Int.reduceSub, Int.reduceMul, Int.reduceNeg, Int.reduceToNat, Nat.reduceMul], by simp only [f2, go_sem, Nat.reduceEqDiff, Nat.reduceAdd, Nat.reduceLeDiff, Int.reduceEq, Int.reduceLT, Int.reduceLE, Int.reduceAdd, Int.reduceSub, Int.reduceMul, Int.reduceNeg, Int.reduceToNat, Nat.reduceMul], by simp only [f3, go_sem, Nat.reduceEqDiff, Nat.reduceAdd, Nat.reduceLeDiff, Int.reduceEq, Int.reduceLT, Int.reduceLE, Int.reduceAdd, Int.reduceSub, Int.reduceMul, Int.reduceNeg, Int.reduceToNat, Nat.reduceMul], by simp only [f9, go_sem, Nat.reduceEqDiff, Nat.reduceAdd, Nat.reduceLeDiff, Int.reduceEq, Int.reduceLT, Int.reduceLE, Int.reduceAdd, Int.reduceSub, Int.reduceMul, Int.reduceNeg, Int.reduceToNat, Nat.reduceMul], by simp only [f13, go_sem, Nat.reduceEqDiff, Nat.reduceAdd, Nat.reduceLeDiff, Int.reduceEq, Int.reduceLT, Int.reduceLE, Int.reduceAdd, Int.reduceSub, Int.reduceMul, Int.reduceNeg, Int.reduceToNat, Nat.reduceMul], by simp only [f14, go_sem, Nat.reduceEqDiff, Nat.reduceAdd, Nat.reduceLeDiff, Int.reduceEq, Int.reduceLT, Int.reduceLE, Int.reduceAdd, Int.reduceSub, Int.reduceMul, Int.reduceNeg, Int.reduceToNat, Nat.reduceMul], by simp only [f10, go_sem, Nat.reduceEqDiff, Nat.reduceAdd, Nat.reduceLeDiff, Int.reduceEq, Int.reduceLT, Int.reduceLE, Int.reduceAdd, Int.reduceSub, Int.reduceMul, Int.reduceNeg, Int.reduceToNat, Nat.reduceMul], by simp only [go_sem, Nat.reduceEqDiff, Nat.reduceAdd, Nat.reduceLeDiff, Int.reduceEq, Int.reduceLT, Int.reduceLE, Int.reduceAdd, Int.reduceSub, Int.reduceMul, Int.reduceNeg, Int.reduceToNat, Nat.reduceMul]; rw [htk], by simp only [f25, go_sem, Nat.reduceEqDiff, Nat.reduceAdd, Nat.reduceLeDiff, Int.reduceEq, Int.reduceLT, Int.reduceLE, Int.reduceAdd, Int.reduceSub, Int.reduceMul, Int.reduceNeg, Int.reduceToNat, Nat.reduceMul], by simp only [go_sem, Nat.reduceEqDiff, Nat.reduceAdd, Nat.reduceLeDiff, Int.reduceEq, Int.reduceLT, Int.reduceLE, Int.reduceAdd, Int.reduceSub, Int.reduceMul, Int.reduceNeg, Int.reduceToNat, Nat.reduceMul] <;> rfl, rfl⟩
    · have hke : k = n := by omega
      subst hke
      have hnext := tS_wS (xb l) (yb l j) k z i
      simp only [f0, f1, f2, f3, f9, f13, f14, f10, f11, f25, f26, hltk, wi, xor63u, go_sem, Nat.reduceEqDiff, Nat.reduceAdd, Nat.reduceLeDiff, Int.reduceEq, Int.reduceLT, Int.reduceLE, Int.reduceAdd, Int.reduceSub, Int.reduceMul, Int.reduceNeg, Int.reduceToNat, Nat.reduceMul]
      exact ⟨k - (i + 1), by omega, i + 1, by omega, rfl, by simp only [f0, go_sem, Nat.reduceEqDiff, Nat.reduceAdd, Nat.reduceLeDiff, Int.reduceEq, Int.reduceLT, Int.reduceLE, Int.reduceAdd, Int.reduceSub, Int.reduceMul, Int.reduceNeg, Int.reduceToNat, Nat.reduceMul], by simp only [f1, go_sem, Nat.reduceEqDiff, Nat.reduceAdd, Nat.reduceLeDiff, Int.reduceEq, Int.reduceLT, Int.reduceLE, Int.reduceAdd, Int.reduceSub, Int.reduceMul, Int.reduceNeg, Int.reduceToNat, Nat.reduceMul], by simp only [f2, go_sem, Nat.reduceEqDiff, Nat.reduceAdd, Nat.reduceLeDiff, Int.reduceEq, Int.reduceLT, Int.reduceLE, Int.reduceAdd, Int.reduceSub, Int.reduceMul, Int.reduceNeg, Int.reduceToNat, Nat.reduceMul], by simp only [f3, go_sem, Nat.reduceEqDiff, Nat.reduceAdd, Nat.reduceLeDiff, Int.reduceEq, Int.reduceLT, Int.reduceLE, Int.reduceAdd, Int.reduceSub, Int.reduceMul, Int.reduceNeg, Int.reduceToNat, Nat.reduceMul], by simp only [go_sem, Nat.reduceEqDiff, Nat.reduceAdd, Nat.reduceLeDiff, Int.reduceEq, Int.reduceLT, Int.reduceLE, Int.reduceAdd, Int.reduceSub, Int.reduceMul, Int.reduceNeg, Int.reduceToNat, Nat.reduceMul]; rw [hnext], by simp only [f13, go_sem, Nat.reduceEqDiff, Nat.reduceAdd, Nat.reduceLeDiff, Int.reduceEq, Int.reduceLT, Int.reduceLE, Int.reduceAdd, Int.reduceSub, Int.reduceMul, Int.reduceNeg, Int.reduceToNat, Nat.reduceMul], by simp only [go_sem, Nat.reduceEqDiff, Nat.reduceAdd, Nat.reduceLeDiff, Int.reduceEq, Int.reduceLT, Int.reduceLE, Int.reduceAdd, Int.reduceSub, Int.reduceMul, Int.reduceNeg, Int.reduceToNat, Nat.reduceMul] <;> rfl, rfl⟩
  · have hie : i = n := by omega
    subst hie
    simp only [f0, f1, f2, f3, f9, f13, f14, hlt, go_sem, Nat.reduceEqDiff, Nat.reduceAdd, Nat.reduceLeDiff, Int.reduceEq, Int.reduceLT, Int.reduceLE, Int.reduceAdd, Int.reduceSub, Int.reduceMul, Int.reduceNeg, Int.reduceToNat, Nat.reduceMul]
    exact hQ
end Go.Proofs.Ytildhljhbbhmmaa.AM
namespace Go.Proofs.Ytildhljhbbhmmaa.AM
open Go
set_option linter.all false
set_option maxRecDepth 10000

/-! ### Slices of shares, parts of them -/
/-- A slice of shares: some of them, in a block of its kind. -/
structure Ss (H : AH) (v : Value) (p : Addr) (c : Nat) (l : List Sh) : Prop where
  eq : v = .slice (some p) l.length c
  le : l.length ≤ c
  blk : ∃ b, H.get p.block = some b ∧ b.es = 2
  cells : ldc H p (l.length * 2) = some (shc l)
theorem Ss.sl {H : AH} {v : Value} {p : Addr} {c : Nat} {l : List Sh} (h : Ss H v p c l) : Sl H 2 v l.length (shc l) := .inr ⟨p, c, h.eq, h.cells⟩
theorem Ss.keep {H H' : AH} {v : Value} {p : Addr} {c : Nat} {l : List Sh} (h : Ss H v p c l) (hk : ∀ id, id < H.next → H'.get id = H.get id) : Ss H' v p c l := by
  have hlt := ldc_lt h.cells
  refine ⟨h.eq, h.le, ?_, ?_⟩
  · obtain ⟨b, h1, h2⟩ := h.blk
    exact ⟨b, by rw [hk _ hlt]; exact h1, h2⟩
  · rw [ldc_eq, hk _ hlt, ← ldc_eq]
    exact h.cells
theorem shc_take (l : List Sh) (k : Nat) : (shc l).take (k * 2) = shc (l.take k) := by
  induction l generalizing k with
  | nil => simp [shc]
  | cons p l ih =>
    cases k with
    | zero => simp [shc]
    | succ k =>
      have := ih k
      rw [Nat.succ_mul]
      simpa [shc] using this
theorem shc_drop (l : List Sh) (k : Nat) : (shc l).drop (k * 2) = shc (l.drop k) := by
  induction l generalizing k with
  | nil => simp [shc]
  | cons p l ih =>
    cases k with
    | zero => simp [shc]
    | succ k =>
      have := ih k
      rw [Nat.succ_mul]
      simpa [shc] using this
theorem Ss.pre {H : AH} {p : Addr} {c : Nat} {l : List Sh} (h : Ss H (.slice (some p) l.length c) p c l) {k : Nat} (hk : k ≤ l.length) : slcAt H 2 (.slice (some p) l.length c) 0 k = some (.slice (some p) k c) ∧ Sl H 2 (.slice (some p) k c) (l.take k).length (shc (l.take k)) := by
  obtain ⟨b, h1, h2⟩ := h.blk
  have hlen : (l.take k).length = k := by rw [List.length_take]; omega
  refine ⟨?_, .inr ⟨p, c, by rw [hlen], ?_⟩⟩
  · have := h.le
    simp only [slcAt, h1]
    rw [if_pos (by omega), if_pos h2, if_pos trivial]
  · have := ldc_sub h.cells (i := 0) (m := k * 2) (by have := Nat.mul_le_mul_right 2 hk; omega)
    rw [hlen, ← shc_take, ldc_eq]
    rw [ldc_eq] at this
    simpa [addA] using this
theorem Ss.suf {H : AH} {p : Addr} {c : Nat} {l : List Sh} (h : Ss H (.slice (some p) l.length c) p c l) (hd : H.get 0 = none) {k : Nat} (hk : k ≤ l.length) : ∃ ad n c', slcAt H 2 (.slice (some p) l.length c) k l.length = some (.slice ad n c') ∧ n = (l.drop k).length ∧ Sl H 2 (.slice ad n c') (l.drop k).length (shc (l.drop k)) := by
  obtain ⟨b, h1, h2⟩ := h.blk
  have hle := h.le
  have hlen : (l.drop k).length = l.length - k := by rw [List.length_drop]
  by_cases h0 : k = 0
  · subst h0
    refine ⟨some p, l.length, c, ?_, by simp, by simpa using h.sl⟩
    simp only [slcAt, h1]
    rw [if_pos (by omega), if_pos h2, if_pos trivial]
  · by_cases hc : k < c
    · refine ⟨some (addA p (k * 2)), l.length - k, c - k, ?_, hlen.symm, .inr ⟨addA p (k * 2), c - k, by rw [hlen], ?_⟩⟩
      · simp only [slcAt, h1]
        rw [if_pos (by omega), if_pos h2, if_neg h0, if_pos hc]
      · have := ldc_sub h.cells (i := k * 2) (m := (l.length - k) * 2) (by omega)
        rw [hlen, this, shc_drop, List.take_of_length_le (by rw [shc_len, hlen]; omega)]
    · have hkl : k = l.length := by omega
      refine ⟨some ⟨0, 0, none⟩, 0, 0, ?_, by rw [hlen]; omega, ?_⟩
      · simp only [slcAt, h1]
        rw [if_pos (by omega), if_pos h2, if_neg h0, if_neg hc, if_pos hd]
      · rw [hkl, List.drop_length]
        exact .inl ⟨_, 0, rfl, rfl, rfl⟩
/-! ### What is wrong with shares -/
def seenB (l : List Sh) (i : Nat) (x : Int) : Bool := (l.take i).any fun p => decide (p.1 = x)
def sn (l : List Sh) (i : Nat) : List Value := (List.range 256).map fun x : Nat => .bool (seenB l i (x : Int))
theorem sn_len {l : List Sh} {i : Nat} : (sn l i).length = 256 := by simp [sn]
theorem sn_start {l : List Sh} : List.replicate 256 (.bool false) = sn l 0 := by
  refine List.ext_getElem (by rw [sn_len, List.length_replicate]) fun k h1 h2 => ?_
  rw [List.getElem_replicate]
  simp only [sn, List.getElem_map, seenB, List.take_zero, List.any_nil]
theorem seenB_succ {l : List Sh} {i : Nat} (h : i < l.length) (x : Int) : seenB l (i + 1) x = (seenB l i x || decide (l[i].1 = x)) := by
  unfold seenB
  rw [List.take_succ, List.any_append, List.getElem?_eq_getElem h]
  simp
theorem sn_set {l : List Sh} {i : Nat} (h : i < l.length) {k : Nat} (hx : l[i].1 = (k : Int)) (hk : k < 256) : (sn l i).set k (.bool true) = sn l (i + 1) := by
  refine List.ext_getElem (by simp [sn]) fun j h1 h2 => ?_
  rw [List.getElem_set]
  simp only [sn, List.getElem_map, List.getElem_range]
  rw [seenB_succ h, hx]
  by_cases hj : k = j
  · subst hj
    rw [if_pos rfl]
    simp
  · rw [if_neg hj]
    have : decide ((k : Int) = (j : Int)) = false := decide_eq_false (by omega)
    rw [this, Bool.or_false]
theorem sn_at {l : List Sh} {i k : Nat} (h : k < 256) : List.take 1 (List.drop k (sn l i)) = [.bool (seenB l i k)] := by
  rw [take_one (by rw [sn_len]; exact h)]
  simp [sn]
/-- How long the first one's bytes are. -/
def len0 (l : List Sh) : Nat := (l.getD 0 (0, [])).2.length
def eE (l : List Sh) (i : Nat) : Int :=
  let p := l.getD i (0, [])
  if p.1 < 1 ∨ 255 < p.1 then 7 else if seenB l i p.1 = true then 4 else if p.2 = [] ∨ 1024 < p.2.length ∨ p.2.length ≠ len0 l then 6 else 0
def eF (l : List Sh) : Nat → Int
  | 0 => 0
  | i + 1 => if eF l i ≠ 0 then eF l i else eE l i
theorem eF_keep {l : List Sh} {i : Nat} (h : eF l i ≠ 0) : ∀ k, eF l (i + k) = eF l i
  | 0 => rfl
  | k + 1 => by
    show eF l (i + k + 1) = _
    simp only [eF]
    rw [eF_keep h k, if_pos h]
theorem eF_bad {l : List Sh} {i n : Nat} (h : eF l (i + 1) ≠ 0) (hn : i < n) : eF l n = eF l (i + 1) := by
  have := eF_keep h (n - (i + 1))
  rwa [show i + 1 + (n - (i + 1)) = n by omega] at this
theorem eF_zero {l : List Sh} {n : Nat} (h : eF l n = 0) : ∀ i, i < n → eE l i = 0 := by
  intro i hi
  have h1 : eF l (i + 1) = 0 := by
    by_cases h2 : eF l (i + 1) = 0
    · exact h2
    · rw [eF_bad h2 hi] at h; exact absurd h h2
  simp only [eF] at h1
  split at h1
  · rename_i h2; exact absurd h1 h2
  · exact h1
theorem eE_zero {l : List Sh} {i : Nat} (h : i < l.length) (e : eE l i = 0) : (1 ≤ l[i].1 ∧ l[i].1 ≤ 255) ∧ seenB l i l[i].1 = false ∧ l[i].2 ≠ [] ∧ l[i].2.length ≤ 1024 ∧ l[i].2.length = len0 l := by
  unfold eE at e
  have hg : l.getD i (0, []) = l[i] := by simp [h]
  simp only [hg] at e
  split at e
  · simp at e
  · rename_i h1
    split at e
    · simp at e
    · rename_i h2
      split at e
      · simp at e
      · rename_i h3
        refine ⟨by omega, by simpa using h2, fun e => h3 (.inl e), ?_, ?_⟩
        · exact Nat.le_of_not_lt fun e => h3 (.inr (.inl e))
        · exact Classical.byContradiction fun e => h3 (.inr (.inr e))
/-- What good shares are. -/
structure Good' (l : List Sh) : Prop where
  at_ : ∀ i (h : i < l.length), 1 ≤ l[i].1 ∧ l[i].1 ≤ 255
  ne : ∀ i k, i < l.length → k < l.length → i ≠ k → xb l i ≠ xb l k
  len : ∀ i (h : i < l.length), l[i].2.length = len0 l
  most : l ≠ [] → 1 ≤ len0 l ∧ len0 l ≤ 1024
theorem seenB_false {l : List Sh} {i : Nat} {x : Int} (h : seenB l i x = false) : ∀ k (hk : k < l.length), k < i → l[k].1 ≠ x := by
  intro k hk hki e
  unfold seenB at h
  rw [List.any_eq_false] at h
  have hm : l[k] ∈ l.take i := List.mem_take_iff_getElem.2 ⟨k, by omega, rfl⟩
  exact h _ hm (by simpa using e)
theorem good_of_eF {l : List Sh} (h : eF l l.length = 0) : Good' l := by
  have hz := fun i (hi : i < l.length) => eE_zero hi (eF_zero h i hi)
  have hat : ∀ i (h : i < l.length), 1 ≤ l[i].1 ∧ l[i].1 ≤ 255 := fun i hi => (hz i hi).1
  have key : ∀ i k (hi : i < l.length) (hk : k < l.length), k < i → xb l i ≠ xb l k := fun i k hi hk hki e => by
    have h1 := seenB_false (hz i hi).2.1 k hk hki
    have h2 := xb_at hi (by have := hat i hi; omega)
    have h3 := xb_at hk (by have := hat k hk; omega)
    rw [e] at h2
    exact h1 (by omega)
  refine ⟨hat, fun i k hi hk hne => ?_, fun i hi => (hz i hi).2.2.2.2, fun hne => ?_⟩
  · rcases Nat.lt_or_gt_of_ne hne with h1 | h1
    · exact (key k i hk hi h1).symm
    · exact key i k hi hk h1
  · have h0 : 0 < l.length := List.length_pos_iff.2 hne
    have h1 := hz 0 h0
    have e : len0 l = l[0].2.length := h1.2.2.2.2.symm
    have : l[0].2.length ≠ 0 := fun e => h1.2.2.1 (List.eq_nil_of_length_eq_zero e)
    omega
/-- Whether the further ones fit. -/
def fits (l : List Sh) (need : Nat) : Bool := (l.drop need).all fun p => decide (vL (l.take need) (len0 l) (UInt8.ofNat p.1.toNat) = p.2)
/-- The error of Secret, where so many are needed. -/
def secE (l : List Sh) (need : Int) : Int :=
  if need < 1 ∨ 255 < need then 7 else if (l.length : Int) < need then 3 else if 255 < l.length then 8 else
  if eF l l.length ≠ 0 then eF l l.length else if fits l need.toNat = true then 0 else 18
def secT (l : List Sh) (need : Int) : List UInt8 := if secE l need = 0 then vL (l.take need.toNat) (len0 l) 0 else []
end Go.Proofs.Ytildhljhbbhmmaa.AM
namespace Go.Proofs.Ytildhljhbbhmmaa.AM
open Go
set_option linter.all false
set_option maxRecDepth 10000

theorem secE_loop {l : List Sh} {need : Int} (h1 : ¬ (need < 1 ∨ 255 < need)) (h2 : ¬ (l.length : Int) < need) (h3 : ¬ 255 < l.length) (h : eF l l.length ≠ 0) : secE l need = eF l l.length := by
  unfold secE; rw [if_neg h1, if_neg h2, if_neg h3, if_pos h]
theorem tx_none {l : List UInt8} : (tx l = ⟨#[]⟩) = (l = []) := by
  have e : (⟨#[]⟩ : ByteArray) = tx [] := rfl
  rw [e, tx_inj]
theorem xb_nat {X : Int} (h : 1 ≤ X ∧ X ≤ 255) : IntKind.wrap .u8 X = ((UInt8.ofNat X.toNat).toNat : Int) := by
  rw [UInt8.toNat_ofNat', IntKind.wrap_u8]
  omega
variable {tbl : Tbl} [hT : TMono tbl]
structure SecTb (tbl : Tbl) : Prop where
  h73 : tbl 73 = some (.code m73)
  h117 : tbl 117 = some (.code m117)
  h100 : tbl 100 = some (.code m100)
  h70 : tbl 70 = some (.code m70)
  h32 : tbl 32 = some (.code m32)
theorem v32 (S : SecTb tbl) (l : List Sh) (need : Int) {H : AH} {ad : Option Addr} {c : Nat} (hn : ad = none ∨ l = [] ∨ ∃ p, ad = some p ∧ Ss H (.slice ad l.length c) p c l) (hn0 : ad = none → l = []) (hd : H.get 0 = none) (hd0 : 0 < H.next) :
    Val tbl 32 [.slice ad l.length c, .int .i64 need] H (.tuple #[.string (tx (secT l need)), .int .i64 (secE l need)]) H := by
  refine Val.of_all fun Q hQ => ?_
  rw [rn_fun S.h32, k32]
  by_cases a1 : need < 1
  · have e : secE l need = 7 := by unfold secE; rw [if_pos (.inl a1)]
    rw [secT, e, if_neg (by decide)] at hQ
    simp only [a1, go_sem, Nat.reduceEqDiff, Nat.reduceAdd, Nat.reduceLeDiff, Int.reduceEq, Int.reduceLT, Int.reduceLE, Int.reduceAdd, Int.reduceSub, Int.reduceMul, Int.reduceNeg, Int.reduceToNat, Nat.reduceMul]
    exact hQ
  by_cases a2 : 255 < need
  · have e : secE l need = 7 := by unfold secE; rw [if_pos (.inr a2)]
    rw [secT, e, if_neg (by decide)] at hQ
    simp only [a1, a2, go_sem, Nat.reduceEqDiff, Nat.reduceAdd, Nat.reduceLeDiff, Int.reduceEq, Int.reduceLT, Int.reduceLE, Int.reduceAdd, Int.reduceSub, Int.reduceMul, Int.reduceNeg, Int.reduceToNat, Nat.reduceMul]
    exact hQ
  have a12 : ¬ (need < 1 ∨ 255 < need) := by omega
  by_cases a3 : (l.length : Int) < need
  · have e : secE l need = 3 := by unfold secE; rw [if_neg a12, if_pos a3]
    rw [secT, e, if_neg (by decide)] at hQ
    simp only [a1, a2, a3, go_sem, Nat.reduceEqDiff, Nat.reduceAdd, Nat.reduceLeDiff, Int.reduceEq, Int.reduceLT, Int.reduceLE, Int.reduceAdd, Int.reduceSub, Int.reduceMul, Int.reduceNeg, Int.reduceToNat, Nat.reduceMul]
    exact hQ
  by_cases a4 : (255 : Int) < l.length
  · have e : secE l need = 8 := by unfold secE; rw [if_neg a12, if_neg a3, if_pos (by omega)]
    rw [secT, e, if_neg (by decide)] at hQ
    simp only [a1, a2, a3, a4, go_sem, Nat.reduceEqDiff, Nat.reduceAdd, Nat.reduceLeDiff, Int.reduceEq, Int.reduceLT, Int.reduceLE, Int.reduceAdd, Int.reduceSub, Int.reduceMul, Int.reduceNeg, Int.reduceToNat, Nat.reduceMul]
    exact hQ
  have a4' : ¬ 255 < l.length := by omega
  have hl0 : 0 < l.length := by omega
  have hlne : l ≠ [] := by intro e; rw [e] at hl0; simp at hl0
  obtain ⟨p, rfl, hs⟩ : ∃ p, ad = some p ∧ Ss H (.slice ad l.length c) p c l := by
    rcases hn with h | h | h
    · exact absurd (hn0 h) hlne
    · exact absurd h hlne
    · exact h
  obtain ⟨N, rfl⟩ : ∃ N : Nat, need = (N : Int) := ⟨need.toNat, by omega⟩
  have hN1 : 1 ≤ N := by omega
  have hN2 : N ≤ l.length := by omega
  simp only [a1, a2, a3, a4, go_sem, Nat.reduceEqDiff, Nat.reduceAdd, Nat.reduceLeDiff, Int.reduceEq, Int.reduceLT, Int.reduceLE, Int.reduceAdd, Int.reduceSub, Int.reduceMul, Int.reduceNeg, Int.reduceToNat, Nat.reduceMul]
  refine rn_loop (fun m f H' => ∃ i : Nat, i ≤ l.length ∧ m = l.length - i ∧ f 0 = .slice (some p) l.length c ∧ f 1 = .int .i64 N ∧ f 6 = .pointer (some ⟨H.next, 0, none⟩) ∧ f 27 = .slice (some p) l.length c ∧ f 28 = .int .i64 l.length ∧ f 29 = .int .i64 i ∧ Junk H H' ∧ H.next < H'.next ∧ H'.get H.next = some ⟨sn l i, 1, false⟩ ∧ eF l i = 0) ?_ (n := l.length)
    ⟨0, by omega, rfl, by simp only [go_sem, Nat.reduceEqDiff, Nat.reduceAdd, Nat.reduceLeDiff, Int.reduceEq, Int.reduceLT, Int.reduceLE, Int.reduceAdd, Int.reduceSub, Int.reduceMul, Int.reduceNeg, Int.reduceToNat, Nat.reduceMul], by simp only [go_sem, Nat.reduceEqDiff, Nat.reduceAdd, Nat.reduceLeDiff, Int.reduceEq, Int.reduceLT, Int.reduceLE, Int.reduceAdd, Int.reduceSub, Int.reduceMul, Int.reduceNeg, Int.reduceToNat, Nat.reduceMul], by simp only [go_sem, Nat.reduceEqDiff, Nat.reduceAdd, Nat.reduceLeDiff, Int.reduceEq, Int.reduceLT, Int.reduceLE, Int.reduceAdd, Int.reduceSub, Int.reduceMul, Int.reduceNeg, Int.reduceToNat, Nat.reduceMul], by simp only [go_sem, Nat.reduceEqDiff, Nat.reduceAdd, Nat.reduceLeDiff, Int.reduceEq, Int.reduceLT, Int.reduceLE, Int.reduceAdd, Int.reduceSub, Int.reduceMul, Int.reduceNeg, Int.reduceToNat, Nat.reduceMul], by simp only [go_sem, Nat.reduceEqDiff, Nat.reduceAdd, Nat.reduceLeDiff, Int.reduceEq, Int.reduceLT, Int.reduceLE, Int.reduceAdd, Int.reduceSub, Int.reduceMul, Int.reduceNeg, Int.reduceToNat, Nat.reduceMul], by simp only [go_sem, Nat.reduceEqDiff, Nat.reduceAdd, Nat.reduceLeDiff, Int.reduceEq, Int.reduceLT, Int.reduceLE, Int.reduceAdd, Int.reduceSub, Int.reduceMul, Int.reduceNeg, Int.reduceToNat, Nat.reduceMul] <;> rfl, (Junk.enter H).push _, by rw [AH.next_push, nx_enter]; omega, by rw [← sn_start]; exact AH.get_push_eq H.enter _, rfl⟩
  rintro m f H' ⟨i, hi, rfl, f0, f1, f6, f27, f28, f29, st, n1, g6, hz⟩
  by_cases hlt : (i : Int) < l.length
  · have hi2 : i < l.length := by omega
    have hp2 : H'.next < H'.next + 1 := by omega
    have wi := w64 (x := (i : Int) + 1) (by omega) (by omega)
    have hsucc : eF l (i + 1) = eE l i := by simp only [eF]; rw [hz, if_neg (by simp)]
    have hgD : l.getD i (0, []) = l[i] := by simp [hi2]
    have ret : ∀ e : Int, e ≠ 0 → eE l i = e → Q (.tuple #[.string ⟨#[]⟩, .int .i64 e]) H := fun e he h => by
      have e1 := eF_bad (i := i) (by rw [hsucc, h]; exact he) hi2
      rw [hsucc, h] at e1
      have e2 := secE_loop a12 a3 a4' (by rw [e1]; exact he)
      rw [e1] at e2
      rw [secT, e2, if_neg he] at hQ
      exact hQ
    simp only [f0, f1, f6, f27, f28, f29, hlt, go_sem, Nat.reduceEqDiff, Nat.reduceAdd, Nat.reduceLeDiff, Int.reduceEq, Int.reduceLT, Int.reduceLE, Int.reduceAdd, Int.reduceSub, Int.reduceMul, Int.reduceNeg, Int.reduceToNat, Nat.reduceMul]
    refine (hs.sl.keep st.old).at_ hi2 fun q hq1 hq2 => ?_
    rw [shc_at _ _ hi2] at hq2
    simp only [f0, f1, f6, f27, f28, f29, hlt, hq2, hp2, stc_eq, stB_some, go_sem, Nat.reduceEqDiff, Nat.reduceAdd, Nat.reduceLeDiff, Int.reduceEq, Int.reduceLT, Int.reduceLE, Int.reduceAdd, Int.reduceSub, Int.reduceMul, Int.reduceNeg, Int.reduceToNat, Nat.reduceMul]
    have st2 := (st.push ⟨[.int .i64 0, .string ⟨#[]⟩], 1, false⟩).set st.nx (some ⟨[.int .i64 l[i].1, .string (tx l[i].2)], 1, false⟩)
    have g8 := ps_get (H' := H') (b := ⟨[.int .i64 0, .string ⟨#[]⟩], 1, false⟩) (c := ⟨[.int .i64 l[i].1, .string (tx l[i].2)], 1, false⟩)
    have g6b := (ps_old (H' := H') (b := ⟨[.int .i64 0, .string ⟨#[]⟩], 1, false⟩) (c := ⟨[.int .i64 l[i].1, .string (tx l[i].2)], 1, false⟩) n1).trans g6
    have n2 := ps_next (H' := H') (b := ⟨[.int .i64 0, .string ⟨#[]⟩], 1, false⟩) (c := ⟨[.int .i64 l[i].1, .string (tx l[i].2)], 1, false⟩)
    generalize (H'.push ⟨[.int .i64 0, .string ⟨#[]⟩], 1, false⟩).set H'.next (some ⟨[.int .i64 l[i].1, .string (tx l[i].2)], 1, false⟩) = H2 at st2 g8 g6b n2 ⊢
    have hnl : ¬ H2.low < H.next := by have := st2.low; omega
    by_cases b1 : l[i].1 < 1
    · have hr := ret 7 (by decide) (by unfold eE; simp only [hgD]; rw [if_pos (.inl b1)])
      simp only [f0, f1, f6, f27, f28, f29, g8, b1, hnl, go_sem, Nat.reduceEqDiff, Nat.reduceAdd, Nat.reduceLeDiff, Int.reduceEq, Int.reduceLT, Int.reduceLE, Int.reduceAdd, Int.reduceSub, Int.reduceMul, Int.reduceNeg, Int.reduceToNat, Nat.reduceMul]
      exact hr
    by_cases b2 : 255 < l[i].1
    · have hr := ret 7 (by decide) (by unfold eE; simp only [hgD]; rw [if_pos (.inr b2)])
      simp only [f0, f1, f6, f27, f28, f29, g8, b1, b2, hnl, go_sem, Nat.reduceEqDiff, Nat.reduceAdd, Nat.reduceLeDiff, Int.reduceEq, Int.reduceLT, Int.reduceLE, Int.reduceAdd, Int.reduceSub, Int.reduceMul, Int.reduceNeg, Int.reduceToNat, Nat.reduceMul]
      exact hr
    obtain ⟨X, hX⟩ : ∃ X : Nat, l[i].1 = (X : Int) := ⟨l[i].1.toNat, by omega⟩
    have b12 : ¬ (l[i].1 < 1 ∨ 255 < l[i].1) := by omega
    have X0 : (0 : Int) ≤ X := by omega
    have X1 : (X : Int) < 256 := by omega
    have X2 : X < 256 := by omega
    have X3 : X + 1 ≤ 256 := by omega
    have hat := sn_at (l := l) (i := i) X2
    have b1' : ¬ (X : Int) < 1 := by omega
    have b2' : ¬ 255 < (X : Int) := by omega
    by_cases b3 : seenB l i X = true
    · have hr := ret 4 (by decide) (by unfold eE; simp only [hgD]; rw [if_neg b12, hX, if_pos b3])
      simp only [f0, f1, f6, f27, f28, f29, g8, hX, b1', b2', X0, X1, X3, Int.toNat_natCast, g6b, sn_len, addA, Nat.zero_add, Nat.mul_one, hat, b3, hnl, go_sem, Nat.reduceEqDiff, Nat.reduceAdd, Nat.reduceLeDiff, Int.reduceEq, Int.reduceLT, Int.reduceLE, Int.reduceAdd, Int.reduceSub, Int.reduceMul, Int.reduceNeg, Int.reduceToNat, Nat.reduceMul]
      exact hr
    have b3' : seenB l i X = false := by simpa using b3
    have e3 : ∀ h : l[i].2 = [] ∨ 1024 < l[i].2.length ∨ l[i].2.length ≠ len0 l, eE l i = 6 := fun h => by
      unfold eE; simp only [hgD]; rw [if_neg b12, hX, if_neg b3, if_pos h]
    simp only [f0, f1, f6, f27, f28, f29, g8, hX, b1', b2', X0, X1, X3, Int.toNat_natCast, g6b, sn_len, addA, Nat.zero_add, Nat.mul_one, hat, b3', hnl, go_sem, Nat.reduceEqDiff, Nat.reduceAdd, Nat.reduceLeDiff, Int.reduceEq, Int.reduceLT, Int.reduceLE, Int.reduceAdd, Int.reduceSub, Int.reduceMul, Int.reduceNeg, Int.reduceToNat, Nat.reduceMul]
    have r6 := fun h => ret 6 (by decide) (e3 h)
    by_cases b4 : l[i].2 = []
    · have hr := r6 (.inl b4)
      simp only [f0, f1, f6, f27, f28, f29, g8, tx_none, b4, hnl, go_sem, Nat.reduceEqDiff, Nat.reduceAdd, Nat.reduceLeDiff, Int.reduceEq, Int.reduceLT, Int.reduceLE, Int.reduceAdd, Int.reduceSub, Int.reduceMul, Int.reduceNeg, Int.reduceToNat, Nat.reduceMul]
      exact hr
    by_cases b5 : (1024 : Int) < l[i].2.length
    · have hr := r6 (.inr (.inl (by omega)))
      simp only [f0, f1, f6, f27, f28, f29, g8, tx_none, tx_size, b4, b5, hnl, go_sem, Nat.reduceEqDiff, Nat.reduceAdd, Nat.reduceLeDiff, Int.reduceEq, Int.reduceLT, Int.reduceLE, Int.reduceAdd, Int.reduceSub, Int.reduceMul, Int.reduceNeg, Int.reduceToNat, Nat.reduceMul]
      exact hr
    have q0 : l[0].2.length = len0 l := by simp [len0, hl0]
    simp only [f0, f1, f6, f27, f28, f29, g8, tx_none, tx_size, b4, b5, hnl, go_sem, Nat.reduceEqDiff, Nat.reduceAdd, Nat.reduceLeDiff, Int.reduceEq, Int.reduceLT, Int.reduceLE, Int.reduceAdd, Int.reduceSub, Int.reduceMul, Int.reduceNeg, Int.reduceToNat, Nat.reduceMul]
    refine (hs.sl.keep st2.old).at0 hl0 fun q0' hq3 hq4 => ?_
    have hq5 := shc_at l 0 hl0
    rw [Nat.zero_mul] at hq5
    rw [hq5] at hq4
    obtain ⟨_, hq6⟩ := ldcB_two hq4
    by_cases b6 : ((l[i].2.length : Int) = (len0 l : Int))
    case neg =>
      have hr := r6 (.inr (.inr (by omega)))
      simp only [f0, f1, f6, f27, f28, f29, g8, hq6, tx_none, tx_size, q0, addA, b4, b5, b6, hnl, go_sem, Nat.reduceEqDiff, Nat.reduceAdd, Nat.reduceLeDiff, Int.reduceEq, Int.reduceLT, Int.reduceLE, Int.reduceAdd, Int.reduceSub, Int.reduceMul, Int.reduceNeg, Int.reduceToNat, Nat.reduceMul]
      exact hr
    have hset := sn_set hi2 hX X2
    have hlt6 : H.next < H2.next := by omega
    simp only [f0, f1, f6, f27, f28, f29, g8, g6b, hq6, tx_none, tx_size, q0, addA, b4, b5, b6, hX, X0, X1, X3, Int.toNat_natCast, sn_len, stc_eq, stB_some, splice_one, Nat.zero_add, Nat.mul_one, hset, wi, hnl, go_sem, Nat.reduceEqDiff, Nat.reduceAdd, Nat.reduceLeDiff, Int.reduceEq, Int.reduceLT, Int.reduceLE, Int.reduceAdd, Int.reduceSub, Int.reduceMul, Int.reduceNeg, Int.reduceToNat, Nat.reduceMul]
    have hz2 : eF l (i + 1) = 0 := by
      rw [hsucc]
      unfold eE
      simp only [hgD]
      rw [if_neg b12, hX, if_neg b3, if_neg]
      intro h
      rcases h with h | h | h
      · exact b4 h
      · exact b5 (by omega)
      · exact h (by omega)
    exact ⟨l.length - (i + 1), by omega, i + 1, by omega, rfl, by simp only [f0, go_sem, Nat.reduceEqDiff, Nat.reduceAdd, Nat.reduceLeDiff, Int.reduceEq, Int.reduceLT, Int.reduceLE, Int.reduceAdd, Int.reduceSub, Int.reduceMul, Int.reduceNeg, Int.reduceToNat, Nat.reduceMul], by simp only [f1, go_sem, Nat.reduceEqDiff, Nat.reduceAdd, Nat.reduceLeDiff, Int.reduceEq, Int.reduceLT, Int.reduceLE, Int.reduceAdd, Int.reduceSub, Int.reduceMul, Int.reduceNeg, Int.reduceToNat, Nat.reduceMul], by simp only [f6, go_sem, Nat.reduceEqDiff, Nat.reduceAdd, Nat.reduceLeDiff, Int.reduceEq, Int.reduceLT, Int.reduceLE, Int.reduceAdd, Int.reduceSub, Int.reduceMul, Int.reduceNeg, Int.reduceToNat, Nat.reduceMul], by simp only [f27, go_sem, Nat.reduceEqDiff, Nat.reduceAdd, Nat.reduceLeDiff, Int.reduceEq, Int.reduceLT, Int.reduceLE, Int.reduceAdd, Int.reduceSub, Int.reduceMul, Int.reduceNeg, Int.reduceToNat, Nat.reduceMul], by simp only [f28, go_sem, Nat.reduceEqDiff, Nat.reduceAdd, Nat.reduceLeDiff, Int.reduceEq, Int.reduceLT, Int.reduceLE, Int.reduceAdd, Int.reduceSub, Int.reduceMul, Int.reduceNeg, Int.reduceToNat, Nat.reduceMul], by simp only [go_sem, Nat.reduceEqDiff, Nat.reduceAdd, Nat.reduceLeDiff, Int.reduceEq, Int.reduceLT, Int.reduceLE, Int.reduceAdd, Int.reduceSub, Int.reduceMul, Int.reduceNeg, Int.reduceToNat, Nat.reduceMul] <;> rfl, st2.set (Nat.le_refl _) _, by rw [AH.next_set]; omega, AH.get_set_eq H2 _ hlt6, hz2⟩
  · have hie : i = l.length := by omega
    subst hie
    have hG := good_of_eF hz
    obtain ⟨hm1, hm2⟩ := hG.most hlne
    have N0 : (0 : Int) ≤ N := by omega
    have NI : (N : Int) ≤ l.length := by omega
    have hs' := hs.keep st.old
    have hd' : H'.get 0 = none := by rw [st.old 0 hd0]; exact hd
    obtain ⟨ad2, n2, c2, hsuf, hn2, hsl2⟩ := hs'.suf hd' hN2
    subst hn2
    simp only [f0, f1, f6, f27, f28, f29, hlt, N0, hN2, Int.toNat_natCast, hsuf, go_sem, Nat.reduceEqDiff, Nat.reduceAdd, Nat.reduceLeDiff, Int.reduceEq, Int.reduceLT, Int.reduceLE, Int.reduceAdd, Int.reduceSub, Int.reduceMul, Int.reduceNeg, Int.reduceToNat, Nat.reduceMul]
    have hE0 : secE l N = if fits l N = true then 0 else 18 := by
      unfold secE
      rw [if_neg a12, if_neg a3, if_neg a4', if_neg (by rw [hz]; simp), Int.toNat_natCast]
    have hNc : N ≤ c := by have := hs.le; omega
    have htl : (l.take N).length = N := by rw [List.length_take]; omega
    have hti : ∀ i (h : i < (l.take N).length), (l.take N)[i] = l[i]'(by omega) := fun i h => by simp
    have hdi : ∀ i (h : i < (l.drop N).length), (l.drop N)[i] = l[N + i]'(by rw [List.length_drop] at h; omega) := fun i h => by simp
    have hv := fun (X : AH) (st' : Junk H X) (z : UInt8) => v70 S.h73 S.h117 S.h100 S.h70 (l.take N) (fun i h => by rw [hti i h]; have := hG.at_ i (by omega); omega) (by omega) (by omega) (len0 l) (fun i h => by rw [hti i h]; exact hG.len i (by omega)) (by omega) ((hs.keep st'.old).pre hN2).2 z
    have z8 : (Value.int .u8 0) = .int .u8 ((0 : UInt8).toNat : Int) := rfl
    refine rn_loop (fun m f H' => ∃ i : Nat, i ≤ (l.drop N).length ∧ m = (l.drop N).length - i ∧ f 0 = .slice (some p) l.length c ∧ f 1 = .int .i64 N ∧ f 74 = .slice ad2 (l.drop N).length c2 ∧ f 75 = .int .i64 (l.drop N).length ∧ f 76 = .int .i64 i ∧ Junk H H' ∧ H'.next ≥ H.next ∧ (∀ i' (h : i' < (l.drop N).length), i' < i → vL (l.take N) (len0 l) (UInt8.ofNat (l.drop N)[i'].1.toNat) = (l.drop N)[i'].2)) ?_ (n := (l.drop N).length)
      ⟨0, by omega, rfl, by simp only [f0, go_sem, Nat.reduceEqDiff, Nat.reduceAdd, Nat.reduceLeDiff, Int.reduceEq, Int.reduceLT, Int.reduceLE, Int.reduceAdd, Int.reduceSub, Int.reduceMul, Int.reduceNeg, Int.reduceToNat, Nat.reduceMul], by simp only [f1, go_sem, Nat.reduceEqDiff, Nat.reduceAdd, Nat.reduceLeDiff, Int.reduceEq, Int.reduceLT, Int.reduceLE, Int.reduceAdd, Int.reduceSub, Int.reduceMul, Int.reduceNeg, Int.reduceToNat, Nat.reduceMul], by simp only [go_sem, Nat.reduceEqDiff, Nat.reduceAdd, Nat.reduceLeDiff, Int.reduceEq, Int.reduceLT, Int.reduceLE, Int.reduceAdd, Int.reduceSub, Int.reduceMul, Int.reduceNeg, Int.reduceToNat, Nat.reduceMul], by simp only [go_sem, Nat.reduceEqDiff, Nat.reduceAdd, Nat.reduceLeDiff, Int.reduceEq, Int.reduceLT, Int.reduceLE, Int.reduceAdd, Int.reduceSub, Int.reduceMul, Int.reduceNeg, Int.reduceToNat, Nat.reduceMul], by simp only [go_sem, Nat.reduceEqDiff, Nat.reduceAdd, Nat.reduceLeDiff, Int.reduceEq, Int.reduceLT, Int.reduceLE, Int.reduceAdd, Int.reduceSub, Int.reduceMul, Int.reduceNeg, Int.reduceToNat, Nat.reduceMul] <;> rfl, st, st.nx, fun i' h h2 => absurd h2 (by omega)⟩
    clear f0 f1 f6 f27 f28 f29
    have stH := st
    have hH'n := st.nx
    clear g6 hd' hs'
    rintro m f H'' ⟨i, hi, rfl, f0, f1, f74, f75, f76, st, -, hok⟩
    have hk' : ∀ id, id < H'.next → True := fun _ _ => trivial
    by_cases hlt : (i : Int) < (l.drop N).length
    · have hi2 : i < (l.drop N).length := by omega
      have hp2 : H''.next < H''.next + 1 := by omega
      have wi := w64 (x := (i : Int) + 1) (by omega) (by rw [List.length_drop] at hi2; omega)
      simp only [f0, f1, f74, f75, f76, hlt, go_sem, Nat.reduceEqDiff, Nat.reduceAdd, Nat.reduceLeDiff, Int.reduceEq, Int.reduceLT, Int.reduceLE, Int.reduceAdd, Int.reduceSub, Int.reduceMul, Int.reduceNeg, Int.reduceToNat, Nat.reduceMul]
      have hsl3 : Sl H'' 2 (.slice ad2 (l.drop N).length c2) (l.drop N).length (shc (l.drop N)) := by
        obtain ⟨ad3, n3, c3, hsuf3, hn3, hsl3⟩ := (hs.keep st.old).suf (by rw [st.old 0 hd0]; exact hd) hN2
        obtain ⟨b1', hb1, hb2⟩ := (hs.keep stH.old).blk
        obtain ⟨b3', hb3, hb4⟩ := (hs.keep st.old).blk
        have hsame : slcAt H'' 2 (.slice (some p) l.length c) N l.length = slcAt H' 2 (.slice (some p) l.length c) N l.length := by
          have e0 : H''.get 0 = H'.get 0 := by rw [st.old 0 hd0, stH.old 0 hd0]
          simp only [slcAt, hb1, hb2, hb3, hb4, e0]
        rw [hsame, hsuf] at hsuf3
        simp only [Option.some.injEq, Value.slice.injEq] at hsuf3
        obtain ⟨rfl, -, rfl⟩ := hsuf3
        rw [hn3] at hsl3
        exact hsl3
      refine hsl3.at_ hi2 fun q hq1 hq2 => ?_
      rw [shc_at _ _ hi2] at hq2
      simp only [f0, f1, f74, f75, f76, hlt, hq2, hp2, stc_eq, stB_some, go_sem, Nat.reduceEqDiff, Nat.reduceAdd, Nat.reduceLeDiff, Int.reduceEq, Int.reduceLT, Int.reduceLE, Int.reduceAdd, Int.reduceSub, Int.reduceMul, Int.reduceNeg, Int.reduceToNat, Nat.reduceMul]
      have st2 := (st.push ⟨[.int .i64 0, .string ⟨#[]⟩], 1, false⟩).set st.nx (some ⟨[.int .i64 (l.drop N)[i].1, .string (tx (l.drop N)[i].2)], 1, false⟩)
      have g8 := ps_get (H' := H'') (b := ⟨[.int .i64 0, .string ⟨#[]⟩], 1, false⟩) (c := ⟨[.int .i64 (l.drop N)[i].1, .string (tx (l.drop N)[i].2)], 1, false⟩)
      have n2 := ps_next (H' := H'') (b := ⟨[.int .i64 0, .string ⟨#[]⟩], 1, false⟩) (c := ⟨[.int .i64 (l.drop N)[i].1, .string (tx (l.drop N)[i].2)], 1, false⟩)
      generalize (H''.push ⟨[.int .i64 0, .string ⟨#[]⟩], 1, false⟩).set H''.next (some ⟨[.int .i64 (l.drop N)[i].1, .string (tx (l.drop N)[i].2)], 1, false⟩) = H2 at st2 g8 n2 ⊢
      have hpre := ((hs.keep st2.old).pre hN2).1
      have hnl : ¬ H2.low < H.next := by have := st2.low; omega
      have hltn : H''.next < H2.next := by omega
      have hat : 1 ≤ (l.drop N)[i].1 ∧ (l.drop N)[i].1 ≤ 255 := by rw [hdi i hi2]; exact hG.at_ _ _
      have hv0 := hv H2.enter ⟨st2.old, st2.nx, st2.nx⟩ (UInt8.ofNat (l.drop N)[i].1.toNat)
      rw [← xb_nat hat] at hv0
      by_cases heq : vL (l.take N) (len0 l) (UInt8.ofNat (l.drop N)[i].1.toNat) = (l.drop N)[i].2
      · simp only [f0, f1, f74, f75, f76, hlt, N0, hNc, g8, Int.toNat_natCast, addA, Nat.add_zero, Nat.zero_add, hpre, ↓hv0.run, relow', tx_inj, heq, wi, hnl, MI.rdBlk, blkOf, hltn, go_sem, Nat.reduceEqDiff, Nat.reduceAdd, Nat.reduceLeDiff, Int.reduceEq, Int.reduceLT, Int.reduceLE, Int.reduceAdd, Int.reduceSub, Int.reduceMul, Int.reduceNeg, Int.reduceToNat, Nat.reduceMul]
        refine ⟨(l.drop N).length - (i + 1), by omega, i + 1, by omega, rfl, by simp only [f0, go_sem, Nat.reduceEqDiff, Nat.reduceAdd, Nat.reduceLeDiff, Int.reduceEq, Int.reduceLT, Int.reduceLE, Int.reduceAdd, Int.reduceSub, Int.reduceMul, Int.reduceNeg, Int.reduceToNat, Nat.reduceMul], by simp only [f1, go_sem, Nat.reduceEqDiff, Nat.reduceAdd, Nat.reduceLeDiff, Int.reduceEq, Int.reduceLT, Int.reduceLE, Int.reduceAdd, Int.reduceSub, Int.reduceMul, Int.reduceNeg, Int.reduceToNat, Nat.reduceMul], by simp only [f74, go_sem, Nat.reduceEqDiff, Nat.reduceAdd, Nat.reduceLeDiff, Int.reduceEq, Int.reduceLT, Int.reduceLE, Int.reduceAdd, Int.reduceSub, Int.reduceMul, Int.reduceNeg, Int.reduceToNat, Nat.reduceMul], by simp only [f75, go_sem, Nat.reduceEqDiff, Nat.reduceAdd, Nat.reduceLeDiff, Int.reduceEq, Int.reduceLT, Int.reduceLE, Int.reduceAdd, Int.reduceSub, Int.reduceMul, Int.reduceNeg, Int.reduceToNat, Nat.reduceMul], by simp only [go_sem, Nat.reduceEqDiff, Nat.reduceAdd, Nat.reduceLeDiff, Int.reduceEq, Int.reduceLT, Int.reduceLE, Int.reduceAdd, Int.reduceSub, Int.reduceMul, Int.reduceNeg, Int.reduceToNat, Nat.reduceMul] <;> rfl, st2, st2.nx, fun i' h h2 => ?_⟩
        by_cases hii : i' = i
        · subst hii; exact heq
        · exact hok i' h (by omega)
      · have hf : fits l N = false := by
          unfold fits
          rw [List.all_eq_false]
          exact ⟨(l.drop N)[i], List.getElem_mem hi2, by simpa using heq⟩
        rw [hf, if_neg (by simp)] at hE0
        rw [secT, hE0, if_neg (by decide)] at hQ
        simp only [f0, f1, f74, f75, f76, hlt, N0, hNc, g8, Int.toNat_natCast, addA, Nat.add_zero, Nat.zero_add, hpre, ↓hv0.run, relow', tx_inj, heq, wi, hnl, MI.rdBlk, blkOf, hltn, go_sem, Nat.reduceEqDiff, Nat.reduceAdd, Nat.reduceLeDiff, Int.reduceEq, Int.reduceLT, Int.reduceLE, Int.reduceAdd, Int.reduceSub, Int.reduceMul, Int.reduceNeg, Int.reduceToNat, Nat.reduceMul]
        exact hQ
    · have hie : i = (l.drop N).length := by omega
      subst hie
      have hf : fits l N = true := by
        unfold fits
        rw [List.all_eq_true]
        intro x hx
        obtain ⟨j, hj, rfl⟩ := List.getElem_of_mem hx
        simpa using hok j hj hj
      rw [hf, if_pos rfl] at hE0
      rw [secT, hE0, if_pos rfl, Int.toNat_natCast] at hQ
      have hpre := ((hs.keep st.old).pre hN2).1
      have hnl : ¬ H''.low < H.next := by have := st.low; omega
      have hv0 := hv H'' st 0
      simp only [f0, f1, f74, f75, f76, hlt, N0, hNc, Int.toNat_natCast, hpre, z8, ↓hv0.run, hnl, go_sem, Nat.reduceEqDiff, Nat.reduceAdd, Nat.reduceLeDiff, Int.reduceEq, Int.reduceLT, Int.reduceLE, Int.reduceAdd, Int.reduceSub, Int.reduceMul, Int.reduceNeg, Int.reduceToNat, Nat.reduceMul]
      exact hQ
end Go.Proofs.Ytildhljhbbhmmaa.AM
namespace Go.Proofs.Ytildhljhbbhmmaa.AM
open Go
set_option linter.all false
set_option maxRecDepth 10000

theorem wrap8u (x : UInt8) : IntKind.wrap .u8 (x.toNat : Int) = (x.toNat : Int) := by
  have := UInt8.toNat_lt x
  rw [IntKind.wrap_u8]; omega
variable {tbl : Tbl} [hT : TMono tbl]
end Go.Proofs.Ytildhljhbbhmmaa.AM
namespace Go.Proofs.Ytildhljhbbhmmaa.AM
open Go
set_option linter.all false
set_option maxRecDepth 10000

theorem first3 (w a b : Int) : firstL [w, a, b] = if w ≠ 0 then w else if a ≠ 0 then a else b := by
  simp only [firstL, ne_eq, ite_not]
  by_cases h : b = 0 <;> simp [h]
/-- What is wrong with the bytes of a share. -/
def badD (l : List Sh) (d : List UInt8) : Prop := d = [] ∨ 1024 < d.length ∨ d.length ≠ len0 l
instance (l : List Sh) (d : List UInt8) : Decidable (badD l d) := inferInstanceAs (Decidable (_ ∨ _))
theorem eE_eq {l : List Sh} {i : Nat} (h : i < l.length) : eE l i = if ¬ (1 ≤ l[i].1 ∧ l[i].1 ≤ 255) then 7 else if seenB l i l[i].1 = true then 4 else if badD l l[i].2 then 6 else 0 := by
  have hg : l.getD i (0, []) = l[i] := by simp [h]
  have e1 : (l[i].1 < 1 ∨ 255 < l[i].1) ↔ ¬ (1 ≤ l[i].1 ∧ l[i].1 ≤ 255) := by omega
  unfold eE
  simp only [hg, e1]
  rfl
variable {tbl : Tbl} [hT : TMono tbl]
theorem v19_3s (h19 : tbl 19 = some (.code m19)) (X : AH) (a b c : Int) : Val tbl 19 [.slice (some ⟨X.next, 0, none⟩) 3 3] (X.push ⟨[.int .i64 a, .int .i64 b, .int .i64 c], 1, false⟩) (.int .i64 (firstL [a, b, c])) (X.push ⟨[.int .i64 a, .int .i64 b, .int .i64 c], 1, false⟩) :=
  v19 h19 _ _ [a, b, c] (rowS (X := X) (l := [a, b, c]) (by show 0 < 3; omega)) (by show 3 < 1000000000; omega)
structure SecLaw (tbl : Tbl) : Prop where
  h14 : tbl 14 = some (.code m14)
  h19 : tbl 19 = some (.code m19)
  h21 : tbl 21 = some (.code m21)
  h23 : tbl 23 = some (.code m23)
  h33 : tbl 33 = some (.code m33)
  h34 : tbl 34 = some (.code m34)
  h35 : tbl 35 = some (.code m35)
  h71 : tbl 71 = some (.code m71)
  h72 : tbl 72 = some (.code m72)
  h74 : tbl 74 = some (.code m74)
  h101 : tbl 101 = some (.code m101)
  h7 : tbl 7 = some (.code m7)
end Go.Proofs.Ytildhljhbbhmmaa.AM
namespace Go.Proofs.Ytildhljhbbhmmaa.AM
open Go
set_option linter.all false
set_option maxRecDepth 10000

/-! ### Shares of a secret -/
/-- The coefficients of the polynomial of byte j, but for the first. -/
def cf (noise : List UInt8) (M j : Nat) : List UInt8 := (List.range M).map fun c => gb noise (j * M + c)
theorem cf_len {noise : List UInt8} {M j : Nat} : (cf noise M j).length = M := by simp [cf]
theorem cf_drop {noise : List UInt8} {M j c : Nat} (h : c < M) : (cf noise M j).drop c = gb noise (j * M + c) :: (cf noise M j).drop (c + 1) := by
  rw [List.drop_eq_getElem_cons (by rw [cf_len]; exact h)]
  simp [cf]
theorem pv_cons (z c : UInt8) (l : List UInt8) : pv z (c :: l) = gM (pv z l) z ^^^ c := rfl
theorem cf_step {noise : List UInt8} {M j c : Nat} (z : UInt8) (h : c < M) : pv z ((cf noise M j).drop c) = gM (pv z ((cf noise M j).drop (c + 1))) z ^^^ gb noise (j * M + c) := by
  rw [cf_drop h, pv_cons]
def coefs (secret noise : List UInt8) (M j : Nat) : List UInt8 := gb secret j :: cf noise M j
/-- The bytes of the share at z. -/
def dat (secret noise : List UInt8) (M : Nat) (z : UInt8) : List UInt8 := (List.range secret.length).map fun j => pv z (coefs secret noise M j)
theorem dat_len {secret noise : List UInt8} {M : Nat} {z : UInt8} : (dat secret noise M z).length = secret.length := by simp [dat]
def shP (secret noise : List UInt8) (M i : Nat) : Sh := (((i + 1 : Nat) : Int), dat secret noise M (UInt8.ofNat (i + 1)))
/-- So many shares. -/
def shL (secret noise : List UInt8) (M n : Nat) : List Sh := (List.range n).map (shP secret noise M)
theorem shL_len {secret noise : List UInt8} {M n : Nat} : (shL secret noise M n).length = n := by simp [shL]
theorem shL_succ {secret noise : List UInt8} {M n : Nat} : shc (shL secret noise M n) ++ [.int .i64 ((n + 1 : Nat) : Int), .string (tx (dat secret noise M (UInt8.ofNat (n + 1))))] = shc (shL secret noise M (n + 1)) := by
  have : shL secret noise M (n + 1) = shL secret noise M n ++ [shP secret noise M n] := by
    unfold shL; rw [List.range_succ, List.map_append]; rfl
  rw [this, ← shc_app]
  rfl
/-- The error of Shares. -/
def shE (secret noise : List UInt8) (need many : Int) : Int :=
  if secret = [] then 21 else if 1024 < secret.length then 8 else if many < 1 ∨ 255 < many ∨ need < 1 ∨ many < need then 7 else if (noise.length : Int) ≠ secret.length * (need - 1) then 6 else 0
variable {tbl : Tbl} [hT : TMono tbl]
theorem v36_bad (h36 : tbl 36 = some (.code m36)) (secret noise : List UInt8) (hn : noise.length ≤ 9223372036854775807) (need many : Int) (h1 : -9223372036854775808 ≤ need ∧ need ≤ 9223372036854775807) (hb : shE secret noise need many ≠ 0) (H : AH) :
    Val tbl 36 [.string (tx secret), .string (tx noise), .int .i64 need, .int .i64 many] H (.tuple #[.slice none 0 0, .int .i64 (shE secret noise need many)]) H := by
  refine Val.of_all fun Q hQ => ?_
  rw [rn_fun h36, k36]
  by_cases a1 : secret = []
  · have e : shE secret noise need many = 21 := by unfold shE; rw [if_pos a1]
    rw [e] at hQ
    simp only [tx_none, a1, go_sem, Nat.reduceEqDiff, Nat.reduceAdd, Nat.reduceLeDiff, Int.reduceEq, Int.reduceLT, Int.reduceLE, Int.reduceAdd, Int.reduceSub, Int.reduceMul, Int.reduceNeg, Int.reduceToNat, Nat.reduceMul]
    exact hQ
  by_cases a2 : (1024 : Int) < secret.length
  · have e : shE secret noise need many = 8 := by unfold shE; rw [if_neg a1, if_pos (by omega)]
    rw [e] at hQ
    simp only [tx_none, tx_size, a1, a2, go_sem, Nat.reduceEqDiff, Nat.reduceAdd, Nat.reduceLeDiff, Int.reduceEq, Int.reduceLT, Int.reduceLE, Int.reduceAdd, Int.reduceSub, Int.reduceMul, Int.reduceNeg, Int.reduceToNat, Nat.reduceMul]
    exact hQ
  have e7 : (many < 1 ∨ 255 < many ∨ need < 1 ∨ many < need) → shE secret noise need many = 7 := fun h => by unfold shE; rw [if_neg a1, if_neg (by omega), if_pos h]
  by_cases a3 : many < 1
  · rw [e7 (.inl a3)] at hQ
    simp only [tx_none, tx_size, a1, a2, a3, go_sem, Nat.reduceEqDiff, Nat.reduceAdd, Nat.reduceLeDiff, Int.reduceEq, Int.reduceLT, Int.reduceLE, Int.reduceAdd, Int.reduceSub, Int.reduceMul, Int.reduceNeg, Int.reduceToNat, Nat.reduceMul]
    exact hQ
  by_cases a4 : 255 < many
  · rw [e7 (.inr (.inl a4))] at hQ
    simp only [tx_none, tx_size, a1, a2, a3, a4, go_sem, Nat.reduceEqDiff, Nat.reduceAdd, Nat.reduceLeDiff, Int.reduceEq, Int.reduceLT, Int.reduceLE, Int.reduceAdd, Int.reduceSub, Int.reduceMul, Int.reduceNeg, Int.reduceToNat, Nat.reduceMul]
    exact hQ
  by_cases a5 : need < 1
  · rw [e7 (.inr (.inr (.inl a5)))] at hQ
    simp only [tx_none, tx_size, a1, a2, a3, a4, a5, go_sem, Nat.reduceEqDiff, Nat.reduceAdd, Nat.reduceLeDiff, Int.reduceEq, Int.reduceLT, Int.reduceLE, Int.reduceAdd, Int.reduceSub, Int.reduceMul, Int.reduceNeg, Int.reduceToNat, Nat.reduceMul]
    exact hQ
  by_cases a6 : many < need
  · rw [e7 (.inr (.inr (.inr a6)))] at hQ
    simp only [tx_none, tx_size, a1, a2, a3, a4, a5, a6, go_sem, Nat.reduceEqDiff, Nat.reduceAdd, Nat.reduceLeDiff, Int.reduceEq, Int.reduceLT, Int.reduceLE, Int.reduceAdd, Int.reduceSub, Int.reduceMul, Int.reduceNeg, Int.reduceToNat, Nat.reduceMul]
    exact hQ
  have w1 := w64 (x := need - 1) (by omega) (by omega)
  obtain ⟨M, hM⟩ : ∃ M : Nat, need - 1 = (M : Int) := ⟨(need - 1).toNat, by omega⟩
  have w1' := w64 (x := (M : Int)) (by omega) (by omega)
  have hle : secret.length * M ≤ 1024 * 255 := Nat.mul_le_mul (by omega) (by omega)
  have em : (secret.length : Int) * (M : Int) = ((secret.length * M : Nat) : Int) := by simp
  have w2 := w64 (x := ((secret.length * M : Nat) : Int)) (by omega) (by omega)
  have a7 : ¬ ((noise.length : Int) = ((secret.length * M : Nat) : Int)) := fun e => hb (by
    unfold shE; rw [if_neg a1, if_neg (by omega), if_neg (by omega), hM, em, if_neg (by simpa using e)])
  have e : shE secret noise need many = 6 := by
    unfold shE; rw [if_neg a1, if_neg (by omega), if_neg (by omega), hM, em, if_pos a7]
  rw [e] at hQ
  simp only [tx_none, tx_size, a1, a2, a3, a4, a5, a6, w1, hM, w1', em, w2, a7, go_sem, Nat.reduceEqDiff, Nat.reduceAdd, Nat.reduceLeDiff, Int.reduceEq, Int.reduceLT, Int.reduceLE, Int.reduceAdd, Int.reduceSub, Int.reduceMul, Int.reduceNeg, Int.reduceToNat, Nat.reduceMul]
  exact hQ
theorem v36 (h73 : tbl 73 = some (.code m73)) (h36 : tbl 36 = some (.code m36)) (secret noise : List UInt8) (M n : Nat) (hs1 : secret ≠ []) (hs2 : secret.length ≤ 1024) (hn1 : M + 1 ≤ n) (hn2 : n ≤ 255) (hno : noise.length = secret.length * M) (H : AH) :
    Val tbl 36 [.string (tx secret), .string (tx noise), .int .i64 ((M + 1 : Nat) : Int), .int .i64 n] H (.tuple #[mkS H n, .int .i64 0]) (mkH H 2 n (shc (shL secret noise M n))) := by
  refine Val.of_all fun Q hQ => ?_
  rw [rn_fun h36, k36]
  have a2 : ¬ (1024 : Int) < secret.length := by omega
  have a3 : ¬ (n : Int) < 1 := by omega
  have a4 : ¬ 255 < (n : Int) := by omega
  have a5 : ¬ ((M + 1 : Nat) : Int) < 1 := by omega
  have a6 : ¬ (n : Int) < ((M + 1 : Nat) : Int) := by omega
  have hM : ((M + 1 : Nat) : Int) - 1 = (M : Int) := by omega
  have w1 := w64 (x := (M : Int)) (by omega) (by omega)
  have hle : secret.length * M ≤ 1024 * 255 := Nat.mul_le_mul (by omega) (by omega)
  have em : (secret.length : Int) * (M : Int) = ((secret.length * M : Nat) : Int) := by simp
  have w2 := w64 (x := ((secret.length * M : Nat) : Int)) (by omega) (by omega)
  have c0 : (0 : Int) ≤ secret.length := by omega
  have c1 : (secret.length : Int) ≤ 9223372036854775807 := by omega
  have c2 : secret.length ≤ 140737488355328 := by omega
  simp only [tx_none, tx_size, hs1, a2, a3, a4, a5, a6, hM, w1, em, w2, hno, go_sem, Nat.reduceEqDiff, Nat.reduceAdd, Nat.reduceLeDiff, Int.reduceEq, Int.reduceLT, Int.reduceLE, Int.reduceAdd, Int.reduceSub, Int.reduceMul, Int.reduceNeg, Int.reduceToNat, Nat.reduceMul]
  refine rn_loop (fun m f H' => ∃ (i : Nat) (s : Value), i ≤ n ∧ m = n - i ∧ f 0 = .string (tx secret) ∧ f 1 = .string (tx noise) ∧ f 2 = .int .i64 ((M + 1 : Nat) : Int) ∧ f 3 = .int .i64 n ∧ f 10 = s ∧ f 11 = .int .i64 ((i + 1 : Nat) : Int) ∧ Own H.next H' 2 s i (shc (shL secret noise M i)) ∧ Junk H H') ?_ (n := n)
    ⟨0, .slice none 0 0, by omega, rfl, by simp only [go_sem, Nat.reduceEqDiff, Nat.reduceAdd, Nat.reduceLeDiff, Int.reduceEq, Int.reduceLT, Int.reduceLE, Int.reduceAdd, Int.reduceSub, Int.reduceMul, Int.reduceNeg, Int.reduceToNat, Nat.reduceMul], by simp only [go_sem, Nat.reduceEqDiff, Nat.reduceAdd, Nat.reduceLeDiff, Int.reduceEq, Int.reduceLT, Int.reduceLE, Int.reduceAdd, Int.reduceSub, Int.reduceMul, Int.reduceNeg, Int.reduceToNat, Nat.reduceMul], by simp only [go_sem, Nat.reduceEqDiff, Nat.reduceAdd, Nat.reduceLeDiff, Int.reduceEq, Int.reduceLT, Int.reduceLE, Int.reduceAdd, Int.reduceSub, Int.reduceMul, Int.reduceNeg, Int.reduceToNat, Nat.reduceMul], by simp only [go_sem, Nat.reduceEqDiff, Nat.reduceAdd, Nat.reduceLeDiff, Int.reduceEq, Int.reduceLT, Int.reduceLE, Int.reduceAdd, Int.reduceSub, Int.reduceMul, Int.reduceNeg, Int.reduceToNat, Nat.reduceMul], by simp only [go_sem, Nat.reduceEqDiff, Nat.reduceAdd, Nat.reduceLeDiff, Int.reduceEq, Int.reduceLT, Int.reduceLE, Int.reduceAdd, Int.reduceSub, Int.reduceMul, Int.reduceNeg, Int.reduceToNat, Nat.reduceMul] <;> rfl, by simp only [go_sem, Nat.reduceEqDiff, Nat.reduceAdd, Nat.reduceLeDiff, Int.reduceEq, Int.reduceLT, Int.reduceLE, Int.reduceAdd, Int.reduceSub, Int.reduceMul, Int.reduceNeg, Int.reduceToNat, Nat.reduceMul] <;> rfl, .inl ⟨rfl, rfl, rfl⟩, Junk.enter H⟩
  rintro m f H' ⟨i, s, hi, rfl, f0, f1, f2, f3, f10, f11, ho, st⟩
  by_cases hlt : ((i + 1 : Nat) : Int) ≤ n
  · have wi := w64 (x := ((i + 1 : Nat) : Int) + 1) (by omega) (by omega)
    simp only [f0, f1, f2, f3, f10, f11, hlt, tx_size, Int.toNat_natCast, rep_zb, c0, c1, c2, Int.le_refl, go_sem, Nat.reduceEqDiff, Nat.reduceAdd, Nat.reduceLeDiff, Int.reduceEq, Int.reduceLT, Int.reduceLE, Int.reduceAdd, Int.reduceSub, Int.reduceMul, Int.reduceNeg, Int.reduceToNat, Nat.reduceMul]
    obtain ⟨z, hz⟩ : ∃ z, z = UInt8.ofNat (i + 1) := ⟨_, rfl⟩
    have hzw : IntKind.wrap .u8 ((i + 1 : Nat) : Int) = (z.toNat : Int) := by
      rw [hz, UInt8.toNat_ofNat', IntKind.wrap_u8]; omega
    refine rn_loop (fun m f H2 => ∃ (j : Nat), j ≤ secret.length ∧ m = secret.length - j ∧ f 0 = .string (tx secret) ∧ f 1 = .string (tx noise) ∧ f 2 = .int .i64 ((M + 1 : Nat) : Int) ∧ f 3 = .int .i64 n ∧ f 10 = s ∧ f 11 = .int .i64 ((i + 1 : Nat) : Int) ∧ f 12 = .slice (some ⟨H'.next, 0, none⟩) secret.length secret.length ∧ f 56 = .int .i64 secret.length ∧ f 57 = .int .i64 j ∧ Junk H H2 ∧ (∀ id, id < H'.next → H2.get id = H'.get id) ∧ H'.next < H2.next ∧ H2.get H'.next = some (u8r ((List.range j).map (fun j => pv z (coefs secret noise M j)) ++ zb (secret.length - j)))) ?_ (n := secret.length)
      ⟨0, by omega, rfl, by simp only [f0, go_sem, Nat.reduceEqDiff, Nat.reduceAdd, Nat.reduceLeDiff, Int.reduceEq, Int.reduceLT, Int.reduceLE, Int.reduceAdd, Int.reduceSub, Int.reduceMul, Int.reduceNeg, Int.reduceToNat, Nat.reduceMul], by simp only [f1, go_sem, Nat.reduceEqDiff, Nat.reduceAdd, Nat.reduceLeDiff, Int.reduceEq, Int.reduceLT, Int.reduceLE, Int.reduceAdd, Int.reduceSub, Int.reduceMul, Int.reduceNeg, Int.reduceToNat, Nat.reduceMul], by simp only [f2, go_sem, Nat.reduceEqDiff, Nat.reduceAdd, Nat.reduceLeDiff, Int.reduceEq, Int.reduceLT, Int.reduceLE, Int.reduceAdd, Int.reduceSub, Int.reduceMul, Int.reduceNeg, Int.reduceToNat, Nat.reduceMul], by simp only [f3, go_sem, Nat.reduceEqDiff, Nat.reduceAdd, Nat.reduceLeDiff, Int.reduceEq, Int.reduceLT, Int.reduceLE, Int.reduceAdd, Int.reduceSub, Int.reduceMul, Int.reduceNeg, Int.reduceToNat, Nat.reduceMul], by simp only [f10, go_sem, Nat.reduceEqDiff, Nat.reduceAdd, Nat.reduceLeDiff, Int.reduceEq, Int.reduceLT, Int.reduceLE, Int.reduceAdd, Int.reduceSub, Int.reduceMul, Int.reduceNeg, Int.reduceToNat, Nat.reduceMul], by simp only [f11, go_sem, Nat.reduceEqDiff, Nat.reduceAdd, Nat.reduceLeDiff, Int.reduceEq, Int.reduceLT, Int.reduceLE, Int.reduceAdd, Int.reduceSub, Int.reduceMul, Int.reduceNeg, Int.reduceToNat, Nat.reduceMul], by simp only [go_sem, Nat.reduceEqDiff, Nat.reduceAdd, Nat.reduceLeDiff, Int.reduceEq, Int.reduceLT, Int.reduceLE, Int.reduceAdd, Int.reduceSub, Int.reduceMul, Int.reduceNeg, Int.reduceToNat, Nat.reduceMul], by simp only [go_sem, Nat.reduceEqDiff, Nat.reduceAdd, Nat.reduceLeDiff, Int.reduceEq, Int.reduceLT, Int.reduceLE, Int.reduceAdd, Int.reduceSub, Int.reduceMul, Int.reduceNeg, Int.reduceToNat, Nat.reduceMul], by simp only [go_sem, Nat.reduceEqDiff, Nat.reduceAdd, Nat.reduceLeDiff, Int.reduceEq, Int.reduceLT, Int.reduceLE, Int.reduceAdd, Int.reduceSub, Int.reduceMul, Int.reduceNeg, Int.reduceToNat, Nat.reduceMul] <;> rfl, st.push _, fun id hid => AH.get_push_lt H' _ hid, by rw [AH.next_push]; omega, AH.get_push_eq H' _⟩
    clear f0 f1 f2 f3 f10 f11
    rintro m f H2 ⟨j, hj, rfl, f0, f1, f2, f3, f10, f11, f12, f56, f57, st2, old2, n2, g2⟩
    by_cases hltj : (j : Int) < secret.length
    · have hj2 : j < secret.length := by omega
      have j0 : (0 : Int) ≤ j := by omega
      have hj3 : j + 1 ≤ secret.length := by omega
      have wj := w64 (x := (j : Int) + 1) (by omega) (by omega)
      have hjm : (j + 1) * M ≤ secret.length * M := Nat.mul_le_mul_right M hj3
      rw [Nat.succ_mul] at hjm
      have ejm : (j : Int) * (M : Int) = ((j * M : Nat) : Int) := by simp
      have wjm := w64 (x := ((j * M : Nat) : Int)) (by omega) (by omega)
      rw [zb_cons hj2] at g2
      simp only [f0, f1, f2, f3, f10, f11, f12, f56, f57, hltj, hM, w1, go_sem, Nat.reduceEqDiff, Nat.reduceAdd, Nat.reduceLeDiff, Int.reduceEq, Int.reduceLT, Int.reduceLE, Int.reduceAdd, Int.reduceSub, Int.reduceMul, Int.reduceNeg, Int.reduceToNat, Nat.reduceMul]
      refine rn_loop (fun m f H3 => ∃ (c : Nat), c ≤ M ∧ m = c ∧ f 0 = .string (tx secret) ∧ f 1 = .string (tx noise) ∧ f 2 = .int .i64 ((M + 1 : Nat) : Int) ∧ f 3 = .int .i64 n ∧ f 10 = s ∧ f 11 = .int .i64 ((i + 1 : Nat) : Int) ∧ f 12 = .slice (some ⟨H'.next, 0, none⟩) secret.length secret.length ∧ f 13 = .int .i64 j ∧ f 14 = .int .i64 c ∧ f 56 = .int .i64 secret.length ∧ f 57 = .int .i64 j ∧ Junk H H3 ∧ (∀ id, id < H'.next → H3.get id = H'.get id) ∧ H'.next < H3.next ∧ H3.get H'.next = some (u8r ((List.range j).map (fun j => pv z (coefs secret noise M j)) ++ pv z ((cf noise M j).drop c) :: zb (secret.length - (j + 1))))) ?_ (n := M)
        ⟨M, by omega, rfl, by simp only [f0, go_sem, Nat.reduceEqDiff, Nat.reduceAdd, Nat.reduceLeDiff, Int.reduceEq, Int.reduceLT, Int.reduceLE, Int.reduceAdd, Int.reduceSub, Int.reduceMul, Int.reduceNeg, Int.reduceToNat, Nat.reduceMul], by simp only [f1, go_sem, Nat.reduceEqDiff, Nat.reduceAdd, Nat.reduceLeDiff, Int.reduceEq, Int.reduceLT, Int.reduceLE, Int.reduceAdd, Int.reduceSub, Int.reduceMul, Int.reduceNeg, Int.reduceToNat, Nat.reduceMul], by simp only [f2, go_sem, Nat.reduceEqDiff, Nat.reduceAdd, Nat.reduceLeDiff, Int.reduceEq, Int.reduceLT, Int.reduceLE, Int.reduceAdd, Int.reduceSub, Int.reduceMul, Int.reduceNeg, Int.reduceToNat, Nat.reduceMul], by simp only [f3, go_sem, Nat.reduceEqDiff, Nat.reduceAdd, Nat.reduceLeDiff, Int.reduceEq, Int.reduceLT, Int.reduceLE, Int.reduceAdd, Int.reduceSub, Int.reduceMul, Int.reduceNeg, Int.reduceToNat, Nat.reduceMul], by simp only [f10, go_sem, Nat.reduceEqDiff, Nat.reduceAdd, Nat.reduceLeDiff, Int.reduceEq, Int.reduceLT, Int.reduceLE, Int.reduceAdd, Int.reduceSub, Int.reduceMul, Int.reduceNeg, Int.reduceToNat, Nat.reduceMul], by simp only [f11, go_sem, Nat.reduceEqDiff, Nat.reduceAdd, Nat.reduceLeDiff, Int.reduceEq, Int.reduceLT, Int.reduceLE, Int.reduceAdd, Int.reduceSub, Int.reduceMul, Int.reduceNeg, Int.reduceToNat, Nat.reduceMul], by simp only [f12, go_sem, Nat.reduceEqDiff, Nat.reduceAdd, Nat.reduceLeDiff, Int.reduceEq, Int.reduceLT, Int.reduceLE, Int.reduceAdd, Int.reduceSub, Int.reduceMul, Int.reduceNeg, Int.reduceToNat, Nat.reduceMul], by simp only [go_sem, Nat.reduceEqDiff, Nat.reduceAdd, Nat.reduceLeDiff, Int.reduceEq, Int.reduceLT, Int.reduceLE, Int.reduceAdd, Int.reduceSub, Int.reduceMul, Int.reduceNeg, Int.reduceToNat, Nat.reduceMul], by simp only [go_sem, Nat.reduceEqDiff, Nat.reduceAdd, Nat.reduceLeDiff, Int.reduceEq, Int.reduceLT, Int.reduceLE, Int.reduceAdd, Int.reduceSub, Int.reduceMul, Int.reduceNeg, Int.reduceToNat, Nat.reduceMul], by simp only [f56, go_sem, Nat.reduceEqDiff, Nat.reduceAdd, Nat.reduceLeDiff, Int.reduceEq, Int.reduceLT, Int.reduceLE, Int.reduceAdd, Int.reduceSub, Int.reduceMul, Int.reduceNeg, Int.reduceToNat, Nat.reduceMul], by simp only [f57, go_sem, Nat.reduceEqDiff, Nat.reduceAdd, Nat.reduceLeDiff, Int.reduceEq, Int.reduceLT, Int.reduceLE, Int.reduceAdd, Int.reduceSub, Int.reduceMul, Int.reduceNeg, Int.reduceToNat, Nat.reduceMul], st2, old2, n2, by rw [List.drop_of_length_le (by rw [cf_len]; omega)]; exact g2⟩
      clear f0 f1 f2 f3 f10 f11 f12 f56 f57 g2
      rintro c f H3 ⟨c', hc, rfl, f0, f1, f2, f3, f10, f11, f12, f13, f14, f56, f57, st3, old3, n3, g3⟩
      have hlen3 := fun x => row_len' (fun j => pv z (coefs secret noise M j)) hj2 x
      have hgb3 := fun x => row_gb (fun j => pv z (coefs secret noise M j)) j x (zb (secret.length - (j + 1)))
      have hrow3 := fun x y => row_again (fun j => pv z (coefs secret noise M j)) (i := j) x y (zb (secret.length - (j + 1)))
      have hat := u8r_at (l := (List.range j).map (fun j => pv z (coefs secret noise M j)) ++ pv z ((cf noise M j).drop c) :: zb (secret.length - (j + 1))) (i := j) (by rw [hlen3]; omega)
      rw [hgb3] at hat
      by_cases hltc : (1 : Int) ≤ c
      · obtain ⟨d, rfl⟩ : ∃ d, c = d + 1 := ⟨c - 1, by omega⟩
        have hst := cf_step (noise := noise) (M := M) (j := j) (c := d) z (by omega)
        have wc := w64 (x := ((d + 1 : Nat) : Int) - 1) (by omega) (by omega)
        have ec : ((d + 1 : Nat) : Int) - 1 = (d : Int) := by omega
        have wa := w64 (x := ((j * M : Nat) : Int) + ((d + 1 : Nat) : Int)) (by omega) (by omega)
        have wb := w64 (x := ((j * M : Nat) : Int) + ((d + 1 : Nat) : Int) - 1) (by omega) (by omega)
        have eb : ((j * M : Nat) : Int) + ((d + 1 : Nat) : Int) - 1 = ((j * M + d : Nat) : Int) := by omega
        have i0 : (0 : Int) ≤ ((j * M + d : Nat) : Int) := by omega
        have i1 : ((j * M + d : Nat) : Int) < noise.length := by omega
        have i2 : j * M + d + 1 ≤ noise.length := by omega
        have wd := w64 (x := (d : Int)) (by omega) (by omega)
        have we := w64 (x := ((j * M + d : Nat) : Int)) (by omega) (by omega)
        simp only [f0, f1, f2, f3, f10, f11, f12, f13, f14, f56, f57, hltc, g3, j0, hj3, hltj, hat, hzw, hM, w1, ejm, wjm, wa, eb, we, i0, i1, i2, ↓(v73 h73 _ _ _).run, tx_size, byteAt_tx, xor8, idxSP_slc, Int.toNat_natCast, u8r_len, u8r_ro, u8r_es, hlen3, addA, Nat.zero_add, Nat.add_zero, Nat.mul_one, stc_eq, stB_some, splice_one, ← hst, relow', u8r_set, hrow3, ec, wd, go_sem, Nat.reduceEqDiff, Nat.reduceAdd, Nat.reduceLeDiff, Int.reduceEq, Int.reduceLT, Int.reduceLE, Int.reduceAdd, Int.reduceSub, Int.reduceMul, Int.reduceNeg, Int.reduceToNat, Nat.reduceMul]
        exact ⟨d, by omega, d, by omega, rfl, by simp only [f0, go_sem, Nat.reduceEqDiff, Nat.reduceAdd, Nat.reduceLeDiff, Int.reduceEq, Int.reduceLT, Int.reduceLE, Int.reduceAdd, Int.reduceSub, Int.reduceMul, Int.reduceNeg, Int.reduceToNat, Nat.reduceMul], by simp only [f1, go_sem, Nat.reduceEqDiff, Nat.reduceAdd, Nat.reduceLeDiff, Int.reduceEq, Int.reduceLT, Int.reduceLE, Int.reduceAdd, Int.reduceSub, Int.reduceMul, Int.reduceNeg, Int.reduceToNat, Nat.reduceMul], by simp only [f2, go_sem, Nat.reduceEqDiff, Nat.reduceAdd, Nat.reduceLeDiff, Int.reduceEq, Int.reduceLT, Int.reduceLE, Int.reduceAdd, Int.reduceSub, Int.reduceMul, Int.reduceNeg, Int.reduceToNat, Nat.reduceMul], by simp only [f3, go_sem, Nat.reduceEqDiff, Nat.reduceAdd, Nat.reduceLeDiff, Int.reduceEq, Int.reduceLT, Int.reduceLE, Int.reduceAdd, Int.reduceSub, Int.reduceMul, Int.reduceNeg, Int.reduceToNat, Nat.reduceMul], by simp only [f10, go_sem, Nat.reduceEqDiff, Nat.reduceAdd, Nat.reduceLeDiff, Int.reduceEq, Int.reduceLT, Int.reduceLE, Int.reduceAdd, Int.reduceSub, Int.reduceMul, Int.reduceNeg, Int.reduceToNat, Nat.reduceMul], by simp only [f11, go_sem, Nat.reduceEqDiff, Nat.reduceAdd, Nat.reduceLeDiff, Int.reduceEq, Int.reduceLT, Int.reduceLE, Int.reduceAdd, Int.reduceSub, Int.reduceMul, Int.reduceNeg, Int.reduceToNat, Nat.reduceMul], by simp only [f12, go_sem, Nat.reduceEqDiff, Nat.reduceAdd, Nat.reduceLeDiff, Int.reduceEq, Int.reduceLT, Int.reduceLE, Int.reduceAdd, Int.reduceSub, Int.reduceMul, Int.reduceNeg, Int.reduceToNat, Nat.reduceMul], by simp only [f13, go_sem, Nat.reduceEqDiff, Nat.reduceAdd, Nat.reduceLeDiff, Int.reduceEq, Int.reduceLT, Int.reduceLE, Int.reduceAdd, Int.reduceSub, Int.reduceMul, Int.reduceNeg, Int.reduceToNat, Nat.reduceMul], by simp only [go_sem, Nat.reduceEqDiff, Nat.reduceAdd, Nat.reduceLeDiff, Int.reduceEq, Int.reduceLT, Int.reduceLE, Int.reduceAdd, Int.reduceSub, Int.reduceMul, Int.reduceNeg, Int.reduceToNat, Nat.reduceMul], by simp only [f56, go_sem, Nat.reduceEqDiff, Nat.reduceAdd, Nat.reduceLeDiff, Int.reduceEq, Int.reduceLT, Int.reduceLE, Int.reduceAdd, Int.reduceSub, Int.reduceMul, Int.reduceNeg, Int.reduceToNat, Nat.reduceMul], by simp only [f57, go_sem, Nat.reduceEqDiff, Nat.reduceAdd, Nat.reduceLeDiff, Int.reduceEq, Int.reduceLT, Int.reduceLE, Int.reduceAdd, Int.reduceSub, Int.reduceMul, Int.reduceNeg, Int.reduceToNat, Nat.reduceMul], st3.set st.nx _, fun id hid => (AH.get_set_ne H3 _ (by omega)).trans (old3 id hid), by rw [AH.next_set]; omega, AH.get_set_eq H3 _ n3⟩
      · have hc0 : c = 0 := by omega
        subst hc0
        have hst : pv z (coefs secret noise M j) = gM (pv z (cf noise M j)) z ^^^ gb secret j := rfl
        rw [List.drop_zero] at hat g3
        simp only [f0, f1, f2, f3, f10, f11, f12, f13, f14, f56, f57, hltc, g3, j0, hj3, hltj, hat, hzw, ↓(v73 h73 _ _ _).run, tx_size, byteAt_tx, xor8, idxSP_slc, Int.toNat_natCast, u8r_len, u8r_ro, u8r_es, hlen3, addA, Nat.zero_add, Nat.add_zero, Nat.mul_one, stc_eq, stB_some, splice_one, ← hst, relow', u8r_set, hrow3, wj, go_sem, Nat.reduceEqDiff, Nat.reduceAdd, Nat.reduceLeDiff, Int.reduceEq, Int.reduceLT, Int.reduceLE, Int.reduceAdd, Int.reduceSub, Int.reduceMul, Int.reduceNeg, Int.reduceToNat, Nat.reduceMul]
        exact ⟨secret.length - (j + 1), by omega, j + 1, by omega, rfl, by simp only [f0, go_sem, Nat.reduceEqDiff, Nat.reduceAdd, Nat.reduceLeDiff, Int.reduceEq, Int.reduceLT, Int.reduceLE, Int.reduceAdd, Int.reduceSub, Int.reduceMul, Int.reduceNeg, Int.reduceToNat, Nat.reduceMul], by simp only [f1, go_sem, Nat.reduceEqDiff, Nat.reduceAdd, Nat.reduceLeDiff, Int.reduceEq, Int.reduceLT, Int.reduceLE, Int.reduceAdd, Int.reduceSub, Int.reduceMul, Int.reduceNeg, Int.reduceToNat, Nat.reduceMul], by simp only [f2, go_sem, Nat.reduceEqDiff, Nat.reduceAdd, Nat.reduceLeDiff, Int.reduceEq, Int.reduceLT, Int.reduceLE, Int.reduceAdd, Int.reduceSub, Int.reduceMul, Int.reduceNeg, Int.reduceToNat, Nat.reduceMul], by simp only [f3, go_sem, Nat.reduceEqDiff, Nat.reduceAdd, Nat.reduceLeDiff, Int.reduceEq, Int.reduceLT, Int.reduceLE, Int.reduceAdd, Int.reduceSub, Int.reduceMul, Int.reduceNeg, Int.reduceToNat, Nat.reduceMul], by simp only [f10, go_sem, Nat.reduceEqDiff, Nat.reduceAdd, Nat.reduceLeDiff, Int.reduceEq, Int.reduceLT, Int.reduceLE, Int.reduceAdd, Int.reduceSub, Int.reduceMul, Int.reduceNeg, Int.reduceToNat, Nat.reduceMul], by simp only [f11, go_sem, Nat.reduceEqDiff, Nat.reduceAdd, Nat.reduceLeDiff, Int.reduceEq, Int.reduceLT, Int.reduceLE, Int.reduceAdd, Int.reduceSub, Int.reduceMul, Int.reduceNeg, Int.reduceToNat, Nat.reduceMul], by simp only [f12, go_sem, Nat.reduceEqDiff, Nat.reduceAdd, Nat.reduceLeDiff, Int.reduceEq, Int.reduceLT, Int.reduceLE, Int.reduceAdd, Int.reduceSub, Int.reduceMul, Int.reduceNeg, Int.reduceToNat, Nat.reduceMul], by simp only [f56, go_sem, Nat.reduceEqDiff, Nat.reduceAdd, Nat.reduceLeDiff, Int.reduceEq, Int.reduceLT, Int.reduceLE, Int.reduceAdd, Int.reduceSub, Int.reduceMul, Int.reduceNeg, Int.reduceToNat, Nat.reduceMul], by simp only [go_sem, Nat.reduceEqDiff, Nat.reduceAdd, Nat.reduceLeDiff, Int.reduceEq, Int.reduceLT, Int.reduceLE, Int.reduceAdd, Int.reduceSub, Int.reduceMul, Int.reduceNeg, Int.reduceToNat, Nat.reduceMul] <;> rfl, st3.set st.nx _, fun id hid => (AH.get_set_ne H3 _ (by omega)).trans (old3 id hid), by rw [AH.next_set]; omega, by rw [← row_done]; exact AH.get_set_eq H3 _ n3⟩
    · have hje : j = secret.length := by omega
      subst hje
      have hd : (List.range secret.length).map (fun j => pv z (coefs secret noise M j)) ++ zb (secret.length - secret.length) = dat secret noise M z := by simp [dat, zb]
      rw [hd] at g2
      have hsb := slcBytes_row (n := secret.length) (c := secret.length) g2 dat_len.symm
      have ho2 : Own H.next H2 2 s i (shc (shL secret noise M i)) := ho.keep old2
      obtain ⟨s', H4, hap, ho4, hold4, hn4, hl4⟩ := (ho2.push ⟨[.int .i64 ((i + 1 : Nat) : Int), .string (tx (dat secret noise M z))], 2, false⟩).append (bytes := 24) (k := 1) (new := [.int .i64 ((i + 1 : Nat) : Int), .string (tx (dat secret noise M z))]) (by rw [AH.next_push]; have := st2.nx; omega) (by omega) rfl (by omega)
      rw [hz, shL_succ] at ho4
      rw [AH.next_push] at hn4
      have st4 : Junk H H4 := ⟨fun id hid => (hold4 id hid).trans ((st2.push _).old id hid), by have := st2.nx; omega, hl4 H.next (Nat.le_refl _) (by rw [lw_push]; exact st2.low)⟩
      simp only [f0, f1, f2, f3, f10, f11, f12, f56, f57, hltj, hsb, hap, wi, List.toList_toArray, go_sem, Nat.reduceEqDiff, Nat.reduceAdd, Nat.reduceLeDiff, Int.reduceEq, Int.reduceLT, Int.reduceLE, Int.reduceAdd, Int.reduceSub, Int.reduceMul, Int.reduceNeg, Int.reduceToNat, Nat.reduceMul]
      exact ⟨n - (i + 1), by omega, i + 1, s', by omega, rfl, by simp only [f0, go_sem, Nat.reduceEqDiff, Nat.reduceAdd, Nat.reduceLeDiff, Int.reduceEq, Int.reduceLT, Int.reduceLE, Int.reduceAdd, Int.reduceSub, Int.reduceMul, Int.reduceNeg, Int.reduceToNat, Nat.reduceMul], by simp only [f1, go_sem, Nat.reduceEqDiff, Nat.reduceAdd, Nat.reduceLeDiff, Int.reduceEq, Int.reduceLT, Int.reduceLE, Int.reduceAdd, Int.reduceSub, Int.reduceMul, Int.reduceNeg, Int.reduceToNat, Nat.reduceMul], by simp only [f2, go_sem, Nat.reduceEqDiff, Nat.reduceAdd, Nat.reduceLeDiff, Int.reduceEq, Int.reduceLT, Int.reduceLE, Int.reduceAdd, Int.reduceSub, Int.reduceMul, Int.reduceNeg, Int.reduceToNat, Nat.reduceMul], by simp only [f3, go_sem, Nat.reduceEqDiff, Nat.reduceAdd, Nat.reduceLeDiff, Int.reduceEq, Int.reduceLT, Int.reduceLE, Int.reduceAdd, Int.reduceSub, Int.reduceMul, Int.reduceNeg, Int.reduceToNat, Nat.reduceMul], by simp only [go_sem, Nat.reduceEqDiff, Nat.reduceAdd, Nat.reduceLeDiff, Int.reduceEq, Int.reduceLT, Int.reduceLE, Int.reduceAdd, Int.reduceSub, Int.reduceMul, Int.reduceNeg, Int.reduceToNat, Nat.reduceMul], by simp only [go_sem, Nat.reduceEqDiff, Nat.reduceAdd, Nat.reduceLeDiff, Int.reduceEq, Int.reduceLT, Int.reduceLE, Int.reduceAdd, Int.reduceSub, Int.reduceMul, Int.reduceNeg, Int.reduceToNat, Nat.reduceMul] <;> rfl, ho4, st4⟩
  · have hie : i = n := by omega
    subst hie
    simp only [f0, f1, f2, f3, f10, f11, hlt, go_sem, Nat.reduceEqDiff, Nat.reduceAdd, Nat.reduceLeDiff, Int.reduceEq, Int.reduceLT, Int.reduceLE, Int.reduceAdd, Int.reduceSub, Int.reduceMul, Int.reduceNeg, Int.reduceToNat, Nat.reduceMul]
    rw [back_own2 ho (Nat.le_refl _) st.low (shc_p1 _) rfl]
    exact hQ
end Go.Proofs.Ytildhljhbbhmmaa.AM
namespace Go.Proofs.Ytildhljhbbhmmaa.AM
open Go
set_option linter.all false
set_option maxRecDepth 10000
variable {tbl : Tbl} [hT : TMono tbl]

theorem v38 (h74 : tbl 74 = some (.code m74)) (h38 : tbl 38 = some (.code m38)) (secret noise : List UInt8) (M n : Nat) (hs2 : secret.length ≤ 1024) (hn1 : M + 1 ≤ n) (hn2 : n ≤ 255) (hno : noise.length = secret.length * M) (H : AH) :
    Val tbl 38 [.string (tx secret), .string (tx noise), .int .i64 ((M + 1 : Nat) : Int), .int .i64 n] H (mkS H n) (mkH H 2 n (shc (shL secret noise M n))) := by
  refine Val.of_all fun Q hQ => ?_
  rw [rn_fun h38, k38]
  have hM : ((M + 1 : Nat) : Int) - 1 = (M : Int) := by omega
  have w1 := w64 (x := (M : Int)) (by omega) (by omega)
  have hle : secret.length * M ≤ 1024 * 255 := Nat.mul_le_mul (by omega) (by omega)
  have c0 : (0 : Int) ≤ secret.length := by omega
  have c1 : (secret.length : Int) ≤ 9223372036854775807 := by omega
  have c2 : secret.length ≤ 140737488355328 := by omega
  simp only [go_sem, Nat.reduceEqDiff, Nat.reduceAdd, Nat.reduceLeDiff, Int.reduceEq, Int.reduceLT, Int.reduceLE, Int.reduceAdd, Int.reduceSub, Int.reduceMul, Int.reduceNeg, Int.reduceToNat, Nat.reduceMul]
  refine rn_loop (fun m f H' => ∃ (i : Nat) (s : Value), i ≤ n ∧ m = n - i ∧ f 0 = .string (tx secret) ∧ f 1 = .string (tx noise) ∧ f 2 = .int .i64 ((M + 1 : Nat) : Int) ∧ f 3 = .int .i64 n ∧ f 9 = s ∧ f 10 = .int .i64 ((i + 1 : Nat) : Int) ∧ Own H.next H' 2 s i (shc (shL secret noise M i)) ∧ Junk H H') ?_ (n := n)
    ⟨0, .slice none 0 0, by omega, rfl, by simp only [go_sem, Nat.reduceEqDiff, Nat.reduceAdd, Nat.reduceLeDiff, Int.reduceEq, Int.reduceLT, Int.reduceLE, Int.reduceAdd, Int.reduceSub, Int.reduceMul, Int.reduceNeg, Int.reduceToNat, Nat.reduceMul], by simp only [go_sem, Nat.reduceEqDiff, Nat.reduceAdd, Nat.reduceLeDiff, Int.reduceEq, Int.reduceLT, Int.reduceLE, Int.reduceAdd, Int.reduceSub, Int.reduceMul, Int.reduceNeg, Int.reduceToNat, Nat.reduceMul], by simp only [go_sem, Nat.reduceEqDiff, Nat.reduceAdd, Nat.reduceLeDiff, Int.reduceEq, Int.reduceLT, Int.reduceLE, Int.reduceAdd, Int.reduceSub, Int.reduceMul, Int.reduceNeg, Int.reduceToNat, Nat.reduceMul], by simp only [go_sem, Nat.reduceEqDiff, Nat.reduceAdd, Nat.reduceLeDiff, Int.reduceEq, Int.reduceLT, Int.reduceLE, Int.reduceAdd, Int.reduceSub, Int.reduceMul, Int.reduceNeg, Int.reduceToNat, Nat.reduceMul], by simp only [go_sem, Nat.reduceEqDiff, Nat.reduceAdd, Nat.reduceLeDiff, Int.reduceEq, Int.reduceLT, Int.reduceLE, Int.reduceAdd, Int.reduceSub, Int.reduceMul, Int.reduceNeg, Int.reduceToNat, Nat.reduceMul] <;> rfl, by simp only [go_sem, Nat.reduceEqDiff, Nat.reduceAdd, Nat.reduceLeDiff, Int.reduceEq, Int.reduceLT, Int.reduceLE, Int.reduceAdd, Int.reduceSub, Int.reduceMul, Int.reduceNeg, Int.reduceToNat, Nat.reduceMul] <;> rfl, .inl ⟨rfl, rfl, rfl⟩, Junk.enter H⟩
  rintro m f H' ⟨i, s, hi, rfl, f0, f1, f2, f3, f9, f10, ho, st⟩
  by_cases hlt : ((i + 1 : Nat) : Int) ≤ n
  · have wi := w64 (x := ((i + 1 : Nat) : Int) + 1) (by omega) (by omega)
    simp only [f0, f1, f2, f3, f9, f10, hlt, tx_size, Int.toNat_natCast, rep_zb, c0, c1, c2, Int.le_refl, go_sem, Nat.reduceEqDiff, Nat.reduceAdd, Nat.reduceLeDiff, Int.reduceEq, Int.reduceLT, Int.reduceLE, Int.reduceAdd, Int.reduceSub, Int.reduceMul, Int.reduceNeg, Int.reduceToNat, Nat.reduceMul]
    obtain ⟨z, hz⟩ : ∃ z, z = UInt8.ofNat (i + 1) := ⟨_, rfl⟩
    have hzi : (z.toNat : Int) = ((i + 1 : Nat) : Int) := by
      rw [hz, UInt8.toNat_ofNat']; omega
    refine rn_loop (fun m f H2 => ∃ (j : Nat), j ≤ secret.length ∧ m = secret.length - j ∧ f 0 = .string (tx secret) ∧ f 1 = .string (tx noise) ∧ f 2 = .int .i64 ((M + 1 : Nat) : Int) ∧ f 3 = .int .i64 n ∧ f 9 = s ∧ f 10 = .int .i64 ((i + 1 : Nat) : Int) ∧ f 11 = .slice (some ⟨H'.next, 0, none⟩) secret.length secret.length ∧ f 25 = .int .i64 secret.length ∧ f 26 = .int .i64 j ∧ Junk H H2 ∧ (∀ id, id < H'.next → H2.get id = H'.get id) ∧ H'.next < H2.next ∧ H2.get H'.next = some (u8r ((List.range j).map (fun j => pv z (coefs secret noise M j)) ++ zb (secret.length - j)))) ?_ (n := secret.length)
      ⟨0, by omega, rfl, by simp only [f0, go_sem, Nat.reduceEqDiff, Nat.reduceAdd, Nat.reduceLeDiff, Int.reduceEq, Int.reduceLT, Int.reduceLE, Int.reduceAdd, Int.reduceSub, Int.reduceMul, Int.reduceNeg, Int.reduceToNat, Nat.reduceMul], by simp only [f1, go_sem, Nat.reduceEqDiff, Nat.reduceAdd, Nat.reduceLeDiff, Int.reduceEq, Int.reduceLT, Int.reduceLE, Int.reduceAdd, Int.reduceSub, Int.reduceMul, Int.reduceNeg, Int.reduceToNat, Nat.reduceMul], by simp only [f2, go_sem, Nat.reduceEqDiff, Nat.reduceAdd, Nat.reduceLeDiff, Int.reduceEq, Int.reduceLT, Int.reduceLE, Int.reduceAdd, Int.reduceSub, Int.reduceMul, Int.reduceNeg, Int.reduceToNat, Nat.reduceMul], by simp only [f3, go_sem, Nat.reduceEqDiff, Nat.reduceAdd, Nat.reduceLeDiff, Int.reduceEq, Int.reduceLT, Int.reduceLE, Int.reduceAdd, Int.reduceSub, Int.reduceMul, Int.reduceNeg, Int.reduceToNat, Nat.reduceMul], by simp only [f9, go_sem, Nat.reduceEqDiff, Nat.reduceAdd, Nat.reduceLeDiff, Int.reduceEq, Int.reduceLT, Int.reduceLE, Int.reduceAdd, Int.reduceSub, Int.reduceMul, Int.reduceNeg, Int.reduceToNat, Nat.reduceMul], by simp only [f10, go_sem, Nat.reduceEqDiff, Nat.reduceAdd, Nat.reduceLeDiff, Int.reduceEq, Int.reduceLT, Int.reduceLE, Int.reduceAdd, Int.reduceSub, Int.reduceMul, Int.reduceNeg, Int.reduceToNat, Nat.reduceMul], by simp only [go_sem, Nat.reduceEqDiff, Nat.reduceAdd, Nat.reduceLeDiff, Int.reduceEq, Int.reduceLT, Int.reduceLE, Int.reduceAdd, Int.reduceSub, Int.reduceMul, Int.reduceNeg, Int.reduceToNat, Nat.reduceMul], by simp only [go_sem, Nat.reduceEqDiff, Nat.reduceAdd, Nat.reduceLeDiff, Int.reduceEq, Int.reduceLT, Int.reduceLE, Int.reduceAdd, Int.reduceSub, Int.reduceMul, Int.reduceNeg, Int.reduceToNat, Nat.reduceMul], by simp only [go_sem, Nat.reduceEqDiff, Nat.reduceAdd, Nat.reduceLeDiff, Int.reduceEq, Int.reduceLT, Int.reduceLE, Int.reduceAdd, Int.reduceSub, Int.reduceMul, Int.reduceNeg, Int.reduceToNat, Nat.reduceMul] <;> rfl, st.push _, fun id hid => AH.get_push_lt H' _ hid, by rw [AH.next_push]; omega, AH.get_push_eq H' _⟩
    clear f0 f1 f2 f3 f9 f10
    rintro m f H2 ⟨j, hj, rfl, f0, f1, f2, f3, f9, f10, f11, f25, f26, st2, old2, n2, g2⟩
    by_cases hltj : (j : Int) < secret.length
    · have hj2 : j < secret.length := by omega
      have j0 : (0 : Int) ≤ j := by omega
      have hj3 : j + 1 ≤ secret.length := by omega
      have wj := w64 (x := (j : Int) + 1) (by omega) (by omega)
      have hjm : (j + 1) * M ≤ secret.length * M := Nat.mul_le_mul_right M hj3
      rw [Nat.succ_mul] at hjm
      have ejm : (j : Int) * (M : Int) = ((j * M : Nat) : Int) := by simp
      have wjm := w64 (x := ((j * M : Nat) : Int)) (by omega) (by omega)
      have hb := (gb secret j).toNat_lt
      have wb := w64 (x := ((gb secret j).toNat : Int)) (by omega) (by omega)
      simp only [f0, f1, f2, f3, f9, f10, f11, f25, f26, hltj, hM, w1, j0, hj3, tx_size, byteAt_tx, Int.toNat_natCast, wb, go_sem, Nat.reduceEqDiff, Nat.reduceAdd, Nat.reduceLeDiff, Int.reduceEq, Int.reduceLT, Int.reduceLE, Int.reduceAdd, Int.reduceSub, Int.reduceMul, Int.reduceNeg, Int.reduceToNat, Nat.reduceMul]
      refine rn_loop (fun m f H3 => ∃ (c : Nat) (v w : UInt8), c ≤ M ∧ m = M - c ∧ f 0 = .string (tx secret) ∧ f 1 = .string (tx noise) ∧ f 2 = .int .i64 ((M + 1 : Nat) : Int) ∧ f 3 = .int .i64 n ∧ f 9 = s ∧ f 10 = .int .i64 ((i + 1 : Nat) : Int) ∧ f 11 = .slice (some ⟨H'.next, 0, none⟩) secret.length secret.length ∧ f 12 = .int .i64 j ∧ f 13 = .int .i64 (v.toNat : Int) ∧ f 14 = .int .i64 (w.toNat : Int) ∧ f 25 = .int .i64 secret.length ∧ f 26 = .int .i64 j ∧ f 34 = .int .i64 M ∧ f 35 = .int .i64 c ∧ rS z v w ((cf noise M j).drop c) = pv z (coefs secret noise M j) ∧ H3 = H2) ?_ (n := M)
        ⟨0, gb secret j, 1, by omega, rfl, by simp only [f0, go_sem, Nat.reduceEqDiff, Nat.reduceAdd, Nat.reduceLeDiff, Int.reduceEq, Int.reduceLT, Int.reduceLE, Int.reduceAdd, Int.reduceSub, Int.reduceMul, Int.reduceNeg, Int.reduceToNat, Nat.reduceMul], by simp only [f1, go_sem, Nat.reduceEqDiff, Nat.reduceAdd, Nat.reduceLeDiff, Int.reduceEq, Int.reduceLT, Int.reduceLE, Int.reduceAdd, Int.reduceSub, Int.reduceMul, Int.reduceNeg, Int.reduceToNat, Nat.reduceMul], by simp only [f2, go_sem, Nat.reduceEqDiff, Nat.reduceAdd, Nat.reduceLeDiff, Int.reduceEq, Int.reduceLT, Int.reduceLE, Int.reduceAdd, Int.reduceSub, Int.reduceMul, Int.reduceNeg, Int.reduceToNat, Nat.reduceMul], by simp only [f3, go_sem, Nat.reduceEqDiff, Nat.reduceAdd, Nat.reduceLeDiff, Int.reduceEq, Int.reduceLT, Int.reduceLE, Int.reduceAdd, Int.reduceSub, Int.reduceMul, Int.reduceNeg, Int.reduceToNat, Nat.reduceMul], by simp only [f9, go_sem, Nat.reduceEqDiff, Nat.reduceAdd, Nat.reduceLeDiff, Int.reduceEq, Int.reduceLT, Int.reduceLE, Int.reduceAdd, Int.reduceSub, Int.reduceMul, Int.reduceNeg, Int.reduceToNat, Nat.reduceMul], by simp only [f10, go_sem, Nat.reduceEqDiff, Nat.reduceAdd, Nat.reduceLeDiff, Int.reduceEq, Int.reduceLT, Int.reduceLE, Int.reduceAdd, Int.reduceSub, Int.reduceMul, Int.reduceNeg, Int.reduceToNat, Nat.reduceMul], by simp only [f11, go_sem, Nat.reduceEqDiff, Nat.reduceAdd, Nat.reduceLeDiff, Int.reduceEq, Int.reduceLT, Int.reduceLE, Int.reduceAdd, Int.reduceSub, Int.reduceMul, Int.reduceNeg, Int.reduceToNat, Nat.reduceMul], by simp only [go_sem, Nat.reduceEqDiff, Nat.reduceAdd, Nat.reduceLeDiff, Int.reduceEq, Int.reduceLT, Int.reduceLE, Int.reduceAdd, Int.reduceSub, Int.reduceMul, Int.reduceNeg, Int.reduceToNat, Nat.reduceMul], by simp only [go_sem, Nat.reduceEqDiff, Nat.reduceAdd, Nat.reduceLeDiff, Int.reduceEq, Int.reduceLT, Int.reduceLE, Int.reduceAdd, Int.reduceSub, Int.reduceMul, Int.reduceNeg, Int.reduceToNat, Nat.reduceMul], by simp only [go_sem, Nat.reduceEqDiff, Nat.reduceAdd, Nat.reduceLeDiff, Int.reduceEq, Int.reduceLT, Int.reduceLE, Int.reduceAdd, Int.reduceSub, Int.reduceMul, Int.reduceNeg, Int.reduceToNat, Nat.reduceMul] <;> rfl, by simp only [f25, go_sem, Nat.reduceEqDiff, Nat.reduceAdd, Nat.reduceLeDiff, Int.reduceEq, Int.reduceLT, Int.reduceLE, Int.reduceAdd, Int.reduceSub, Int.reduceMul, Int.reduceNeg, Int.reduceToNat, Nat.reduceMul], by simp only [f26, go_sem, Nat.reduceEqDiff, Nat.reduceAdd, Nat.reduceLeDiff, Int.reduceEq, Int.reduceLT, Int.reduceLE, Int.reduceAdd, Int.reduceSub, Int.reduceMul, Int.reduceNeg, Int.reduceToNat, Nat.reduceMul], by simp only [go_sem, Nat.reduceEqDiff, Nat.reduceAdd, Nat.reduceLeDiff, Int.reduceEq, Int.reduceLT, Int.reduceLE, Int.reduceAdd, Int.reduceSub, Int.reduceMul, Int.reduceNeg, Int.reduceToNat, Nat.reduceMul], by simp only [go_sem, Nat.reduceEqDiff, Nat.reduceAdd, Nat.reduceLeDiff, Int.reduceEq, Int.reduceLT, Int.reduceLE, Int.reduceAdd, Int.reduceSub, Int.reduceMul, Int.reduceNeg, Int.reduceToNat, Nat.reduceMul] <;> rfl, by rw [List.drop_zero]; exact rS_pv _ _ _, rfl⟩
      clear f0 f1 f2 f3 f9 f10 f11 f25 f26
      rintro m f H3 ⟨c, v, w, hc, rfl, f0, f1, f2, f3, f9, f10, f11, f12, f13, f14, f25, f26, f34, f35, hrs, rfl⟩
      by_cases hltc : (c : Int) < M
      · have hc2 : c < M := by omega
        rw [cf_drop hc2] at hrs
        have wc := w64 (x := (c : Int) + 1) (by omega) (by omega)
        have wa := w64 (x := ((j * M : Nat) : Int) + (c : Int)) (by omega) (by omega)
        have ea : ((j * M : Nat) : Int) + (c : Int) = ((j * M + c : Nat) : Int) := by omega
        have wa' := w64 (x := ((j * M + c : Nat) : Int)) (by omega) (by omega)
        have i0 : (0 : Int) ≤ ((j * M + c : Nat) : Int) := by omega
        have i1 : ((j * M + c : Nat) : Int) < noise.length := by omega
        have i2 : j * M + c + 1 ≤ noise.length := by omega
        have hb2 := (gb noise (j * M + c)).toNat_lt
        have wn := w64 (x := ((gb noise (j * M + c)).toNat : Int)) (by omega) (by omega)
        have hp := fun X => v74 h74 w z X
        rw [hzi] at hp
        simp only [f0, f1, f2, f3, f9, f10, f11, f12, f13, f14, f25, f26, f34, f35, hltc, ↓(hp _).run, ↓(v74 h74 _ _ _).run, hM, w1, ejm, wjm, ea, wa', i0, i1, i2, tx_size, byteAt_tx, Int.toNat_natCast, wn, xor63u, wc, go_sem, Nat.reduceEqDiff, Nat.reduceAdd, Nat.reduceLeDiff, Int.reduceEq, Int.reduceLT, Int.reduceLE, Int.reduceAdd, Int.reduceSub, Int.reduceMul, Int.reduceNeg, Int.reduceToNat, Nat.reduceMul]
        exact ⟨M - (c + 1), by omega, c + 1, _, _, by omega, rfl, by simp only [f0, go_sem, Nat.reduceEqDiff, Nat.reduceAdd, Nat.reduceLeDiff, Int.reduceEq, Int.reduceLT, Int.reduceLE, Int.reduceAdd, Int.reduceSub, Int.reduceMul, Int.reduceNeg, Int.reduceToNat, Nat.reduceMul], by simp only [f1, go_sem, Nat.reduceEqDiff, Nat.reduceAdd, Nat.reduceLeDiff, Int.reduceEq, Int.reduceLT, Int.reduceLE, Int.reduceAdd, Int.reduceSub, Int.reduceMul, Int.reduceNeg, Int.reduceToNat, Nat.reduceMul], by simp only [f2, go_sem, Nat.reduceEqDiff, Nat.reduceAdd, Nat.reduceLeDiff, Int.reduceEq, Int.reduceLT, Int.reduceLE, Int.reduceAdd, Int.reduceSub, Int.reduceMul, Int.reduceNeg, Int.reduceToNat, Nat.reduceMul], by simp only [f3, go_sem, Nat.reduceEqDiff, Nat.reduceAdd, Nat.reduceLeDiff, Int.reduceEq, Int.reduceLT, Int.reduceLE, Int.reduceAdd, Int.reduceSub, Int.reduceMul, Int.reduceNeg, Int.reduceToNat, Nat.reduceMul], by simp only [f9, go_sem, Nat.reduceEqDiff, Nat.reduceAdd, Nat.reduceLeDiff, Int.reduceEq, Int.reduceLT, Int.reduceLE, Int.reduceAdd, Int.reduceSub, Int.reduceMul, Int.reduceNeg, Int.reduceToNat, Nat.reduceMul], by simp only [f10, go_sem, Nat.reduceEqDiff, Nat.reduceAdd, Nat.reduceLeDiff, Int.reduceEq, Int.reduceLT, Int.reduceLE, Int.reduceAdd, Int.reduceSub, Int.reduceMul, Int.reduceNeg, Int.reduceToNat, Nat.reduceMul], by simp only [f11, go_sem, Nat.reduceEqDiff, Nat.reduceAdd, Nat.reduceLeDiff, Int.reduceEq, Int.reduceLT, Int.reduceLE, Int.reduceAdd, Int.reduceSub, Int.reduceMul, Int.reduceNeg, Int.reduceToNat, Nat.reduceMul], by simp only [f12, go_sem, Nat.reduceEqDiff, Nat.reduceAdd, Nat.reduceLeDiff, Int.reduceEq, Int.reduceLT, Int.reduceLE, Int.reduceAdd, Int.reduceSub, Int.reduceMul, Int.reduceNeg, Int.reduceToNat, Nat.reduceMul], by simp only [go_sem, Nat.reduceEqDiff, Nat.reduceAdd, Nat.reduceLeDiff, Int.reduceEq, Int.reduceLT, Int.reduceLE, Int.reduceAdd, Int.reduceSub, Int.reduceMul, Int.reduceNeg, Int.reduceToNat, Nat.reduceMul], by simp only [go_sem, Nat.reduceEqDiff, Nat.reduceAdd, Nat.reduceLeDiff, Int.reduceEq, Int.reduceLT, Int.reduceLE, Int.reduceAdd, Int.reduceSub, Int.reduceMul, Int.reduceNeg, Int.reduceToNat, Nat.reduceMul], by simp only [f25, go_sem, Nat.reduceEqDiff, Nat.reduceAdd, Nat.reduceLeDiff, Int.reduceEq, Int.reduceLT, Int.reduceLE, Int.reduceAdd, Int.reduceSub, Int.reduceMul, Int.reduceNeg, Int.reduceToNat, Nat.reduceMul], by simp only [f26, go_sem, Nat.reduceEqDiff, Nat.reduceAdd, Nat.reduceLeDiff, Int.reduceEq, Int.reduceLT, Int.reduceLE, Int.reduceAdd, Int.reduceSub, Int.reduceMul, Int.reduceNeg, Int.reduceToNat, Nat.reduceMul], by simp only [f34, go_sem, Nat.reduceEqDiff, Nat.reduceAdd, Nat.reduceLeDiff, Int.reduceEq, Int.reduceLT, Int.reduceLE, Int.reduceAdd, Int.reduceSub, Int.reduceMul, Int.reduceNeg, Int.reduceToNat, Nat.reduceMul], by simp only [go_sem, Nat.reduceEqDiff, Nat.reduceAdd, Nat.reduceLeDiff, Int.reduceEq, Int.reduceLT, Int.reduceLE, Int.reduceAdd, Int.reduceSub, Int.reduceMul, Int.reduceNeg, Int.reduceToNat, Nat.reduceMul] <;> rfl, hrs, rfl⟩
      · have hce : c = M := by omega
        subst hce
        rw [List.drop_of_length_le (by rw [cf_len]; omega)] at hrs
        have hv : v = pv z (coefs secret noise c j) := hrs
        have hrow := row_first (fun j => pv z (coefs secret noise c j)) hj2 (pv z (coefs secret noise c j))
        have hlen : ((List.range j).map (fun j => pv z (coefs secret noise c j)) ++ zb (secret.length - j)).length = secret.length := by simp [zb]; omega
        rw [hv] at f13
        simp only [f0, f1, f2, f3, f9, f10, f11, f12, f13, f14, f25, f26, f34, f35, hltc, hltj, wrap8u, j0, hj3, g2, hlen, idxSP_slc, Int.toNat_natCast, u8r_len, u8r_ro, u8r_es, addA, Nat.zero_add, Nat.mul_one, stc_eq, stB_some, splice_one, u8r_set, hrow, wj, go_sem, Nat.reduceEqDiff, Nat.reduceAdd, Nat.reduceLeDiff, Int.reduceEq, Int.reduceLT, Int.reduceLE, Int.reduceAdd, Int.reduceSub, Int.reduceMul, Int.reduceNeg, Int.reduceToNat, Nat.reduceMul]
        exact ⟨secret.length - (j + 1), by omega, j + 1, by omega, rfl, by simp only [f0, go_sem, Nat.reduceEqDiff, Nat.reduceAdd, Nat.reduceLeDiff, Int.reduceEq, Int.reduceLT, Int.reduceLE, Int.reduceAdd, Int.reduceSub, Int.reduceMul, Int.reduceNeg, Int.reduceToNat, Nat.reduceMul], by simp only [f1, go_sem, Nat.reduceEqDiff, Nat.reduceAdd, Nat.reduceLeDiff, Int.reduceEq, Int.reduceLT, Int.reduceLE, Int.reduceAdd, Int.reduceSub, Int.reduceMul, Int.reduceNeg, Int.reduceToNat, Nat.reduceMul], by simp only [f2, go_sem, Nat.reduceEqDiff, Nat.reduceAdd, Nat.reduceLeDiff, Int.reduceEq, Int.reduceLT, Int.reduceLE, Int.reduceAdd, Int.reduceSub, Int.reduceMul, Int.reduceNeg, Int.reduceToNat, Nat.reduceMul], by simp only [f3, go_sem, Nat.reduceEqDiff, Nat.reduceAdd, Nat.reduceLeDiff, Int.reduceEq, Int.reduceLT, Int.reduceLE, Int.reduceAdd, Int.reduceSub, Int.reduceMul, Int.reduceNeg, Int.reduceToNat, Nat.reduceMul], by simp only [f9, go_sem, Nat.reduceEqDiff, Nat.reduceAdd, Nat.reduceLeDiff, Int.reduceEq, Int.reduceLT, Int.reduceLE, Int.reduceAdd, Int.reduceSub, Int.reduceMul, Int.reduceNeg, Int.reduceToNat, Nat.reduceMul], by simp only [f10, go_sem, Nat.reduceEqDiff, Nat.reduceAdd, Nat.reduceLeDiff, Int.reduceEq, Int.reduceLT, Int.reduceLE, Int.reduceAdd, Int.reduceSub, Int.reduceMul, Int.reduceNeg, Int.reduceToNat, Nat.reduceMul], by simp only [f11, go_sem, Nat.reduceEqDiff, Nat.reduceAdd, Nat.reduceLeDiff, Int.reduceEq, Int.reduceLT, Int.reduceLE, Int.reduceAdd, Int.reduceSub, Int.reduceMul, Int.reduceNeg, Int.reduceToNat, Nat.reduceMul], by simp only [f25, go_sem, Nat.reduceEqDiff, Nat.reduceAdd, Nat.reduceLeDiff, Int.reduceEq, Int.reduceLT, Int.reduceLE, Int.reduceAdd, Int.reduceSub, Int.reduceMul, Int.reduceNeg, Int.reduceToNat, Nat.reduceMul], by simp only [go_sem, Nat.reduceEqDiff, Nat.reduceAdd, Nat.reduceLeDiff, Int.reduceEq, Int.reduceLT, Int.reduceLE, Int.reduceAdd, Int.reduceSub, Int.reduceMul, Int.reduceNeg, Int.reduceToNat, Nat.reduceMul] <;> rfl, st2.set st.nx _, fun id hid => (AH.get_set_ne _ _ (by omega)).trans (old2 id hid), by rw [AH.next_set]; omega, by rw [← row_done]; exact AH.get_set_eq _ _ n2⟩
    · have hje : j = secret.length := by omega
      subst hje
      have hd : (List.range secret.length).map (fun j => pv z (coefs secret noise M j)) ++ zb (secret.length - secret.length) = dat secret noise M z := by simp [dat, zb]
      rw [hd] at g2
      have hsb := slcBytes_row (n := secret.length) (c := secret.length) g2 dat_len.symm
      have ho2 : Own H.next H2 2 s i (shc (shL secret noise M i)) := ho.keep old2
      obtain ⟨s', H4, hap, ho4, hold4, hn4, hl4⟩ := (ho2.push ⟨[.int .i64 ((i + 1 : Nat) : Int), .string (tx (dat secret noise M z))], 2, false⟩).append (bytes := 24) (k := 1) (new := [.int .i64 ((i + 1 : Nat) : Int), .string (tx (dat secret noise M z))]) (by rw [AH.next_push]; have := st2.nx; omega) (by omega) rfl (by omega)
      rw [hz, shL_succ] at ho4
      rw [AH.next_push] at hn4
      have st4 : Junk H H4 := ⟨fun id hid => (hold4 id hid).trans ((st2.push _).old id hid), by have := st2.nx; omega, hl4 H.next (Nat.le_refl _) (by rw [lw_push]; exact st2.low)⟩
      simp only [f0, f1, f2, f3, f9, f10, f11, f25, f26, hltj, hsb, hap, wi, List.toList_toArray, go_sem, Nat.reduceEqDiff, Nat.reduceAdd, Nat.reduceLeDiff, Int.reduceEq, Int.reduceLT, Int.reduceLE, Int.reduceAdd, Int.reduceSub, Int.reduceMul, Int.reduceNeg, Int.reduceToNat, Nat.reduceMul]
      exact ⟨n - (i + 1), by omega, i + 1, s', by omega, rfl, by simp only [f0, go_sem, Nat.reduceEqDiff, Nat.reduceAdd, Nat.reduceLeDiff, Int.reduceEq, Int.reduceLT, Int.reduceLE, Int.reduceAdd, Int.reduceSub, Int.reduceMul, Int.reduceNeg, Int.reduceToNat, Nat.reduceMul], by simp only [f1, go_sem, Nat.reduceEqDiff, Nat.reduceAdd, Nat.reduceLeDiff, Int.reduceEq, Int.reduceLT, Int.reduceLE, Int.reduceAdd, Int.reduceSub, Int.reduceMul, Int.reduceNeg, Int.reduceToNat, Nat.reduceMul], by simp only [f2, go_sem, Nat.reduceEqDiff, Nat.reduceAdd, Nat.reduceLeDiff, Int.reduceEq, Int.reduceLT, Int.reduceLE, Int.reduceAdd, Int.reduceSub, Int.reduceMul, Int.reduceNeg, Int.reduceToNat, Nat.reduceMul], by simp only [f3, go_sem, Nat.reduceEqDiff, Nat.reduceAdd, Nat.reduceLeDiff, Int.reduceEq, Int.reduceLT, Int.reduceLE, Int.reduceAdd, Int.reduceSub, Int.reduceMul, Int.reduceNeg, Int.reduceToNat, Nat.reduceMul], by simp only [go_sem, Nat.reduceEqDiff, Nat.reduceAdd, Nat.reduceLeDiff, Int.reduceEq, Int.reduceLT, Int.reduceLE, Int.reduceAdd, Int.reduceSub, Int.reduceMul, Int.reduceNeg, Int.reduceToNat, Nat.reduceMul], by simp only [go_sem, Nat.reduceEqDiff, Nat.reduceAdd, Nat.reduceLeDiff, Int.reduceEq, Int.reduceLT, Int.reduceLE, Int.reduceAdd, Int.reduceSub, Int.reduceMul, Int.reduceNeg, Int.reduceToNat, Nat.reduceMul] <;> rfl, ho4, st4⟩
  · have hie : i = n := by omega
    subst hie
    simp only [f0, f1, f2, f3, f9, f10, hlt, go_sem, Nat.reduceEqDiff, Nat.reduceAdd, Nat.reduceLeDiff, Int.reduceEq, Int.reduceLT, Int.reduceLE, Int.reduceAdd, Int.reduceSub, Int.reduceMul, Int.reduceNeg, Int.reduceToNat, Nat.reduceMul]
    rw [back_own ho (Nat.le_refl _) st.low (shc_p1 _)]
    exact hQ
end Go.Proofs.Ytildhljhbbhmmaa.AM
namespace Go.Proofs.Ytildhljhbbhmmaa.AM
open Go
set_option linter.all false
set_option maxRecDepth 10000

/-- The first place of a share, or -1. -/
def fJ (l : List Sh) (p : Sh) : Int := match l.findIdx? (fun q => decide (q = p)) with
  | some j => j
  | none => -1
theorem fJ_some {l : List Sh} {p : Sh} {j : Nat} (hj : j < l.length) (h : l[j] = p) (h0 : ∀ k (hk : k < l.length), k < j → l[k] ≠ p) : fJ l p = j := by
  have : l.findIdx? (fun q => decide (q = p)) = some j := by
    rw [List.findIdx?_eq_some_iff_getElem]
    refine ⟨hj, by simpa using h, fun k hk => ?_⟩
    simpa using h0 k (by omega) hk
  simp only [fJ, this]
theorem fJ_none {l : List Sh} {p : Sh} (h0 : ∀ k (hk : k < l.length), l[k] ≠ p) : fJ l p = -1 := by
  have : l.findIdx? (fun q => decide (q = p)) = none := by
    rw [List.findIdx?_eq_none_iff]
    intro q hq
    obtain ⟨k, hk, rfl⟩ := List.getElem_of_mem hq
    simpa using h0 k hk
  simp only [fJ, this]
theorem fJ_mem {l : List Sh} {p : Sh} : decide (0 ≤ fJ l p) = decide (p ∈ l) := by
  cases h : l.findIdx? (fun q => decide (q = p)) with
  | some j =>
    simp only [fJ, h]
    rw [List.findIdx?_eq_some_iff_getElem] at h
    obtain ⟨hj, h1, _⟩ := h
    have h1' : l[j] = p := by simpa using h1
    have : p ∈ l := h1' ▸ List.getElem_mem hj
    simp [this]
  | none =>
    simp only [fJ, h]
    rw [List.findIdx?_eq_none_iff] at h
    have : p ∉ l := fun hp => by simpa using h p hp
    simp [this]
theorem eqAt_sh (p q : Sh) : eqAt [.int .i64 p.1, .string (tx p.2)] [.int .i64 q.1, .string (tx q.2)] [(0, .int), (1, .str)] = some (decide (p = q)) := by
  obtain ⟨a, b⟩ := p
  obtain ⟨x, y⟩ := q
  by_cases h1 : a = x <;> by_cases h2 : b = y <;> simp [eqAt, cellEq, h1, h2, tx_inj, Prod.ext_iff]
theorem aggV_sh (neq : Bool) (p q : Sh) : aggV neq [(0, .int), (1, .str)] (.agg #[.int .i64 p.1, .string (tx p.2)]) (.agg #[.int .i64 q.1, .string (tx q.2)]) = some (.bool (if neq = true then !decide (p = q) else decide (p = q))) := by
  have := eqAt_sh p q
  simp only [aggV, List.toList_toArray, this]
variable {tbl : Tbl} [hT : TMono tbl]
theorem v37 (h37 : tbl 37 = some (.code m37)) (l : List Sh) (hl : l.length ≤ 1000000) {H : AH} {a b : Value} (ha : Sl H 2 a l.length (shc l)) (hb : Sl H 2 b l.length (shc l)) : Val tbl 37 [a, b] H (.bool true) H := by
  refine Val.of_all fun Q hQ => ?_
  obtain ⟨ad, c, rfl⟩ := ha.shape
  obtain ⟨bd, d, rfl⟩ := hb.shape
  rw [rn_fun h37, k37]
  simp only [go_sem, Nat.reduceEqDiff, Nat.reduceAdd, Nat.reduceLeDiff, Int.reduceEq, Int.reduceLT, Int.reduceLE, Int.reduceAdd, Int.reduceSub, Int.reduceMul, Int.reduceNeg, Int.reduceToNat, Nat.reduceMul]
  refine rn_loop (fun mm f H' => ∃ j : Nat, j ≤ l.length ∧ mm = l.length - j ∧ f 0 = .slice ad l.length c ∧ f 1 = .slice bd l.length d ∧ f 12 = .int .i64 l.length ∧ f 13 = .int .i64 j ∧ H' = H.enter) ?_ (n := l.length)
    ⟨0, by omega, rfl, by simp only [go_sem, Nat.reduceEqDiff, Nat.reduceAdd, Nat.reduceLeDiff, Int.reduceEq, Int.reduceLT, Int.reduceLE, Int.reduceAdd, Int.reduceSub, Int.reduceMul, Int.reduceNeg, Int.reduceToNat, Nat.reduceMul], by simp only [go_sem, Nat.reduceEqDiff, Nat.reduceAdd, Nat.reduceLeDiff, Int.reduceEq, Int.reduceLT, Int.reduceLE, Int.reduceAdd, Int.reduceSub, Int.reduceMul, Int.reduceNeg, Int.reduceToNat, Nat.reduceMul], by simp only [go_sem, Nat.reduceEqDiff, Nat.reduceAdd, Nat.reduceLeDiff, Int.reduceEq, Int.reduceLT, Int.reduceLE, Int.reduceAdd, Int.reduceSub, Int.reduceMul, Int.reduceNeg, Int.reduceToNat, Nat.reduceMul], by simp only [go_sem, Nat.reduceEqDiff, Nat.reduceAdd, Nat.reduceLeDiff, Int.reduceEq, Int.reduceLT, Int.reduceLE, Int.reduceAdd, Int.reduceSub, Int.reduceMul, Int.reduceNeg, Int.reduceToNat, Nat.reduceMul] <;> rfl, rfl⟩
  rintro mm f H' ⟨j, hj, rfl, f0, f1, f12, f13, rfl⟩
  by_cases hlt : (j : Int) < l.length
  · have hj2 : j < l.length := by omega
    have wj := w64 (x := (j : Int) + 1) (by omega) (by omega)
    simp only [f0, f1, f12, f13, hlt, go_sem, Nat.reduceEqDiff, Nat.reduceAdd, Nat.reduceLeDiff, Int.reduceEq, Int.reduceLT, Int.reduceLE, Int.reduceAdd, Int.reduceSub, Int.reduceMul, Int.reduceNeg, Int.reduceToNat, Nat.reduceMul]
    refine ha.at_ hj2 fun q hq1 hq2 => ?_
    rw [shc_at _ _ hj2] at hq2
    simp only [f0, f1, f12, f13, hq2, go_sem, Nat.reduceEqDiff, Nat.reduceAdd, Nat.reduceLeDiff, Int.reduceEq, Int.reduceLT, Int.reduceLE, Int.reduceAdd, Int.reduceSub, Int.reduceMul, Int.reduceNeg, Int.reduceToNat, Nat.reduceMul]
    refine hb.at_ hj2 fun q' hq3 hq4 => ?_
    rw [shc_at _ _ hj2] at hq4
    simp only [f0, f1, f12, f13, hq4, wj, aggV_sh, go_sem, Nat.reduceEqDiff, Nat.reduceAdd, Nat.reduceLeDiff, Int.reduceEq, Int.reduceLT, Int.reduceLE, Int.reduceAdd, Int.reduceSub, Int.reduceMul, Int.reduceNeg, Int.reduceToNat, Nat.reduceMul]
    exact ⟨l.length - (j + 1), by omega, j + 1, by omega, rfl, by simp only [f0, go_sem, Nat.reduceEqDiff, Nat.reduceAdd, Nat.reduceLeDiff, Int.reduceEq, Int.reduceLT, Int.reduceLE, Int.reduceAdd, Int.reduceSub, Int.reduceMul, Int.reduceNeg, Int.reduceToNat, Nat.reduceMul], by simp only [f1, go_sem, Nat.reduceEqDiff, Nat.reduceAdd, Nat.reduceLeDiff, Int.reduceEq, Int.reduceLT, Int.reduceLE, Int.reduceAdd, Int.reduceSub, Int.reduceMul, Int.reduceNeg, Int.reduceToNat, Nat.reduceMul], by simp only [f12, go_sem, Nat.reduceEqDiff, Nat.reduceAdd, Nat.reduceLeDiff, Int.reduceEq, Int.reduceLT, Int.reduceLE, Int.reduceAdd, Int.reduceSub, Int.reduceMul, Int.reduceNeg, Int.reduceToNat, Nat.reduceMul], by simp only [go_sem, Nat.reduceEqDiff, Nat.reduceAdd, Nat.reduceLeDiff, Int.reduceEq, Int.reduceLT, Int.reduceLE, Int.reduceAdd, Int.reduceSub, Int.reduceMul, Int.reduceNeg, Int.reduceToNat, Nat.reduceMul] <;> rfl, rfl⟩
  · simp only [f0, f1, f12, f13, hlt, go_sem, Nat.reduceEqDiff, Nat.reduceAdd, Nat.reduceLeDiff, Int.reduceEq, Int.reduceLT, Int.reduceLE, Int.reduceAdd, Int.reduceSub, Int.reduceMul, Int.reduceNeg, Int.reduceToNat, Nat.reduceMul]
    exact hQ
theorem v75 (h75 : tbl 75 = some (.code m75)) (l : List Sh) (hl : l.length ≤ 1000000) {H : AH} {v : Value} (p : Sh) (hs : Sl H 2 v l.length (shc l)) :
    Val tbl 75 [v, .agg #[.int .i64 p.1, .string (tx p.2)]] H (.int .i64 (fJ l p)) H := by
  refine Val.of_all fun Q hQ => ?_
  obtain ⟨ad, c, rfl⟩ := hs.shape
  rw [rn_fun h75, k75]
  simp only [List.toList_toArray, go_sem, Nat.reduceEqDiff, Nat.reduceAdd, Nat.reduceLeDiff, Int.reduceEq, Int.reduceLT, Int.reduceLE, Int.reduceAdd, Int.reduceSub, Int.reduceMul, Int.reduceNeg, Int.reduceToNat, Nat.reduceMul]
  refine rn_loop (fun mm f H' => ∃ j : Nat, j ≤ l.length ∧ mm = l.length - j ∧ f 0 = .slice ad l.length c ∧ f 3 = .pointer (some ⟨H.next, 0, none⟩) ∧ f 7 = .int .i64 l.length ∧ f 8 = .int .i64 j ∧ H' = H.enter.push ⟨[.int .i64 p.1, .string (tx p.2)], 1, false⟩ ∧ (∀ i (h : i < l.length), i < j → l[i] ≠ p)) ?_ (n := l.length)
    ⟨0, by omega, rfl, by simp only [go_sem, Nat.reduceEqDiff, Nat.reduceAdd, Nat.reduceLeDiff, Int.reduceEq, Int.reduceLT, Int.reduceLE, Int.reduceAdd, Int.reduceSub, Int.reduceMul, Int.reduceNeg, Int.reduceToNat, Nat.reduceMul], by simp only [go_sem, Nat.reduceEqDiff, Nat.reduceAdd, Nat.reduceLeDiff, Int.reduceEq, Int.reduceLT, Int.reduceLE, Int.reduceAdd, Int.reduceSub, Int.reduceMul, Int.reduceNeg, Int.reduceToNat, Nat.reduceMul], by simp only [go_sem, Nat.reduceEqDiff, Nat.reduceAdd, Nat.reduceLeDiff, Int.reduceEq, Int.reduceLT, Int.reduceLE, Int.reduceAdd, Int.reduceSub, Int.reduceMul, Int.reduceNeg, Int.reduceToNat, Nat.reduceMul], by simp only [go_sem, Nat.reduceEqDiff, Nat.reduceAdd, Nat.reduceLeDiff, Int.reduceEq, Int.reduceLT, Int.reduceLE, Int.reduceAdd, Int.reduceSub, Int.reduceMul, Int.reduceNeg, Int.reduceToNat, Nat.reduceMul] <;> rfl, rfl, fun i h h2 => absurd h2 (by omega)⟩
  rintro mm f H' ⟨j, hj, rfl, f0, f3, f7, f8, rfl, hno⟩
  have hg := AH.get_push_eq H.enter ⟨[.int .i64 p.1, .string (tx p.2)], 1, false⟩
  rw [nx_enter] at hg
  have hnl : ¬ (H.enter.push ⟨[.int .i64 p.1, .string (tx p.2)], 1, false⟩).low < H.next := by rw [lw_push, lw_enter]; omega
  by_cases hlt : (j : Int) < l.length
  · have hj2 : j < l.length := by omega
    have wj := w64 (x := (j : Int) + 1) (by omega) (by omega)
    simp only [f0, f3, f7, f8, hlt, hg, go_sem, Nat.reduceEqDiff, Nat.reduceAdd, Nat.reduceLeDiff, Int.reduceEq, Int.reduceLT, Int.reduceLE, Int.reduceAdd, Int.reduceSub, Int.reduceMul, Int.reduceNeg, Int.reduceToNat, Nat.reduceMul]
    refine hs.at_ hj2 fun q hq1 hq2 => ?_
    rw [shc_at _ _ hj2] at hq2
    have hqn : ¬ q.block = H.next := by omega
    simp only [f0, f3, f7, f8, hq2, hqn, hg, aggV_sh, go_sem, Nat.reduceEqDiff, Nat.reduceAdd, Nat.reduceLeDiff, Int.reduceEq, Int.reduceLT, Int.reduceLE, Int.reduceAdd, Int.reduceSub, Int.reduceMul, Int.reduceNeg, Int.reduceToNat, Nat.reduceMul]
    by_cases hx : p = l[j]
    · rw [fJ_some hj2 hx.symm hno] at hQ
      simp only [f0, f3, f7, f8, hx, hnl, go_sem, Nat.reduceEqDiff, Nat.reduceAdd, Nat.reduceLeDiff, Int.reduceEq, Int.reduceLT, Int.reduceLE, Int.reduceAdd, Int.reduceSub, Int.reduceMul, Int.reduceNeg, Int.reduceToNat, Nat.reduceMul]
      simp only [hx] at hnl hQ
      exact hQ
    · simp only [f0, f3, f7, f8, hx, wj, go_sem, Nat.reduceEqDiff, Nat.reduceAdd, Nat.reduceLeDiff, Int.reduceEq, Int.reduceLT, Int.reduceLE, Int.reduceAdd, Int.reduceSub, Int.reduceMul, Int.reduceNeg, Int.reduceToNat, Nat.reduceMul]
      refine ⟨l.length - (j + 1), by omega, j + 1, by omega, rfl, by simp only [f0, go_sem, Nat.reduceEqDiff, Nat.reduceAdd, Nat.reduceLeDiff, Int.reduceEq, Int.reduceLT, Int.reduceLE, Int.reduceAdd, Int.reduceSub, Int.reduceMul, Int.reduceNeg, Int.reduceToNat, Nat.reduceMul], by simp only [f3, go_sem, Nat.reduceEqDiff, Nat.reduceAdd, Nat.reduceLeDiff, Int.reduceEq, Int.reduceLT, Int.reduceLE, Int.reduceAdd, Int.reduceSub, Int.reduceMul, Int.reduceNeg, Int.reduceToNat, Nat.reduceMul], by simp only [f7, go_sem, Nat.reduceEqDiff, Nat.reduceAdd, Nat.reduceLeDiff, Int.reduceEq, Int.reduceLT, Int.reduceLE, Int.reduceAdd, Int.reduceSub, Int.reduceMul, Int.reduceNeg, Int.reduceToNat, Nat.reduceMul], by simp only [go_sem, Nat.reduceEqDiff, Nat.reduceAdd, Nat.reduceLeDiff, Int.reduceEq, Int.reduceLT, Int.reduceLE, Int.reduceAdd, Int.reduceSub, Int.reduceMul, Int.reduceNeg, Int.reduceToNat, Nat.reduceMul] <;> rfl, rfl, fun i h h2 => ?_⟩
      by_cases hij : i = j
      · subst hij; exact fun e => hx e.symm
      · exact hno i h (by omega)
  · have hje : j = l.length := by omega
    rw [fJ_none fun i h => hno i h (by omega)] at hQ
    simp only [f0, f3, f7, f8, hlt, hnl, go_sem, Nat.reduceEqDiff, Nat.reduceAdd, Nat.reduceLeDiff, Int.reduceEq, Int.reduceLT, Int.reduceLE, Int.reduceAdd, Int.reduceSub, Int.reduceMul, Int.reduceNeg, Int.reduceToNat, Nat.reduceMul]
    exact hQ
theorem v39 (h75 : tbl 75 = some (.code m75)) (h39 : tbl 39 = some (.code m39)) (l : List Sh) (hl : l.length ≤ 1000000) {H : AH} {v : Value} (p : Sh) (hs : Sl H 2 v l.length (shc l)) :
    Val tbl 39 [v, .agg #[.int .i64 p.1, .string (tx p.2)]] H (.bool (decide (p ∈ l))) H := by
  refine Val.of_all fun Q hQ => ?_
  rw [rn_fun h39, k39]
  rw [← fJ_mem] at hQ
  have hsE : Sl (H.enter.push ⟨[.int .i64 p.1, .string (tx p.2)], 1, false⟩) 2 v l.length (shc l) := hs.keep fun id hid => AH.get_push_lt H.enter _ hid
  have hv := v75 h75 l hl p hsE
  have hg := AH.get_push_eq H.enter ⟨[.int .i64 p.1, .string (tx p.2)], 1, false⟩
  rw [nx_enter] at hg
  have hnl : ¬ (H.enter.push ⟨[.int .i64 p.1, .string (tx p.2)], 1, false⟩).low < H.next := by rw [lw_push, lw_enter]; omega
  simp only [List.toList_toArray, hg, ↓hv.run, hnl, go_sem, Nat.reduceEqDiff, Nat.reduceAdd, Nat.reduceLeDiff, Int.reduceEq, Int.reduceLT, Int.reduceLE, Int.reduceAdd, Int.reduceSub, Int.reduceMul, Int.reduceNeg, Int.reduceToNat, Nat.reduceMul]
  exact hQ
end Go.Proofs.Ytildhljhbbhmmaa.AM
namespace Go.Proofs.Ytildhljhbbhmmaa.AM
open Go
set_option linter.all false
set_option maxRecDepth 10000

/-! ### The plain law of shares -/
/-- Some of the shares of a secret, each once. -/
structure Some' (secret noise : List UInt8) (M n : Nat) (l : List Sh) : Prop where
  of_ : ∀ p ∈ l, ∃ i, i < n ∧ p = shP secret noise M i
  nd : l.Nodup
variable {secret noise : List UInt8} {M n : Nat} {l : List Sh}
theorem Some'.take (h : Some' secret noise M n l) (k : Nat) : Some' secret noise M n (l.take k) :=
  ⟨fun p hp => h.of_ p (List.mem_of_mem_take hp), h.nd.sublist (List.take_sublist k l)⟩
theorem Some'.at_ (h : Some' secret noise M n l) {i : Nat} (hi : i < l.length) : ∃ k, k < n ∧ l[i] = shP secret noise M k := h.of_ _ (List.getElem_mem hi)
theorem shP_inj {i k : Nat} (h : (shP secret noise M i).1 = (shP secret noise M k).1) : i = k := by
  simp only [shP] at h; omega
theorem Some'.ne (h : Some' secret noise M n l) {i k : Nat} (hi : i < l.length) (hk : k < l.length) (hne : i ≠ k) : l[i].1 ≠ l[k].1 := by
  intro e
  obtain ⟨a, _, ha⟩ := h.at_ hi
  obtain ⟨b, _, hb⟩ := h.at_ hk
  rw [ha, hb] at e
  have hab := shP_inj e
  have : l[i] = l[k] := by rw [ha, hb, hab]
  have hp := List.pairwise_iff_getElem.1 h.nd
  rcases Nat.lt_or_gt_of_ne hne with h1 | h1
  · exact hp i k hi hk h1 this
  · exact hp k i hk hi h1 this.symm
theorem Some'.x (h : Some' secret noise M n l) (hn : n ≤ 255) {i : Nat} (hi : i < l.length) : 1 ≤ l[i].1 ∧ l[i].1 ≤ 255 := by
  obtain ⟨a, ha1, ha⟩ := h.at_ hi
  rw [ha]
  simp only [shP]
  omega
theorem Some'.len (h : Some' secret noise M n l) {i : Nat} (hi : i < l.length) : l[i].2.length = secret.length := by
  obtain ⟨a, _, ha⟩ := h.at_ hi
  rw [ha]
  exact dat_len
theorem Some'.len0 (h : Some' secret noise M n l) (hl : 0 < l.length) : len0 l = secret.length := by
  have := h.len hl
  simp only [AM.len0]
  have e : l.getD 0 (0, []) = l[0] := by simp [hl]
  rw [e, this]
theorem Some'.eE (h : Some' secret noise M n l) (hn : n ≤ 255) (hs : secret ≠ []) (hs2 : secret.length ≤ 1024) {i : Nat} (hi : i < l.length) : eE l i = 0 := by
  have hx := h.x hn hi
  have hb : ¬ badD l l[i].2 := by
    rintro (e | e | e)
    · have := h.len hi
      rw [e] at this
      exact hs (List.eq_nil_of_length_eq_zero this.symm)
    · rw [h.len hi] at e; omega
    · rw [h.len hi, h.len0 (by omega)] at e; exact e rfl
  have hsn : seenB l i l[i].1 = false := by
    unfold seenB
    rw [List.any_eq_false]
    intro p hp
    obtain ⟨k, hk, rfl⟩ := List.mem_take_iff_getElem.1 hp
    have := h.ne (i := k) (k := i) (by omega) hi (by omega)
    simpa using this
  rw [eE_eq hi, if_neg (by omega), hsn, if_neg (by simp), if_neg hb]
theorem Some'.eF (h : Some' secret noise M n l) (hn : n ≤ 255) (hs : secret ≠ []) (hs2 : secret.length ≤ 1024) : ∀ i, i ≤ l.length → eF l i = 0
  | 0, _ => rfl
  | i + 1, hi => by
    simp only [AM.eF]
    rw [h.eF hn hs hs2 i (by omega), if_neg (by simp), h.eE hn hs hs2 (by omega)]
theorem Some'.xb (h : Some' secret noise M n l) {i a : Nat} (hi : i < l.length) (ha : l[i] = shP secret noise M a) : xb l i = UInt8.ofNat (a + 1) := by
  have e : l.getD i (0, []) = l[i] := by simp [hi]
  simp only [AM.xb, e, ha, shP, Int.toNat_natCast]
theorem gb_dat {z : UInt8} {j : Nat} (h : j < secret.length) : gb (dat secret noise M z) j = pv z (coefs secret noise M j) := by simp [gb, dat, h]
theorem Some'.vL (h : Some' secret noise M n l) (hn : n ≤ 255) (hl : l.length = M + 1) (z : UInt8) : vL l secret.length z = dat secret noise M z := by
  unfold AM.vL dat
  refine List.map_congr_left fun j hj => ?_
  have hj2 : j < secret.length := List.mem_range.1 hj
  have hp : Pol l.length (fun z => pv z (coefs secret noise M j)) := by
    have := pv_pol (coefs secret noise M j)
    have e : (coefs secret noise M j).length = l.length := by simp [coefs, cf, hl]
    rwa [e] at this
  refine lag hp (fun i k hi hk hne e => ?_) (fun i hi => ?_) z
  · have h1 := xb_at hi (by have := h.x hn hi; omega)
    have h2 := xb_at hk (by have := h.x hn hk; omega)
    rw [e] at h1
    exact h.ne hi hk hne (by omega)
  · obtain ⟨a, _, ha⟩ := h.at_ hi
    rw [yb_at hi, h.xb hi ha, ha]
    exact gb_dat hj2
theorem dat_zero : dat secret noise M 0 = secret := by
  refine List.ext_getElem (by simp [dat]) fun k h1 h2 => ?_
  simp only [dat, List.getElem_map, List.getElem_range, coefs, pv_zero]
  simp [gb, h2]
theorem Some'.short (h : Some' secret noise M n l) (hM : M + 1 ≤ 255) (hl : l.length < M + 1) : secE l ((M + 1 : Nat) : Int) = 3 ∧ secT l ((M + 1 : Nat) : Int) = [] := by
  have e : secE l ((M + 1 : Nat) : Int) = 3 := by unfold secE; rw [if_neg (by omega), if_pos (by omega)]
  refine ⟨e, ?_⟩
  unfold secT
  rw [e, if_neg (by decide)]
theorem Some'.enough (h : Some' secret noise M n l) (hn : n ≤ 255) (hM : M + 1 ≤ 255) (hs : secret ≠ []) (hs2 : secret.length ≤ 1024) (hl : M + 1 ≤ l.length) (hl2 : l.length ≤ 255) : secE l ((M + 1 : Nat) : Int) = 0 ∧ secT l ((M + 1 : Nat) : Int) = secret := by
  have hz := h.eF hn hs hs2 l.length (Nat.le_refl _)
  have h0 := h.len0 (by omega)
  have htl : (l.take (M + 1)).length = M + 1 := by rw [List.length_take]; omega
  have hv := (h.take (M + 1)).vL hn htl
  have hf : fits l (M + 1) = true := by
    unfold fits
    rw [List.all_eq_true]
    intro p hp
    obtain ⟨a, _, ha⟩ := h.of_ p (List.mem_of_mem_drop hp)
    rw [h0, hv, ha]
    simp only [shP, Int.toNat_natCast]
    simp
  have e : secE l ((M + 1 : Nat) : Int) = 0 := by
    unfold secE
    rw [if_neg (by omega), if_neg (by omega), if_neg (by omega), if_neg (by rw [hz]; simp), Int.toNat_natCast, if_pos hf]
  refine ⟨e, ?_⟩
  unfold secT
  rw [e, if_pos rfl, Int.toNat_natCast, h0, hv, dat_zero]
end Go.Proofs.Ytildhljhbbhmmaa.AM
namespace Go.Proofs.Ytildhljhbbhmmaa.AM
open Go
set_option linter.all false
set_option maxRecDepth 10000

/-- The part of the law that makes the noise fit. -/
def h8 : MCode := (.seq (.ops [⟨(some 21), none, false, (.mov (.tmp 3))⟩, ⟨(some 22), none, false, (.call false (.func 14) [(.tmp 21), (.const (.int .i64 1)), (.const (.int .i64 255))])⟩, ⟨(some 23), none, false, (.mov (.tmp 22))⟩, ⟨(some 24), (some (23, true)), false, (.mov (.tmp 2))⟩, ⟨(some 25), (some (23, true)), false, (.mov (.tmp 3))⟩, ⟨(some 26), (some (23, true)), false, (.call false (.func 14) [(.tmp 24), (.const (.int .i64 1)), (.tmp 25)])⟩, ⟨(some 27), none, false, (.pick (.tmp 23) (.tmp 26) (.const (.bool false)))⟩, ⟨(some 28), none, false, (.mov (.tmp 27))⟩, ⟨(some 29), (some (28, true)), false, (.mov (.tmp 0))⟩, ⟨(some 30), (some (28, true)), false, (.lenStr (.tmp 29))⟩, ⟨(some 31), (some (28, true)), false, (.bin .int .leq (.tmp 30) (.const (.int .i64 1024)))⟩, ⟨(some 32), none, false, (.pick (.tmp 28) (.tmp 31) (.const (.bool false)))⟩]) (.cond (.tmp 32) (.seq (.block 0 (.loop (.seq (.seq (.ops [⟨(some 33), none, false, (.mov (.tmp 1))⟩, ⟨(some 34), none, false, (.lenStr (.tmp 33))⟩, ⟨(some 35), none, false, (.bin .int .gtr (.tmp 34) (.const (.int .i64 0)))⟩, ⟨(some 36), none, false, (.mov (.tmp 35))⟩, ⟨(some 37), (some (36, true)), false, (.mov (.tmp 1))⟩, ⟨(some 38), (some (36, true)), false, (.lenStr (.tmp 37))⟩, ⟨(some 39), (some (36, true)), false, (.mov (.tmp 0))⟩, ⟨(some 40), (some (36, true)), false, (.lenStr (.tmp 39))⟩, ⟨(some 41), (some (36, true)), false, (.mov (.tmp 2))⟩, ⟨(some 42), (some (36, true)), false, (.bin .int .sub (.tmp 41) (.const (.int .i64 1)))⟩, ⟨(some 43), (some (36, true)), false, (.bin .int .mul (.tmp 40) (.tmp 42))⟩, ⟨(some 44), (some (36, true)), false, (.bin .int .lss (.tmp 38) (.tmp 43))⟩, ⟨(some 45), none, false, (.pick (.tmp 36) (.tmp 44) (.const (.bool false)))⟩]) (.cond (.tmp 45) .skip (.exit 0))) (.block 1 (.ops [⟨(some 46), none, false, (.mov (.tmp 1))⟩, ⟨(some 47), none, false, (.mov (.tmp 1))⟩, ⟨(some 48), none, false, (.bin .str .add (.tmp 46) (.tmp 47))⟩, ⟨(some 1), none, false, (.mov (.tmp 48))⟩]))))) (.seq (.ops [⟨(some 49), none, false, (.mov (.tmp 0))⟩, ⟨(some 50), none, false, (.lenStr (.tmp 49))⟩, ⟨(some 51), none, false, (.mov (.tmp 2))⟩, ⟨(some 52), none, false, (.bin .int .sub (.tmp 51) (.const (.int .i64 1)))⟩, ⟨(some 53), none, false, (.bin .int .mul (.tmp 50) (.tmp 52))⟩, ⟨(some 11), none, false, (.mov (.tmp 53))⟩]) (.seq (.ops [⟨(some 54), none, false, (.mov (.tmp 1))⟩, ⟨(some 55), none, false, (.lenStr (.tmp 54))⟩, ⟨(some 56), none, false, (.mov (.tmp 11))⟩, ⟨(some 57), none, false, (.bin .int .gtr (.tmp 55) (.tmp 56))⟩]) (.cond (.tmp 57) (.ops [⟨(some 58), none, false, (.mov (.tmp 1))⟩, ⟨(some 59), none, false, (.mov (.tmp 11))⟩, ⟨(some 60), none, false, (.sliceStr (.tmp 58) none (some (.tmp 59)))⟩, ⟨(some 1), none, false, (.mov (.tmp 60))⟩]) .skip)))) .skip))
/-- What comes behind it. -/
def r8 : MCode := (.seq (.ops [⟨(some 62), none, false, (.mov (.tmp 0))⟩, ⟨(some 63), none, false, (.mov (.tmp 1))⟩, ⟨(some 64), none, false, (.mov (.tmp 2))⟩, ⟨(some 65), none, false, (.mov (.tmp 3))⟩, ⟨(some 66), none, false, (.call false (.func 36) [(.tmp 62), (.tmp 63), (.tmp 64), (.tmp 65)])⟩, ⟨(some 61), none, false, (.mov (.tmp 66))⟩, ⟨(some 67), none, false, (.extract (.tmp 61) 0)⟩, ⟨(some 68), none, false, (.extract (.tmp 61) 1)⟩, ⟨(some 12), none, false, (.mov (.tmp 67))⟩, ⟨(some 13), none, false, (.mov (.tmp 68))⟩]) (.seq (.ops [⟨(some 69), none, false, (.mov (.tmp 0))⟩, ⟨(some 70), none, false, (.bin .str .eql (.tmp 69) (.const (.string ⟨#[]⟩)))⟩, ⟨(some 71), none, false, (.call false (.func 21) [(.tmp 70), (.const (.int .i64 21))])⟩, ⟨(some 72), none, false, (.mov (.tmp 0))⟩, ⟨(some 73), none, false, (.lenStr (.tmp 72))⟩, ⟨(some 74), none, false, (.bin .int .gtr (.tmp 73) (.const (.int .i64 1024)))⟩, ⟨(some 75), none, false, (.call false (.func 21) [(.tmp 74), (.const (.int .i64 8))])⟩, ⟨(some 76), none, false, (.mov (.tmp 3))⟩, ⟨(some 77), none, false, (.call false (.func 14) [(.tmp 76), (.const (.int .i64 1)), (.const (.int .i64 255))])⟩, ⟨(some 78), none, false, (.un .not (.tmp 77))⟩, ⟨(some 79), none, false, (.mov (.tmp 78))⟩, ⟨(some 80), (some (79, false)), false, (.mov (.tmp 2))⟩, ⟨(some 81), (some (79, false)), false, (.mov (.tmp 3))⟩, ⟨(some 82), (some (79, false)), false, (.call false (.func 14) [(.tmp 80), (.const (.int .i64 1)), (.tmp 81)])⟩, ⟨(some 83), (some (79, false)), false, (.un .not (.tmp 82))⟩, ⟨(some 84), none, false, (.pick (.tmp 79) (.const (.bool true)) (.tmp 83))⟩, ⟨(some 85), none, false, (.call false (.func 21) [(.tmp 84), (.const (.int .i64 7))])⟩, ⟨(some 86), none, false, (.buildSlice [(.int .i64 0), (.int .i64 0), (.int .i64 0)] 1 3 [(0, (1, (.tmp 71))), (1, (1, (.tmp 75))), (2, (1, (.tmp 85)))])⟩, ⟨(some 87), none, false, (.call false (.func 19) [(.tmp 86)])⟩, ⟨(some 14), none, false, (.mov (.tmp 87))⟩]) (.seq (.seq (.ops [⟨(some 88), none, false, (.mov (.tmp 14))⟩, ⟨(some 89), none, false, (.bin .int .eql (.tmp 88) (.const (.int .i64 0)))⟩, ⟨(some 90), none, false, (.mov (.tmp 89))⟩, ⟨(some 91), (some (90, true)), false, (.mov (.tmp 1))⟩, ⟨(some 92), (some (90, true)), false, (.lenStr (.tmp 91))⟩, ⟨(some 93), (some (90, true)), false, (.mov (.tmp 0))⟩, ⟨(some 94), (some (90, true)), false, (.lenStr (.tmp 93))⟩, ⟨(some 95), (some (90, true)), false, (.mov (.tmp 2))⟩, ⟨(some 96), (some (90, true)), false, (.bin .int .sub (.tmp 95) (.const (.int .i64 1)))⟩, ⟨(some 97), (some (90, true)), false, (.bin .int .mul (.tmp 94) (.tmp 96))⟩, ⟨(some 98), (some (90, true)), false, (.bin .int .neq (.tmp 92) (.tmp 97))⟩, ⟨(some 99), none, false, (.pick (.tmp 90) (.tmp 98) (.const (.bool false)))⟩]) (.cond (.tmp 99) (.ops [⟨(some 14), none, false, (.mov (.const (.int .i64 6)))⟩]) .skip)) (.seq (.seq (.ops [⟨(some 100), none, false, (.call false (.func 17) [])⟩, ⟨(some 101), none, false, (.un .not (.tmp 100))⟩, ⟨(some 102), none, false, (.mov (.tmp 101))⟩, ⟨(some 103), (some (102, false)), false, (.mov (.tmp 14))⟩, ⟨(some 104), (some (102, false)), false, (.bin .int .neq (.tmp 103) (.const (.int .i64 0)))⟩, ⟨(some 105), none, false, (.pick (.tmp 102) (.const (.bool true)) (.tmp 104))⟩]) (.cond (.tmp 105) (.seq (.ops [⟨(some 106), none, false, (.call false (.func 17) [])⟩, ⟨(some 107), none, false, (.mov (.tmp 106))⟩, ⟨(some 108), (some (107, true)), false, (.mov (.tmp 12))⟩, ⟨(some 109), (some (107, true)), false, (.len (.tmp 108))⟩, ⟨(some 110), (some (107, true)), false, (.bin .int .eql (.tmp 109) (.const (.int .i64 0)))⟩, ⟨(some 111), none, false, (.pick (.tmp 107) (.tmp 110) (.const (.bool false)))⟩, ⟨(some 112), none, false, (.mov (.tmp 111))⟩, ⟨(some 113), (some (112, true)), false, (.mov (.tmp 13))⟩, ⟨(some 114), (some (112, true)), false, (.mov (.tmp 14))⟩, ⟨(some 115), (some (112, true)), false, (.bin .int .eql (.tmp 113) (.tmp 114))⟩, ⟨(some 116), none, false, (.pick (.tmp 112) (.tmp 115) (.const (.bool false)))⟩, ⟨(some 10), none, false, (.mov (.tmp 116))⟩]) .ret) .skip)) (.seq (.seq (.ops [⟨(some 117), none, false, (.mov (.tmp 0))⟩, ⟨(some 118), none, false, (.lenStr (.tmp 117))⟩, ⟨(some 119), none, false, (.bin .int .gtr (.tmp 118) (.const (.int .i64 40)))⟩]) (.cond (.tmp 119) (.seq (.ops [⟨(some 120), none, false, (.mov (.tmp 13))⟩, ⟨(some 121), none, false, (.bin .int .eql (.tmp 120) (.const (.int .i64 0)))⟩, ⟨(some 10), none, false, (.mov (.tmp 121))⟩]) .ret) .skip)) (.seq (.seq (.ops [⟨(some 122), none, false, (.mov (.tmp 13))⟩, ⟨(some 123), none, false, (.bin .int .neq (.tmp 122) (.const (.int .i64 0)))⟩, ⟨(some 124), none, false, (.mov (.tmp 123))⟩, ⟨(some 125), (some (124, false)), false, (.mov (.tmp 12))⟩, ⟨(some 126), (some (124, false)), false, (.mov (.tmp 0))⟩, ⟨(some 127), (some (124, false)), false, (.mov (.tmp 1))⟩, ⟨(some 128), (some (124, false)), false, (.mov (.tmp 2))⟩, ⟨(some 129), (some (124, false)), false, (.mov (.tmp 3))⟩, ⟨(some 130), (some (124, false)), false, (.call false (.func 38) [(.tmp 126), (.tmp 127), (.tmp 128), (.tmp 129)])⟩, ⟨(some 131), (some (124, false)), false, (.call false (.func 37) [(.tmp 125), (.tmp 130)])⟩, ⟨(some 132), (some (124, false)), false, (.un .not (.tmp 131))⟩, ⟨(some 133), none, false, (.pick (.tmp 124) (.const (.bool true)) (.tmp 132))⟩]) (.cond (.tmp 133) (.seq (.ops [⟨(some 10), none, false, (.mov (.const (.bool false)))⟩]) .ret) .skip)) (.seq (.ops [⟨(some 15), none, false, (.mov (.const (.slice none 0 0)))⟩]) (.seq (.seq (.ops [⟨(some 134), none, false, (.mov (.tmp 4))⟩, ⟨(some 135), none, false, (.len (.tmp 134))⟩, ⟨(some 136), none, false, (.mov (.const (.int .i64 0)))⟩]) (.block 2 (.loop (.seq (.ops [⟨(some 137), none, false, (.bin .int .lss (.tmp 136) (.tmp 135))⟩]) (.seq (.cond (.tmp 137) .skip (.exit 2)) (.seq (.block 3 (.seq (.ops [⟨(some 138), none, false, (.idxS 1 (.tmp 134) (.tmp 136))⟩, ⟨(some 139), none, false, (.load false 1 (.tmp 138))⟩, ⟨(some 17), none, false, (.mov (.tmp 139))⟩]) (.seq (.ops [⟨(some 140), none, false, (.mov (.tmp 12))⟩, ⟨(some 141), none, false, (.mov (.tmp 17))⟩, ⟨(some 142), none, false, (.mov (.tmp 3))⟩, ⟨(some 143), none, false, (.bin .int .rem (.tmp 141) (.tmp 142))⟩, ⟨(some 144), none, false, (.mov (.tmp 3))⟩, ⟨(some 145), none, false, (.bin .int .add (.tmp 143) (.tmp 144))⟩, ⟨(some 146), none, false, (.mov (.tmp 3))⟩, ⟨(some 147), none, false, (.bin .int .rem (.tmp 145) (.tmp 146))⟩, ⟨(some 148), none, false, (.idxS 2 (.tmp 140) (.tmp 147))⟩, ⟨(some 149), none, false, (.load true 2 (.tmp 148))⟩, ⟨(some 18), none, false, (.alloc [(.int .i64 0), (.string ⟨#[]⟩)] 1)⟩, ⟨none, none, false, (.store 2 (.tmp 18) (.tmp 149))⟩]) (.seq (.ops [⟨(some 150), none, false, (.mov (.tmp 15))⟩, ⟨(some 151), none, false, (.load true 2 (.tmp 18))⟩, ⟨(some 152), none, false, (.call false (.func 39) [(.tmp 150), (.tmp 151)])⟩, ⟨(some 153), none, false, (.un .not (.tmp 152))⟩]) (.cond (.tmp 153) (.ops [⟨(some 154), none, false, (.mov (.tmp 15))⟩, ⟨(some 155), none, false, (.load true 2 (.tmp 18))⟩, ⟨(some 156), none, false, (.buildSlice [(.int .i64 0), (.string ⟨#[]⟩)] 2 1 [(0, (2, (.tmp 155)))])⟩, ⟨(some 157), none, false, (.append 2 24 (.tmp 154) (.tmp 156))⟩, ⟨(some 15), none, false, (.mov (.tmp 157))⟩]) .skip))))) (.ops [⟨(some 158), none, false, (.bin .int .add (.tmp 136) (.const (.int .i64 1)))⟩, ⟨(some 136), none, false, (.mov (.tmp 158))⟩]))))))) (.seq (.seq (.ops [⟨(some 159), none, false, (.mov (.tmp 15))⟩, ⟨(some 160), none, false, (.len (.tmp 159))⟩, ⟨(some 161), none, false, (.bin .int .gtr (.tmp 160) (.const (.int .i64 12)))⟩]) (.cond (.tmp 161) (.ops [⟨(some 162), none, false, (.mov (.tmp 15))⟩, ⟨(some 163), none, false, (.sliceS 2 (.tmp 162) none (some (.const (.int .i64 12))))⟩, ⟨(some 15), none, false, (.mov (.tmp 163))⟩]) .skip)) (.seq (.ops [⟨(some 165), none, false, (.mov (.tmp 15))⟩, ⟨(some 166), none, false, (.mov (.tmp 2))⟩, ⟨(some 167), none, false, (.call false (.func 32) [(.tmp 165), (.tmp 166)])⟩, ⟨(some 164), none, false, (.mov (.tmp 167))⟩, ⟨(some 168), none, false, (.extract (.tmp 164) 0)⟩, ⟨(some 169), none, false, (.extract (.tmp 164) 1)⟩, ⟨(some 19), none, false, (.mov (.tmp 168))⟩, ⟨(some 20), none, false, (.mov (.tmp 169))⟩]) (.seq (.seq (.ops [⟨(some 170), none, false, (.mov (.tmp 15))⟩, ⟨(some 171), none, false, (.len (.tmp 170))⟩, ⟨(some 172), none, false, (.mov (.tmp 2))⟩, ⟨(some 173), none, false, (.bin .int .lss (.tmp 171) (.tmp 172))⟩]) (.cond (.tmp 173) (.seq (.ops [⟨(some 174), none, false, (.mov (.tmp 19))⟩, ⟨(some 175), none, false, (.bin .str .eql (.tmp 174) (.const (.string ⟨#[]⟩)))⟩, ⟨(some 176), none, false, (.mov (.tmp 175))⟩, ⟨(some 177), (some (176, true)), false, (.mov (.tmp 20))⟩, ⟨(some 178), (some (176, true)), false, (.bin .int .eql (.tmp 177) (.const (.int .i64 3)))⟩, ⟨(some 179), none, false, (.pick (.tmp 176) (.tmp 178) (.const (.bool false)))⟩, ⟨(some 10), none, false, (.mov (.tmp 179))⟩]) .ret) .skip)) (.seq (.ops [⟨(some 180), none, false, (.mov (.tmp 19))⟩, ⟨(some 181), none, false, (.mov (.tmp 0))⟩, ⟨(some 182), none, false, (.bin .str .eql (.tmp 180) (.tmp 181))⟩, ⟨(some 183), none, false, (.mov (.tmp 182))⟩, ⟨(some 184), (some (183, true)), false, (.mov (.tmp 20))⟩, ⟨(some 185), (some (183, true)), false, (.bin .int .eql (.tmp 184) (.const (.int .i64 0)))⟩, ⟨(some 186), none, false, (.pick (.tmp 183) (.tmp 185) (.const (.bool false)))⟩, ⟨(some 10), none, false, (.mov (.tmp 186))⟩]) .ret))))))))))))
theorem k8_eq : k8 = .seq (.ops [⟨(some 10), none, false, (.mov (.const (.bool false)))⟩]) (.seq h8 r8) := rfl
variable {tbl : Tbl} [hT : TMono tbl]
theorem head8 (h14 : tbl 14 = some (.code m14)) (secret noise : List UInt8) (hno : noise.length ≤ 9223372036854775807) (need many : Int) (hnd : -9223372036854775808 ≤ need ∧ need ≤ 9223372036854775807) (f : Fr) (H : AH) (v : Value) (f0 : f 0 = .string (tx secret)) (f1 : f 1 = .string (tx noise)) (f2 : f 2 = .int .i64 need) (f3 : f 3 = .int .i64 many) (f4 : f 4 = v) (hs : secret.length ≤ 9223372036854775807) :
    (@RunC tbl h8 f H ⟨fun e f' H' => e = .normal ∧ H' = H ∧ ∃ nz : List UInt8, nz.length ≤ 9223372036854775807 ∧ f' 0 = .string (tx secret) ∧ f' 1 = .string (tx nz) ∧ f' 2 = .int .i64 need ∧ f' 3 = .int .i64 many ∧ f' 4 = v⟩) := by
  have a14 := fun n a b X => v14 (tbl := tbl) h14 n a b X
  rw [h8]
  by_cases a1 : 1 ≤ many ∧ many ≤ 255
  case neg =>
    have e1 : decide (1 ≤ many ∧ many ≤ 255) = false := decide_eq_false a1
    simp only [f0, f1, f2, f3, f4, ↓(a14 _ _ _ _).run, e1, go_sem, Nat.reduceEqDiff, Nat.reduceAdd, Nat.reduceLeDiff, Int.reduceEq, Int.reduceLT, Int.reduceLE, Int.reduceAdd, Int.reduceSub, Int.reduceMul, Int.reduceNeg, Int.reduceToNat, Nat.reduceMul]
    exact ⟨noise, hno, rfl⟩
  have e1 : decide (1 ≤ many ∧ many ≤ 255) = true := decide_eq_true a1
  by_cases a2 : 1 ≤ need ∧ need ≤ many
  case neg =>
    have e2 : decide (1 ≤ need ∧ need ≤ many) = false := decide_eq_false a2
    simp only [f0, f1, f2, f3, f4, ↓(a14 _ _ _ _).run, e1, e2, go_sem, Nat.reduceEqDiff, Nat.reduceAdd, Nat.reduceLeDiff, Int.reduceEq, Int.reduceLT, Int.reduceLE, Int.reduceAdd, Int.reduceSub, Int.reduceMul, Int.reduceNeg, Int.reduceToNat, Nat.reduceMul]
    exact ⟨noise, hno, rfl⟩
  have e2 : decide (1 ≤ need ∧ need ≤ many) = true := decide_eq_true a2
  by_cases a3 : (secret.length : Int) ≤ 1024
  case neg =>
    simp only [f0, f1, f2, f3, f4, ↓(a14 _ _ _ _).run, e1, e2, a3, tx_size, go_sem, Nat.reduceEqDiff, Nat.reduceAdd, Nat.reduceLeDiff, Int.reduceEq, Int.reduceLT, Int.reduceLE, Int.reduceAdd, Int.reduceSub, Int.reduceMul, Int.reduceNeg, Int.reduceToNat, Nat.reduceMul]
    exact ⟨noise, hno, rfl⟩
  obtain ⟨M, hM⟩ : ∃ M : Nat, need - 1 = (M : Int) := ⟨(need - 1).toNat, by omega⟩
  have w1 := w64 (x := need - 1) (by omega) (by omega)
  have w1' := w64 (x := (M : Int)) (by omega) (by omega)
  have hle : secret.length * M ≤ 1024 * 255 := Nat.mul_le_mul (by omega) (by omega)
  have em : (secret.length : Int) * (M : Int) = ((secret.length * M : Nat) : Int) := by simp
  have w2 := w64 (x := ((secret.length * M : Nat) : Int)) (by omega) (by omega)
  simp only [f0, f1, f2, f3, f4, ↓(a14 _ _ _ _).run, e1, e2, a3, tx_size, go_sem, Nat.reduceEqDiff, Nat.reduceAdd, Nat.reduceLeDiff, Int.reduceEq, Int.reduceLT, Int.reduceLE, Int.reduceAdd, Int.reduceSub, Int.reduceMul, Int.reduceNeg, Int.reduceToNat, Nat.reduceMul]
  refine rn_loop (fun m f' H' => H' = H ∧ ∃ nz : List UInt8, m = secret.length * M - nz.length ∧ nz.length ≤ 9223372036854775807 ∧ f' 0 = .string (tx secret) ∧ f' 1 = .string (tx nz) ∧ f' 2 = .int .i64 need ∧ f' 3 = .int .i64 many ∧ f' 4 = v) ?_ (n := secret.length * M - noise.length)
    ⟨rfl, noise, rfl, hno, by simp only [f0, go_sem, Nat.reduceEqDiff, Nat.reduceAdd, Nat.reduceLeDiff, Int.reduceEq, Int.reduceLT, Int.reduceLE, Int.reduceAdd, Int.reduceSub, Int.reduceMul, Int.reduceNeg, Int.reduceToNat, Nat.reduceMul], by simp only [f1, go_sem, Nat.reduceEqDiff, Nat.reduceAdd, Nat.reduceLeDiff, Int.reduceEq, Int.reduceLT, Int.reduceLE, Int.reduceAdd, Int.reduceSub, Int.reduceMul, Int.reduceNeg, Int.reduceToNat, Nat.reduceMul], by simp only [f2, go_sem, Nat.reduceEqDiff, Nat.reduceAdd, Nat.reduceLeDiff, Int.reduceEq, Int.reduceLT, Int.reduceLE, Int.reduceAdd, Int.reduceSub, Int.reduceMul, Int.reduceNeg, Int.reduceToNat, Nat.reduceMul], by simp only [f3, go_sem, Nat.reduceEqDiff, Nat.reduceAdd, Nat.reduceLeDiff, Int.reduceEq, Int.reduceLT, Int.reduceLE, Int.reduceAdd, Int.reduceSub, Int.reduceMul, Int.reduceNeg, Int.reduceToNat, Nat.reduceMul], by simp only [f4, go_sem, Nat.reduceEqDiff, Nat.reduceAdd, Nat.reduceLeDiff, Int.reduceEq, Int.reduceLT, Int.reduceLE, Int.reduceAdd, Int.reduceSub, Int.reduceMul, Int.reduceNeg, Int.reduceToNat, Nat.reduceMul]⟩
  clear f0 f1 f2 f3 f4
  rintro m f H' ⟨rfl, nz, rfl, hnz, f0, f1, f2, f3, f4⟩
  by_cases b1 : (0 : Int) < nz.length
  case pos =>
    by_cases b2 : (nz.length : Int) < ((secret.length * M : Nat) : Int)
    · have hsz : nz.length + nz.length ≤ 9223372036854775807 := by omega
      simp only [f0, f1, f2, f3, f4, tx_size, b1, hM, w1', em, w2, b2, hsz, tx_cat, go_sem, Nat.reduceEqDiff, Nat.reduceAdd, Nat.reduceLeDiff, Int.reduceEq, Int.reduceLT, Int.reduceLE, Int.reduceAdd, Int.reduceSub, Int.reduceMul, Int.reduceNeg, Int.reduceToNat, Nat.reduceMul]
      exact ⟨secret.length * M - (nz ++ nz).length, by rw [List.length_append]; omega, rfl, nz ++ nz, rfl, by rw [List.length_append]; omega, by simp only [f0, go_sem, Nat.reduceEqDiff, Nat.reduceAdd, Nat.reduceLeDiff, Int.reduceEq, Int.reduceLT, Int.reduceLE, Int.reduceAdd, Int.reduceSub, Int.reduceMul, Int.reduceNeg, Int.reduceToNat, Nat.reduceMul], by simp only [tx_cat, go_sem, Nat.reduceEqDiff, Nat.reduceAdd, Nat.reduceLeDiff, Int.reduceEq, Int.reduceLT, Int.reduceLE, Int.reduceAdd, Int.reduceSub, Int.reduceMul, Int.reduceNeg, Int.reduceToNat, Nat.reduceMul], by simp only [f2, go_sem, Nat.reduceEqDiff, Nat.reduceAdd, Nat.reduceLeDiff, Int.reduceEq, Int.reduceLT, Int.reduceLE, Int.reduceAdd, Int.reduceSub, Int.reduceMul, Int.reduceNeg, Int.reduceToNat, Nat.reduceMul], by simp only [f3, go_sem, Nat.reduceEqDiff, Nat.reduceAdd, Nat.reduceLeDiff, Int.reduceEq, Int.reduceLT, Int.reduceLE, Int.reduceAdd, Int.reduceSub, Int.reduceMul, Int.reduceNeg, Int.reduceToNat, Nat.reduceMul], by simp only [f4, go_sem, Nat.reduceEqDiff, Nat.reduceAdd, Nat.reduceLeDiff, Int.reduceEq, Int.reduceLT, Int.reduceLE, Int.reduceAdd, Int.reduceSub, Int.reduceMul, Int.reduceNeg, Int.reduceToNat, Nat.reduceMul]⟩
    · by_cases b3 : ((secret.length * M : Nat) : Int) < nz.length
      · have i0 : (0 : Int) ≤ ((secret.length * M : Nat) : Int) := by omega
        have i1 : secret.length * M ≤ nz.length := by omega
        have hx : (tx nz).extract 0 (secret.length * M) = tx (nz.take (secret.length * M)) := by rw [tx_extract, List.drop_zero]
        simp only [f0, f1, f2, f3, f4, tx_size, b1, hM, w1', em, w2, b2, b3, i0, i1, hx, Int.toNat_natCast, go_sem, Nat.reduceEqDiff, Nat.reduceAdd, Nat.reduceLeDiff, Int.reduceEq, Int.reduceLT, Int.reduceLE, Int.reduceAdd, Int.reduceSub, Int.reduceMul, Int.reduceNeg, Int.reduceToNat, Nat.reduceMul]
        exact ⟨nz.take (secret.length * M), by rw [List.length_take]; omega, rfl⟩
      · simp only [f0, f1, f2, f3, f4, tx_size, b1, hM, w1', em, w2, b2, b3, go_sem, Nat.reduceEqDiff, Nat.reduceAdd, Nat.reduceLeDiff, Int.reduceEq, Int.reduceLT, Int.reduceLE, Int.reduceAdd, Int.reduceSub, Int.reduceMul, Int.reduceNeg, Int.reduceToNat, Nat.reduceMul]
        exact ⟨nz, hnz, rfl⟩
  case neg =>
    have b3 : ¬ ((secret.length * M : Nat) : Int) < nz.length := by omega
    simp only [f0, f1, f2, f3, f4, tx_size, b1, hM, w1', em, w2, b3, go_sem, Nat.reduceEqDiff, Nat.reduceAdd, Nat.reduceLeDiff, Int.reduceEq, Int.reduceLT, Int.reduceLE, Int.reduceAdd, Int.reduceSub, Int.reduceMul, Int.reduceNeg, Int.reduceToNat, Nat.reduceMul]
    exact ⟨nz, hnz, rfl⟩
end Go.Proofs.Ytildhljhbbhmmaa.AM
namespace Go.Proofs.Ytildhljhbbhmmaa.AM
open Go
set_option linter.all false
set_option maxRecDepth 10000

theorem nodup_lt : ∀ (n : Nat) (l : List Nat), l.Nodup → (∀ x ∈ l, x < n) → l.length ≤ n
  | 0, l, _, h => by
    cases l with
    | nil => exact Nat.le_refl _
    | cons x l => exact absurd (h x (by simp)) (by omega)
  | n + 1, l, hn, h => by
    by_cases hm : n ∈ l
    · have h1 := nodup_lt n (l.erase n) (hn.erase n) fun x hx => by
        have h2 := h x (List.mem_of_mem_erase hx)
        have h3 : x ≠ n := fun e => by
          subst e
          exact (List.Nodup.not_mem_erase hn) hx
        omega
      rw [List.length_erase_of_mem hm] at h1
      omega
    · exact Nat.le_succ_of_le (nodup_lt n l hn fun x hx => by
        have h2 := h x hx
        have h3 : x ≠ n := fun e => hm (e ▸ hx)
        omega)
theorem Some'.most {secret noise : List UInt8} {M n : Nat} {l : List Sh} (h : Some' secret noise M n l) : l.length ≤ n + 1 := by
  have h1 : (l.map fun p => p.1.toNat).Nodup := by
    refine List.pairwise_map.2 (List.pairwise_iff_getElem.2 fun i j hi hj hij => ?_)
    have hne := h.ne hi hj (by omega)
    obtain ⟨a, _, ha⟩ := h.at_ hi
    obtain ⟨b, _, hb⟩ := h.at_ hj
    rw [ha, hb] at hne ⊢
    simp only [shP] at hne ⊢
    omega
  have h2 := nodup_lt (n + 1) _ h1 fun x hx => by
    obtain ⟨p, hp, rfl⟩ := List.mem_map.1 hx
    obtain ⟨a, ha, rfl⟩ := h.of_ p hp
    simp only [shP]
    omega
  rwa [List.length_map] at h2
theorem Some'.add {secret noise : List UInt8} {M n : Nat} {l : List Sh} (h : Some' secret noise M n l) {q : Nat} (hq : q < n) (hno : shP secret noise M q ∉ l) : Some' secret noise M n (l ++ [shP secret noise M q]) := by
  refine ⟨fun p hp => ?_, ?_⟩
  · rcases List.mem_append.1 hp with hp | hp
    · exact h.of_ p hp
    · rw [List.mem_singleton] at hp
      exact ⟨q, hq, hp⟩
  · refine List.nodup_append.2 ⟨h.nd, by simp, fun a ha b hb => ?_⟩
    rw [List.mem_singleton] at hb
    subst hb
    exact fun e => hno (e ▸ ha)
/-- What the law says of the numbers, where they are not within. -/
theorem shE_7 {secret nz : List UInt8} {need many : Int} (h : ¬ (1 ≤ many ∧ many ≤ 255) ∨ ¬ (1 ≤ need ∧ need ≤ many)) : firstL [if secret = [] then 21 else 0, if (1024 : Int) < secret.length then 8 else 0, 7] = shE secret nz need many ∧ shE secret nz need many ≠ 0 := by
  rw [first3]
  unfold shE
  have e : ((1024 : Int) < secret.length) ↔ 1024 < secret.length := by omega
  have e7 : (many < 1 ∨ 255 < many ∨ need < 1 ∨ many < need) := by omega
  simp only [e]
  by_cases a1 : secret = [] <;> by_cases a2 : 1024 < secret.length <;> simp [a1, a2, e7]
theorem shE_0 {secret nz : List UInt8} {need many : Int} (h : secret = [] ∨ (1024 : Int) < secret.length) : firstL [if secret = [] then 21 else 0, if (1024 : Int) < secret.length then 8 else 0, 0] = shE secret nz need many ∧ shE secret nz need many ≠ 0 := by
  rw [first3]
  unfold shE
  have e : ((1024 : Int) < secret.length) ↔ 1024 < secret.length := by omega
  rw [e] at h
  simp only [e]
  by_cases a1 : secret = []
  · simp [a1]
  · have a2 := h.resolve_left a1
    simp [a1, a2]
variable {tbl : Tbl} [hT : TMono tbl]
structure ShaTb (tbl : Tbl) : Prop where
  h14 : tbl 14 = some (.code m14)
  h19 : tbl 19 = some (.code m19)
  h21 : tbl 21 = some (.code m21)
  h36 : tbl 36 = some (.code m36)
  h37 : tbl 37 = some (.code m37)
  h38 : tbl 38 = some (.code m38)
  h39 : tbl 39 = some (.code m39)
  h74 : tbl 74 = some (.code m74)
  h75 : tbl 75 = some (.code m75)
theorem r8_ok (T : SealT tbl) (S : SecTb tbl) (L : ShaTb tbl) (secret nz : List UInt8) (hs : secret.length ≤ 9223372036854775807) (hz : nz.length ≤ 9223372036854775807) (need many : Int) (hnd : -9223372036854775808 ≤ need ∧ need ≤ 9223372036854775807) (pk : List Int) (hpl : pk.length ≤ 9223372036854775807) (hpr : ∀ x ∈ pk, -9223372036854775808 ≤ x ∧ x ≤ 9223372036854775807) {H : AH} {v : Value} (hd : H.get 0 = none) (hd0 : 0 < H.next) (hpk : Sl H 1 v pk.length (pk.map I64)) (f : Fr) (f0 : f 0 = .string (tx secret)) (f1 : f 1 = .string (tx nz)) (f2 : f 2 = .int .i64 need) (f3 : f 3 = .int .i64 many) (f4 : f 4 = v)
    (Q : Ex → Fr → AH → Prop) (hQ : ∀ f' H'', f' 10 = .bool true → ¬ H''.low < H.next → Q .ret f' H'') : (@RunC tbl r8 f H.enter ⟨Q⟩) := by
  have a14 := fun n a b X => v14 (tbl := tbl) L.h14 n a b X
  have a21 := fun b e X => v21b (tbl := tbl) L.h21 b e X
  have a17 := v17 T
  have hle0 : ¬ H.enter.low < H.next := Nat.lt_irrefl _
  have r10 : ∀ f' : Fr, ∀ H'', ¬ H''.low < H.next → f' 10 = .bool true → Q .ret f' H'' := fun f' H'' h1 h2 => hQ f' H'' h2 h1
  rw [r8]
  obtain ⟨E, hE⟩ : ∃ E, E = shE secret nz need many := ⟨_, rfl⟩
  have a19 := fun a b c => v19_3s (tbl := tbl) L.h19 H.enter a b c
  simp only [nx_enter] at a19
  by_cases b12 : ¬ (1 ≤ many ∧ many ≤ 255) ∨ ¬ (1 ≤ need ∧ need ≤ many)
  · obtain ⟨hw, hne⟩ := shE_7 (secret := secret) (nz := nz) b12
    have a36 := v36_bad L.h36 secret nz hz need many hnd hne H.enter
    rw [← hE] at hw hne a36
    by_cases b1 : 1 ≤ many ∧ many ≤ 255
    · have b2 : ¬ (1 ≤ need ∧ need ≤ many) := b12.resolve_left (fun h => h b1)
      have e1 : decide (1 ≤ many ∧ many ≤ 255) = true := decide_eq_true b1
      have e2 : decide (1 ≤ need ∧ need ≤ many) = false := decide_eq_false b2
      simp only [f0, f1, f2, f3, f4, ↓(a14 _ _ _ _).run, ↓(a21 _ _ _).run, ↓(a19 _ _ _).run, ↓(a17 _).run, ↓a36.run, e1, e2, tx_none, tx_size, hw, hne, go_sem, Nat.reduceEqDiff, Nat.reduceAdd, Nat.reduceLeDiff, Int.reduceEq, Int.reduceLT, Int.reduceLE, Int.reduceAdd, Int.reduceSub, Int.reduceMul, Int.reduceNeg, Int.reduceToNat, Nat.reduceMul]
      exact hQ _ _ (by simp only [go_sem, Nat.reduceEqDiff, Nat.reduceAdd, Nat.reduceLeDiff, Int.reduceEq, Int.reduceLT, Int.reduceLE, Int.reduceAdd, Int.reduceSub, Int.reduceMul, Int.reduceNeg, Int.reduceToNat, Nat.reduceMul]) (by rw [lw_push, lw_enter]; omega)
    · have e1 : decide (1 ≤ many ∧ many ≤ 255) = false := decide_eq_false b1
      simp only [f0, f1, f2, f3, f4, ↓(a14 _ _ _ _).run, ↓(a21 _ _ _).run, ↓(a19 _ _ _).run, ↓(a17 _).run, ↓a36.run, e1, tx_none, tx_size, hw, hne, go_sem, Nat.reduceEqDiff, Nat.reduceAdd, Nat.reduceLeDiff, Int.reduceEq, Int.reduceLT, Int.reduceLE, Int.reduceAdd, Int.reduceSub, Int.reduceMul, Int.reduceNeg, Int.reduceToNat, Nat.reduceMul]
      exact hQ _ _ (by simp only [go_sem, Nat.reduceEqDiff, Nat.reduceAdd, Nat.reduceLeDiff, Int.reduceEq, Int.reduceLT, Int.reduceLE, Int.reduceAdd, Int.reduceSub, Int.reduceMul, Int.reduceNeg, Int.reduceToNat, Nat.reduceMul]) (by rw [lw_push, lw_enter]; omega)
  have b1 : 1 ≤ many ∧ many ≤ 255 := Classical.byContradiction fun h => b12 (.inl h)
  have b2 : 1 ≤ need ∧ need ≤ many := Classical.byContradiction fun h => b12 (.inr h)
  have e1 : decide (1 ≤ many ∧ many ≤ 255) = true := decide_eq_true b1
  have e2 : decide (1 ≤ need ∧ need ≤ many) = true := decide_eq_true b2
  by_cases hA : secret = [] ∨ (1024 : Int) < secret.length
  · obtain ⟨hw, hne⟩ := shE_0 (secret := secret) (nz := nz) (need := need) (many := many) hA
    have a36 := v36_bad L.h36 secret nz hz need many hnd hne H.enter
    rw [← hE] at hw hne a36
    simp only [f0, f1, f2, f3, f4, ↓(a14 _ _ _ _).run, ↓(a21 _ _ _).run, ↓(a19 _ _ _).run, ↓(a17 _).run, ↓a36.run, e1, e2, tx_none, tx_size, hw, hne, go_sem, Nat.reduceEqDiff, Nat.reduceAdd, Nat.reduceLeDiff, Int.reduceEq, Int.reduceLT, Int.reduceLE, Int.reduceAdd, Int.reduceSub, Int.reduceMul, Int.reduceNeg, Int.reduceToNat, Nat.reduceMul]
    exact hQ _ _ (by simp only [go_sem, Nat.reduceEqDiff, Nat.reduceAdd, Nat.reduceLeDiff, Int.reduceEq, Int.reduceLT, Int.reduceLE, Int.reduceAdd, Int.reduceSub, Int.reduceMul, Int.reduceNeg, Int.reduceToNat, Nat.reduceMul]) (by rw [lw_push, lw_enter]; omega)
  have n1 : ¬ secret = [] := fun h => hA (.inl h)
  have n2 : ¬ (1024 : Int) < secret.length := fun h => hA (.inr h)
  obtain ⟨n, rfl⟩ : ∃ n : Nat, many = (n : Int) := ⟨many.toNat, by omega⟩
  obtain ⟨M, rfl⟩ : ∃ M : Nat, need = ((M + 1 : Nat) : Int) := ⟨(need - 1).toNat, by omega⟩
  have hM : ((M + 1 : Nat) : Int) - 1 = (M : Int) := by omega
  have w1 := w64 (x := (M : Int)) (by omega) (by omega)
  have hle : secret.length * M ≤ 1024 * 255 := Nat.mul_le_mul (by omega) (by omega)
  have em : (secret.length : Int) * (M : Int) = ((secret.length * M : Nat) : Int) := by simp
  have w2 := w64 (x := ((secret.length * M : Nat) : Int)) (by omega) (by omega)
  have f000 : firstL [0, 0, 0] = 0 := rfl
  by_cases a7 : (nz.length : Int) = ((secret.length * M : Nat) : Int)
  case neg =>
    have h6 : shE secret nz ((M + 1 : Nat) : Int) n = 6 := by
      unfold shE; rw [if_neg n1, if_neg (by omega), if_neg (by omega), hM, em, if_pos a7]
    have a36 := v36_bad L.h36 secret nz hz ((M + 1 : Nat) : Int) n hnd (by rw [h6]; decide) H.enter
    rw [h6] at a36
    simp only [f0, f1, f2, f3, f4, ↓(a14 _ _ _ _).run, ↓(a21 _ _ _).run, ↓(a19 _ _ _).run, ↓(a17 _).run, ↓a36.run, e1, e2, tx_none, tx_size, n1, n2, f000, hM, w1, em, w2, a7, go_sem, Nat.reduceEqDiff, Nat.reduceAdd, Nat.reduceLeDiff, Int.reduceEq, Int.reduceLT, Int.reduceLE, Int.reduceAdd, Int.reduceSub, Int.reduceMul, Int.reduceNeg, Int.reduceToNat, Nat.reduceMul]
    exact hQ _ _ (by simp only [go_sem, Nat.reduceEqDiff, Nat.reduceAdd, Nat.reduceLeDiff, Int.reduceEq, Int.reduceLT, Int.reduceLE, Int.reduceAdd, Int.reduceSub, Int.reduceMul, Int.reduceNeg, Int.reduceToNat, Nat.reduceMul]) (by rw [lw_push, lw_enter]; omega)
  have hno : nz.length = secret.length * M := by omega
  have hn0 : 0 < n := by omega
  have a36 := v36 S.h73 L.h36 secret nz M n n1 (by omega) (by omega) (by omega) hno H.enter
  rw [mkS_pos hn0, mkH_pos hn0] at a36
  simp only [nx_enter] at a36
  obtain ⟨sh, hsh⟩ : ∃ sh, sh = shL secret nz M n := ⟨_, rfl⟩
  have hshl : sh.length = n := by rw [hsh, shL_len]
  rw [← hsh] at a36
  have a19' := fun a b c => v19_3s (tbl := tbl) L.h19 (H.enter.push ⟨shc sh, 2, false⟩) a b c
  simp only [AH.next_push, nx_enter] at a19'
  by_cases h40 : (40 : Int) < secret.length
  · simp only [f0, f1, f2, f3, f4, ↓(a14 _ _ _ _).run, ↓(a21 _ _ _).run, ↓(a19' _ _ _).run, ↓(a17 _).run, ↓a36.run, e1, e2, tx_none, tx_size, n1, n2, f000, hM, w1, em, w2, a7, h40, AH.next_push, go_sem, Nat.reduceEqDiff, Nat.reduceAdd, Nat.reduceLeDiff, Int.reduceEq, Int.reduceLT, Int.reduceLE, Int.reduceAdd, Int.reduceSub, Int.reduceMul, Int.reduceNeg, Int.reduceToNat, Nat.reduceMul]
    exact hQ _ _ (by simp only [go_sem, Nat.reduceEqDiff, Nat.reduceAdd, Nat.reduceLeDiff, Int.reduceEq, Int.reduceLT, Int.reduceLE, Int.reduceAdd, Int.reduceSub, Int.reduceMul, Int.reduceNeg, Int.reduceToNat, Nat.reduceMul]) (by rw [lw_push, lw_push, lw_enter]; omega)
  have a38 := fun X => v38 (tbl := tbl) L.h74 L.h38 secret nz M n (by omega) (by omega) (by omega) hno X
  rw [← hsh] at a38
  simp only [mkS_pos hn0, mkH_pos hn0] at a38
  simp only [f0, f1, f2, f3, f4, ↓(a14 _ _ _ _).run, ↓(a21 _ _ _).run, ↓(a19' _ _ _).run, ↓(a17 _).run, ↓a36.run, ↓(a38 _).run, e1, e2, tx_none, tx_size, n1, n2, f000, hM, w1, em, w2, a7, h40, AH.next_push, go_sem, Nat.reduceEqDiff, Nat.reduceAdd, Nat.reduceLeDiff, Int.reduceEq, Int.reduceLT, Int.reduceLE, Int.reduceAdd, Int.reduceSub, Int.reduceMul, Int.reduceNeg, Int.reduceToNat, Nat.reduceMul]
  obtain ⟨va, vc, rfl⟩ := hpk.shape
  have g12 : (((H.enter.push ⟨shc sh, 2, false⟩).push ⟨[.int .i64 0, .int .i64 0, .int .i64 0], 1, false⟩).push ⟨shc sh, 2, false⟩).get H.next = some ⟨shc sh, 2, false⟩ := by
    rw [AH.get_push_lt _ _ (by rw [AH.next_push, AH.next_push, nx_enter]; omega), AH.get_push_lt _ _ (by rw [AH.next_push, nx_enter]; omega)]
    exact AH.get_push_eq H.enter _
  have g13 : (((H.enter.push ⟨shc sh, 2, false⟩).push ⟨[.int .i64 0, .int .i64 0, .int .i64 0], 1, false⟩).push ⟨shc sh, 2, false⟩).get (H.next + 1 + 1) = some ⟨shc sh, 2, false⟩ := by
    have hx : ((H.enter.push ⟨shc sh, 2, false⟩).push ⟨[.int .i64 0, .int .i64 0, .int .i64 0], 1, false⟩).next = H.next + 1 + 1 := by rw [AH.next_push, AH.next_push, nx_enter]
    rw [← hx]
    exact AH.get_push_eq _ _
  have st3 := (((Junk.enter H).push ⟨shc sh, 2, false⟩).push ⟨[.int .i64 0, .int .i64 0, .int .i64 0], 1, false⟩).push ⟨shc sh, 2, false⟩
  have n3 : (((H.enter.push ⟨shc sh, 2, false⟩).push ⟨[.int .i64 0, .int .i64 0, .int .i64 0], 1, false⟩).push ⟨shc sh, 2, false⟩).next = H.next + 3 := by rw [AH.next_push, AH.next_push, AH.next_push, nx_enter]
  generalize ((H.enter.push ⟨shc sh, 2, false⟩).push ⟨[.int .i64 0, .int .i64 0, .int .i64 0], 1, false⟩).push ⟨shc sh, 2, false⟩ = X at g12 g13 st3 n3 ⊢
  have hc2 : (shc sh).length = n * 2 := by rw [shc_len, hshl]
  have hown : ∀ (Y : AH) (b : Nat), Y.get b = some ⟨shc sh, 2, false⟩ → Sl Y 2 (.slice (some ⟨b, 0, none⟩) n n) sh.length (shc sh) := fun Y b h => .inr ⟨_, n, by rw [hshl], by rw [hshl]; exact ldc_all h hc2⟩
  have a37 := v37 L.h37 sh (by omega) (hown X _ g12) (hown X _ g13)
  simp only [f0, f1, f2, f3, f4, ↓a37.run, go_sem, Nat.reduceEqDiff, Nat.reduceAdd, Nat.reduceLeDiff, Int.reduceEq, Int.reduceLT, Int.reduceLE, Int.reduceAdd, Int.reduceSub, Int.reduceMul, Int.reduceNeg, Int.reduceToNat, Nat.reduceMul]
  refine rn_loop (fun m f H' => ∃ (i : Nat) (sm : List Sh) (s : Value), i ≤ pk.length ∧ m = pk.length - i ∧ f 0 = .string (tx secret) ∧ f 2 = .int .i64 ((M + 1 : Nat) : Int) ∧ f 3 = .int .i64 n ∧ f 12 = .slice (some ⟨H.next, 0, none⟩) n n ∧ f 15 = s ∧ f 134 = .slice va pk.length vc ∧ f 135 = .int .i64 pk.length ∧ f 136 = .int .i64 i ∧ Own (H.next + 1) H' 2 s sm.length (shc sm) ∧ Some' secret nz M n sm ∧ Junk H H' ∧ H.next < H'.next ∧ H'.get H.next = some ⟨shc sh, 2, false⟩) ?_ (n := pk.length)
    ⟨0, [], .slice none 0 0, by omega, rfl, by simp only [f0, go_sem, Nat.reduceEqDiff, Nat.reduceAdd, Nat.reduceLeDiff, Int.reduceEq, Int.reduceLT, Int.reduceLE, Int.reduceAdd, Int.reduceSub, Int.reduceMul, Int.reduceNeg, Int.reduceToNat, Nat.reduceMul], by simp only [f2, go_sem, Nat.reduceEqDiff, Nat.reduceAdd, Nat.reduceLeDiff, Int.reduceEq, Int.reduceLT, Int.reduceLE, Int.reduceAdd, Int.reduceSub, Int.reduceMul, Int.reduceNeg, Int.reduceToNat, Nat.reduceMul], by simp only [f3, go_sem, Nat.reduceEqDiff, Nat.reduceAdd, Nat.reduceLeDiff, Int.reduceEq, Int.reduceLT, Int.reduceLE, Int.reduceAdd, Int.reduceSub, Int.reduceMul, Int.reduceNeg, Int.reduceToNat, Nat.reduceMul], by simp only [go_sem, Nat.reduceEqDiff, Nat.reduceAdd, Nat.reduceLeDiff, Int.reduceEq, Int.reduceLT, Int.reduceLE, Int.reduceAdd, Int.reduceSub, Int.reduceMul, Int.reduceNeg, Int.reduceToNat, Nat.reduceMul], by simp only [go_sem, Nat.reduceEqDiff, Nat.reduceAdd, Nat.reduceLeDiff, Int.reduceEq, Int.reduceLT, Int.reduceLE, Int.reduceAdd, Int.reduceSub, Int.reduceMul, Int.reduceNeg, Int.reduceToNat, Nat.reduceMul], by simp only [f4, go_sem, Nat.reduceEqDiff, Nat.reduceAdd, Nat.reduceLeDiff, Int.reduceEq, Int.reduceLT, Int.reduceLE, Int.reduceAdd, Int.reduceSub, Int.reduceMul, Int.reduceNeg, Int.reduceToNat, Nat.reduceMul], by simp only [go_sem, Nat.reduceEqDiff, Nat.reduceAdd, Nat.reduceLeDiff, Int.reduceEq, Int.reduceLT, Int.reduceLE, Int.reduceAdd, Int.reduceSub, Int.reduceMul, Int.reduceNeg, Int.reduceToNat, Nat.reduceMul], by simp only [go_sem, Nat.reduceEqDiff, Nat.reduceAdd, Nat.reduceLeDiff, Int.reduceEq, Int.reduceLT, Int.reduceLE, Int.reduceAdd, Int.reduceSub, Int.reduceMul, Int.reduceNeg, Int.reduceToNat, Nat.reduceMul] <;> rfl, .inl ⟨rfl, rfl, rfl⟩, ⟨fun p hp => by simp at hp, List.nodup_nil⟩, st3, by omega, g12⟩
  clear f0 f1 f2 f3 f4
  rintro m f H' ⟨i, sm, s, hi, rfl, f0, f2, f3, f12, f15, f134, f135, f136, ho, hsm, st, hn, g12'⟩
  have hmost := hsm.most
  by_cases hlt : (i : Int) < pk.length
  · have hi2 : i < pk.length := by omega
    have wi := w64 (x := (i : Int) + 1) (by omega) (by omega)
    have hn0I : ¬ (n : Int) = 0 := by omega
    obtain ⟨q, hq, hw, hqm⟩ := place_eq (a := pk[i]) (L := n) hn0 (by omega) (hpr _ (List.getElem_mem hi2))
    simp only [f0, f2, f3, f12, f15, f134, f135, f136, hlt, go_sem, Nat.reduceEqDiff, Nat.reduceAdd, Nat.reduceLeDiff, Int.reduceEq, Int.reduceLT, Int.reduceLE, Int.reduceAdd, Int.reduceSub, Int.reduceMul, Int.reduceNeg, Int.reduceToNat, Nat.reduceMul]
    refine (hpk.keep st.old).int hi2 fun p hp1 hp2 => ?_
    simp only [f0, f2, f3, f12, f15, f134, f135, f136, hp2, hn0I, hw, hqm, go_sem, Nat.reduceEqDiff, Nat.reduceAdd, Nat.reduceLeDiff, Int.reduceEq, Int.reduceLT, Int.reduceLE, Int.reduceAdd, Int.reduceSub, Int.reduceMul, Int.reduceNeg, Int.reduceToNat, Nat.reduceMul]
    refine (hown H' _ g12').at_ (i := q) (by omega) fun p' hp3 hp4 => ?_
    rw [shc_at _ _ (by omega)] at hp4
    have hp9 : H'.next < H'.next + 1 := by omega
    obtain ⟨P, hP⟩ : ∃ P, P = sh[q]'(by omega) := ⟨_, rfl⟩
    rw [← hP] at hp4
    have hPs : P = shP secret nz M q := by
      rw [hP]
      simp only [hsh, shL, List.getElem_map, List.getElem_range]
    simp only [f0, f2, f3, f12, f15, f134, f135, f136, hp4, hp9, stc_eq, stB_some, go_sem, Nat.reduceEqDiff, Nat.reduceAdd, Nat.reduceLeDiff, Int.reduceEq, Int.reduceLT, Int.reduceLE, Int.reduceAdd, Int.reduceSub, Int.reduceMul, Int.reduceNeg, Int.reduceToNat, Nat.reduceMul]
    have st2 := (st.push ⟨[.int .i64 0, .string ⟨#[]⟩], 1, false⟩).set st.nx (some ⟨[.int .i64 P.1, .string (tx P.2)], 1, false⟩)
    have g18 := ps_get (H' := H') (b := ⟨[.int .i64 0, .string ⟨#[]⟩], 1, false⟩) (c := ⟨[.int .i64 P.1, .string (tx P.2)], 1, false⟩)
    have old2 : ∀ id, id < H'.next → ((H'.push ⟨[.int .i64 0, .string ⟨#[]⟩], 1, false⟩).set H'.next (some ⟨[.int .i64 P.1, .string (tx P.2)], 1, false⟩)).get id = H'.get id := fun id hid => ps_old hid
    have n2 := ps_next (H' := H') (b := ⟨[.int .i64 0, .string ⟨#[]⟩], 1, false⟩) (c := ⟨[.int .i64 P.1, .string (tx P.2)], 1, false⟩)
    generalize (H'.push ⟨[.int .i64 0, .string ⟨#[]⟩], 1, false⟩).set H'.next (some ⟨[.int .i64 P.1, .string (tx P.2)], 1, false⟩) = H2 at st2 g18 old2 n2 ⊢
    have ho2 := ho.keep old2
    have a39 := v39 L.h75 L.h39 sm (by omega) P ho2.sl
    have hlow : ∀ Y : AH, Junk H Y → ¬ Y.low < H.next := fun Y h => by have := h.low; omega
    have g12b : H2.get H.next = some ⟨shc sh, 2, false⟩ := (old2 _ hn).trans g12'
    by_cases hin : P ∈ sm
    · have e3 : decide (P ∈ sm) = true := decide_eq_true hin
      simp only [f0, f2, f3, f12, f15, f134, f135, f136, g18, ↓a39.run, e3, wi, go_sem, Nat.reduceEqDiff, Nat.reduceAdd, Nat.reduceLeDiff, Int.reduceEq, Int.reduceLT, Int.reduceLE, Int.reduceAdd, Int.reduceSub, Int.reduceMul, Int.reduceNeg, Int.reduceToNat, Nat.reduceMul]
      exact ⟨pk.length - (i + 1), by omega, i + 1, sm, s, by omega, rfl, by simp only [f0, go_sem, Nat.reduceEqDiff, Nat.reduceAdd, Nat.reduceLeDiff, Int.reduceEq, Int.reduceLT, Int.reduceLE, Int.reduceAdd, Int.reduceSub, Int.reduceMul, Int.reduceNeg, Int.reduceToNat, Nat.reduceMul], by simp only [f2, go_sem, Nat.reduceEqDiff, Nat.reduceAdd, Nat.reduceLeDiff, Int.reduceEq, Int.reduceLT, Int.reduceLE, Int.reduceAdd, Int.reduceSub, Int.reduceMul, Int.reduceNeg, Int.reduceToNat, Nat.reduceMul], by simp only [f3, go_sem, Nat.reduceEqDiff, Nat.reduceAdd, Nat.reduceLeDiff, Int.reduceEq, Int.reduceLT, Int.reduceLE, Int.reduceAdd, Int.reduceSub, Int.reduceMul, Int.reduceNeg, Int.reduceToNat, Nat.reduceMul], by simp only [f12, go_sem, Nat.reduceEqDiff, Nat.reduceAdd, Nat.reduceLeDiff, Int.reduceEq, Int.reduceLT, Int.reduceLE, Int.reduceAdd, Int.reduceSub, Int.reduceMul, Int.reduceNeg, Int.reduceToNat, Nat.reduceMul], by simp only [f15, go_sem, Nat.reduceEqDiff, Nat.reduceAdd, Nat.reduceLeDiff, Int.reduceEq, Int.reduceLT, Int.reduceLE, Int.reduceAdd, Int.reduceSub, Int.reduceMul, Int.reduceNeg, Int.reduceToNat, Nat.reduceMul], by simp only [f134, go_sem, Nat.reduceEqDiff, Nat.reduceAdd, Nat.reduceLeDiff, Int.reduceEq, Int.reduceLT, Int.reduceLE, Int.reduceAdd, Int.reduceSub, Int.reduceMul, Int.reduceNeg, Int.reduceToNat, Nat.reduceMul], by simp only [f135, go_sem, Nat.reduceEqDiff, Nat.reduceAdd, Nat.reduceLeDiff, Int.reduceEq, Int.reduceLT, Int.reduceLE, Int.reduceAdd, Int.reduceSub, Int.reduceMul, Int.reduceNeg, Int.reduceToNat, Nat.reduceMul], by simp only [go_sem, Nat.reduceEqDiff, Nat.reduceAdd, Nat.reduceLeDiff, Int.reduceEq, Int.reduceLT, Int.reduceLE, Int.reduceAdd, Int.reduceSub, Int.reduceMul, Int.reduceNeg, Int.reduceToNat, Nat.reduceMul] <;> rfl, ho2, hsm, st2, by omega, g12b⟩
    · have e3 : decide (P ∈ sm) = false := decide_eq_false hin
      have hadd := hsm.add hq (by rw [← hPs]; exact hin)
      rw [← hPs] at hadd
      obtain ⟨s', H4, hap, ho4, hold4, hn4, hl4⟩ := (ho2.push ⟨[.int .i64 P.1, .string (tx P.2)], 2, false⟩).append (bytes := 24) (k := 1) (new := [.int .i64 P.1, .string (tx P.2)]) (by rw [AH.next_push]; omega) (by omega) rfl (by omega)
      rw [AH.next_push] at hn4
      have hcs : shc sm ++ [.int .i64 P.1, .string (tx P.2)] = shc (sm ++ [P]) := by rw [← shc_app]; rfl
      rw [hcs] at ho4
      have hlen1 : (sm ++ [P]).length = sm.length + 1 := by rw [List.length_append]; rfl
      rw [← hlen1] at ho4
      have st4 : Junk H H4 := ⟨fun id hid => (hold4 id (by omega)).trans ((st2.push _).old id hid), by have := st2.nx; omega, hl4 H.next (by omega) (by rw [lw_push]; exact st2.low)⟩
      have g12c : H4.get H.next = some ⟨shc sh, 2, false⟩ := by
        rw [hold4 H.next (by omega), AH.get_push_lt _ _ (by omega)]
        exact g12b
      simp only [f0, f2, f3, f12, f15, f134, f135, f136, g18, ↓a39.run, e3, wi, hap, List.toList_toArray, go_sem, Nat.reduceEqDiff, Nat.reduceAdd, Nat.reduceLeDiff, Int.reduceEq, Int.reduceLT, Int.reduceLE, Int.reduceAdd, Int.reduceSub, Int.reduceMul, Int.reduceNeg, Int.reduceToNat, Nat.reduceMul]
      exact ⟨pk.length - (i + 1), by omega, i + 1, sm ++ [P], s', by omega, rfl, by simp only [f0, go_sem, Nat.reduceEqDiff, Nat.reduceAdd, Nat.reduceLeDiff, Int.reduceEq, Int.reduceLT, Int.reduceLE, Int.reduceAdd, Int.reduceSub, Int.reduceMul, Int.reduceNeg, Int.reduceToNat, Nat.reduceMul], by simp only [f2, go_sem, Nat.reduceEqDiff, Nat.reduceAdd, Nat.reduceLeDiff, Int.reduceEq, Int.reduceLT, Int.reduceLE, Int.reduceAdd, Int.reduceSub, Int.reduceMul, Int.reduceNeg, Int.reduceToNat, Nat.reduceMul], by simp only [f3, go_sem, Nat.reduceEqDiff, Nat.reduceAdd, Nat.reduceLeDiff, Int.reduceEq, Int.reduceLT, Int.reduceLE, Int.reduceAdd, Int.reduceSub, Int.reduceMul, Int.reduceNeg, Int.reduceToNat, Nat.reduceMul], by simp only [f12, go_sem, Nat.reduceEqDiff, Nat.reduceAdd, Nat.reduceLeDiff, Int.reduceEq, Int.reduceLT, Int.reduceLE, Int.reduceAdd, Int.reduceSub, Int.reduceMul, Int.reduceNeg, Int.reduceToNat, Nat.reduceMul], by simp only [go_sem, Nat.reduceEqDiff, Nat.reduceAdd, Nat.reduceLeDiff, Int.reduceEq, Int.reduceLT, Int.reduceLE, Int.reduceAdd, Int.reduceSub, Int.reduceMul, Int.reduceNeg, Int.reduceToNat, Nat.reduceMul], by simp only [f134, go_sem, Nat.reduceEqDiff, Nat.reduceAdd, Nat.reduceLeDiff, Int.reduceEq, Int.reduceLT, Int.reduceLE, Int.reduceAdd, Int.reduceSub, Int.reduceMul, Int.reduceNeg, Int.reduceToNat, Nat.reduceMul], by simp only [f135, go_sem, Nat.reduceEqDiff, Nat.reduceAdd, Nat.reduceLeDiff, Int.reduceEq, Int.reduceLT, Int.reduceLE, Int.reduceAdd, Int.reduceSub, Int.reduceMul, Int.reduceNeg, Int.reduceToNat, Nat.reduceMul], by simp only [go_sem, Nat.reduceEqDiff, Nat.reduceAdd, Nat.reduceLeDiff, Int.reduceEq, Int.reduceLT, Int.reduceLE, Int.reduceAdd, Int.reduceSub, Int.reduceMul, Int.reduceNeg, Int.reduceToNat, Nat.reduceMul] <;> rfl, ho4, hadd, st4, by omega, g12c⟩
  · have hnl : ¬ H'.low < H.next := by have := st.low; omega
    obtain ⟨sc, hsc⟩ : ∃ k, s = .slice k sm.length sm.length := by
      rcases ho with ⟨h1, h2, _⟩ | ⟨b, h1, _⟩
      · exact ⟨none, by rw [h1, h2]⟩
      · exact ⟨_, h1⟩
    subst hsc
    have hdX : H'.get 0 = none := by rw [st.old 0 hd0]; exact hd
    have hdX0 : 0 < H'.next := by omega
    have hSs : ∀ b, sc = some ⟨b, 0, none⟩ → H'.get b = some ⟨shc sm, 2, false⟩ → Ss H' (.slice sc sm.length sm.length) ⟨b, 0, none⟩ sm.length sm := fun b h1 h2 => ⟨by rw [h1], Nat.le_refl _, ⟨_, h2, rfl⟩, ldc_all h2 (shc_len sm)⟩
    have htn : (tx [] : ByteArray) = ⟨#[]⟩ := rfl
    by_cases h12 : (12 : Int) < sm.length
    · obtain ⟨b, hb1, hb2⟩ : ∃ b, sc = some ⟨b, 0, none⟩ ∧ H'.get b = some ⟨shc sm, 2, false⟩ := by
        rcases ho with ⟨_, h2, _⟩ | ⟨b, h1, h2, _⟩
        · omega
        · simp only [Value.slice.injEq] at h1
          exact ⟨b, h1.1, h2⟩
      have hS := hSs b hb1 hb2
      subst hb1
      obtain ⟨hsl, hsl2⟩ := hS.pre (k := 12) (by omega)
      have h12l : (sm.take 12).length = 12 := by rw [List.length_take]; omega
      have hS2 : Ss H' (.slice (some ⟨b, 0, none⟩) (sm.take 12).length sm.length) ⟨b, 0, none⟩ sm.length (sm.take 12) := ⟨rfl, by omega, hS.blk, by
        rcases hsl2 with ⟨a, c, h, h0, _⟩ | ⟨a, c, h, h2⟩
        · omega
        · simp only [Value.slice.injEq, Option.some.injEq] at h
          rw [h.1]; exact h2⟩
      have a32 := v32 S (sm.take 12) ((M + 1 : Nat) : Int) (ad := some ⟨b, 0, none⟩) (c := sm.length) (.inr (.inr ⟨_, rfl, hS2⟩)) (fun h => by simp at h) hdX hdX0
      rw [h12l] at a32
      have h12c : 12 ≤ sm.length := by omega
      by_cases hM12 : (12 : Int) < ((M + 1 : Nat) : Int)
      · obtain ⟨hE1, hT1⟩ := (hsm.take 12).short (by omega) (by omega)
        rw [hE1, hT1, htn] at a32
        simp only [f0, f2, f3, f12, f15, f134, f135, f136, hlt, h12, h12c, hsl, hM12, ↓a32.run, tx_none, go_sem, Nat.reduceEqDiff, Nat.reduceAdd, Nat.reduceLeDiff, Int.reduceEq, Int.reduceLT, Int.reduceLE, Int.reduceAdd, Int.reduceSub, Int.reduceMul, Int.reduceNeg, Int.reduceToNat, Nat.reduceMul]
        exact hQ _ _ (by simp only [go_sem, Nat.reduceEqDiff, Nat.reduceAdd, Nat.reduceLeDiff, Int.reduceEq, Int.reduceLT, Int.reduceLE, Int.reduceAdd, Int.reduceSub, Int.reduceMul, Int.reduceNeg, Int.reduceToNat, Nat.reduceMul]) hnl
      · obtain ⟨hE1, hT1⟩ := (hsm.take 12).enough (by omega) (by omega) n1 (by omega) (by omega) (by omega)
        rw [hE1, hT1] at a32
        simp only [f0, f2, f3, f12, f15, f134, f135, f136, hlt, h12, h12c, hsl, hM12, ↓a32.run, tx_inj, go_sem, Nat.reduceEqDiff, Nat.reduceAdd, Nat.reduceLeDiff, Int.reduceEq, Int.reduceLT, Int.reduceLE, Int.reduceAdd, Int.reduceSub, Int.reduceMul, Int.reduceNeg, Int.reduceToNat, Nat.reduceMul]
        exact hQ _ _ (by simp only [go_sem, Nat.reduceEqDiff, Nat.reduceAdd, Nat.reduceLeDiff, Int.reduceEq, Int.reduceLT, Int.reduceLE, Int.reduceAdd, Int.reduceSub, Int.reduceMul, Int.reduceNeg, Int.reduceToNat, Nat.reduceMul]) hnl
    · have a32 := v32 S sm ((M + 1 : Nat) : Int) (ad := sc) (c := sm.length) (by
        rcases ho with ⟨_, _, h2⟩ | ⟨b, h1, h2, _⟩
        · exact .inr (.inl (by
            have := shc_len sm
            rw [h2] at this
            exact List.eq_nil_of_length_eq_zero (by simp only [List.length_nil] at this; omega)))
        · simp only [Value.slice.injEq] at h1
          exact .inr (.inr ⟨_, h1.1, hSs b h1.1 h2⟩)) (fun h => by
        rcases ho with ⟨_, h2, _⟩ | ⟨b, h1, h2, _⟩
        · exact List.eq_nil_of_length_eq_zero h2
        · rw [h] at h1; simp at h1) hdX hdX0
      by_cases hM12 : (sm.length : Int) < ((M + 1 : Nat) : Int)
      · obtain ⟨hE1, hT1⟩ := hsm.short (by omega) (by omega)
        rw [hE1, hT1, htn] at a32
        simp only [f0, f2, f3, f12, f15, f134, f135, f136, hlt, h12, hM12, ↓a32.run, tx_none, go_sem, Nat.reduceEqDiff, Nat.reduceAdd, Nat.reduceLeDiff, Int.reduceEq, Int.reduceLT, Int.reduceLE, Int.reduceAdd, Int.reduceSub, Int.reduceMul, Int.reduceNeg, Int.reduceToNat, Nat.reduceMul]
        exact hQ _ _ (by simp only [go_sem, Nat.reduceEqDiff, Nat.reduceAdd, Nat.reduceLeDiff, Int.reduceEq, Int.reduceLT, Int.reduceLE, Int.reduceAdd, Int.reduceSub, Int.reduceMul, Int.reduceNeg, Int.reduceToNat, Nat.reduceMul]) hnl
      · obtain ⟨hE1, hT1⟩ := hsm.enough (by omega) (by omega) n1 (by omega) (by omega) (by omega)
        rw [hE1, hT1] at a32
        simp only [f0, f2, f3, f12, f15, f134, f135, f136, hlt, h12, hM12, ↓a32.run, tx_inj, go_sem, Nat.reduceEqDiff, Nat.reduceAdd, Nat.reduceLeDiff, Int.reduceEq, Int.reduceLT, Int.reduceLE, Int.reduceAdd, Int.reduceSub, Int.reduceMul, Int.reduceNeg, Int.reduceToNat, Nat.reduceMul]
        exact hQ _ _ (by simp only [go_sem, Nat.reduceEqDiff, Nat.reduceAdd, Nat.reduceLeDiff, Int.reduceEq, Int.reduceLT, Int.reduceLE, Int.reduceAdd, Int.reduceSub, Int.reduceMul, Int.reduceNeg, Int.reduceToNat, Nat.reduceMul]) hnl
theorem v8 (T : SealT tbl) (S : SecTb tbl) (L : ShaTb tbl) (h8' : tbl 8 = some (.code m8)) (secret noise : List UInt8) (hs : secret.length ≤ 9223372036854775807) (hno : noise.length ≤ 9223372036854775807) (need many : Int) (hnd : -9223372036854775808 ≤ need ∧ need ≤ 9223372036854775807) (pk : List Int) (hpl : pk.length ≤ 9223372036854775807) (hpr : ∀ x ∈ pk, -9223372036854775808 ≤ x ∧ x ≤ 9223372036854775807) {H : AH} {v : Value} (hd : H.get 0 = none) (hd0 : 0 < H.next) (hpk : Sl H 1 v pk.length (pk.map I64)) :
    Val tbl 8 [.string (tx secret), .string (tx noise), .int .i64 need, .int .i64 many, v] H (.bool true) H := by
  refine Val.of_all fun Q hQ => ?_
  rw [rn_fun h8', k8_eq]
  have hh := fun f a0 a1 a2 a3 a4 => head8 L.h14 secret noise hno need many hnd f H.enter v a0 a1 a2 a3 a4 hs
  simp only [rn_seq, go_sem, Nat.reduceEqDiff, Nat.reduceAdd, Nat.reduceLeDiff, Int.reduceEq, Int.reduceLT, Int.reduceLE, Int.reduceAdd, Int.reduceSub, Int.reduceMul, Int.reduceNeg, Int.reduceToNat, Nat.reduceMul]
  refine (hh _ (by simp only [go_sem, Nat.reduceEqDiff, Nat.reduceAdd, Nat.reduceLeDiff, Int.reduceEq, Int.reduceLT, Int.reduceLE, Int.reduceAdd, Int.reduceSub, Int.reduceMul, Int.reduceNeg, Int.reduceToNat, Nat.reduceMul]) (by simp only [go_sem, Nat.reduceEqDiff, Nat.reduceAdd, Nat.reduceLeDiff, Int.reduceEq, Int.reduceLT, Int.reduceLE, Int.reduceAdd, Int.reduceSub, Int.reduceMul, Int.reduceNeg, Int.reduceToNat, Nat.reduceMul]) (by simp only [go_sem, Nat.reduceEqDiff, Nat.reduceAdd, Nat.reduceLeDiff, Int.reduceEq, Int.reduceLT, Int.reduceLE, Int.reduceAdd, Int.reduceSub, Int.reduceMul, Int.reduceNeg, Int.reduceToNat, Nat.reduceMul]) (by simp only [go_sem, Nat.reduceEqDiff, Nat.reduceAdd, Nat.reduceLeDiff, Int.reduceEq, Int.reduceLT, Int.reduceLE, Int.reduceAdd, Int.reduceSub, Int.reduceMul, Int.reduceNeg, Int.reduceToNat, Nat.reduceMul]) (by simp only [go_sem, Nat.reduceEqDiff, Nat.reduceAdd, Nat.reduceLeDiff, Int.reduceEq, Int.reduceLT, Int.reduceLE, Int.reduceAdd, Int.reduceSub, Int.reduceMul, Int.reduceNeg, Int.reduceToNat, Nat.reduceMul])).mono ?_
  rintro _ f' _ ⟨rfl, rfl, nz, hnz, g0, g1, g2, g3, g4⟩
  show (@RunC tbl r8 f' H.enter ⟨finQ H [MRes.tmp 10] Q⟩)
  refine r8_ok T S L secret nz hs hnz need many hnd pk hpl hpr hd hd0 hpk f' g0 g1 g2 g3 g4 _ fun f'' H'' h10 hl => ?_
  simp only [finQ, h10, hl, go_sem, Nat.reduceEqDiff, Nat.reduceAdd, Nat.reduceLeDiff, Int.reduceEq, Int.reduceLT, Int.reduceLE, Int.reduceAdd, Int.reduceSub, Int.reduceMul, Int.reduceNeg, Int.reduceToNat, Nat.reduceMul]
  exact hQ
end Go.Proofs.Ytildhljhbbhmmaa.AM
/- Arguments that are slices of words. -/
namespace Go.Proofs.Ytildhljhbbhmmaa.AM
open Go Go.RowKit Go.ChangeShapes Go.WideShapes Go.ChangeAt
set_option linter.all false
set_option maxRecDepth 10000

section
variable {H : Type} {enc : TypeId × Value → H} {P : Program} {w : World}
theorem ints_at (l : List Int) (i : Nat) (h : i < l.length) : ((l.map I64).drop (i * 1)).take 1 = [.int .i64 l[i]] := by
  rw [Nat.mul_one, take_one (by simpa using h)]
  simp [I64]
theorem read_ints {t e : TypeId} {v : Value} {x : DataW H × List MemPlace} {k : Nat} {w : World} (ht : P.underlying t = some (.slice e)) (he : P.underlying e = some (.int .i64)) (hce : P.cellsOf e = 1)
    (hd : DataW.trod enc P w 0 (fun _ => true) true k t [v] = some x) :
    ∃ l : List Int, ArgS w v l.length 1 (l.map I64) ∧ (∀ x ∈ l, IntKind.i64.has x) ∧ l.length ≤ maxLen := by
  rcases _root_.Go.Deep.open_slice ht hd with ⟨h1, _⟩ | ⟨a, len, cap, m, n, D, Pl, h1, _, hlc, hcap, hm, _, hx⟩
  · simp only [List.cons.injEq, and_true] at h1
    exact ⟨[], ⟨0, by simp, by simp, .inl ⟨h1, rfl, rfl⟩⟩, by simp, by simp⟩
  · simp only [List.cons.injEq, and_true] at h1
    simp only [if_true] at hm
    subst hm
    rw [hce] at hx
    have key : ∀ k, k ≤ m → ∃ l : List Int, l.length = k ∧ (∀ x ∈ l, IntKind.i64.has x) ∧ ∀ i, i < k → w.cells? 0 (a.add (i * 1)) 1 = some (((l.map I64).drop (i * 1)).take 1) := by
      intro k
      induction k with
      | zero => intro _; exact ⟨[], rfl, by simp, fun i hi => by omega⟩
      | succ k ih =>
        intro hk
        obtain ⟨l, h2, h3, h4⟩ := ih (by omega)
        obtain ⟨cs', h5, h6⟩ := hx k (by omega)
        obtain ⟨y, hy, _, wy⟩ := DataW.trod_int he h6
        subst hy
        refine ⟨l ++ [y], by simp [h2], ?_, fun i hi => ?_⟩
        · intro p hp
          rcases List.mem_append.1 hp with hp | hp
          · exact h3 p hp
          · simp only [List.mem_singleton] at hp; subst hp
            simpa [Lit.wf, IntKind.has] using wy
        · rw [ints_at _ _ (by simp [h2]; omega)]
          by_cases hik : i < k
          · have := h4 i hik
            rw [ints_at _ _ (by omega)] at this
            rw [this]
            simp [List.getElem_append_left (show i < l.length by omega)]
          · have : i = k := by omega
            subst this
            rw [h5]
            simp [List.getElem_append_right (show l.length ≤ i by omega), h2]
    obtain ⟨l, h2, h3, h4⟩ := key len hlc
    refine ⟨l, ⟨m, by omega, hcap, .inr ⟨a, by rw [h1, h2], ?_⟩⟩, h3, by omega⟩
    have hp1 : (l.map I64).all p1 = true := by
      rw [List.all_eq_true]
      intro y hy
      simp only [List.mem_map] at hy
      obtain ⟨z, _, rfl⟩ := hy
      rfl
    by_cases hm0 : m = 0
    · have := List.eq_nil_of_length_eq_zero (show l.length = 0 by omega)
      subst this
      exact .inl ⟨hm0, rfl, rfl⟩
    · refine .inr ⟨by omega, argRow_of (base := 0) (by omega) (by omega) (by simp) (by omega) (fun v hv => List.all_eq_true.1 (p1_one hp1) v hv) fun i hi => ?_⟩
      obtain ⟨cs', h5, _⟩ := hx i hi
      refine ⟨cs', h5, fun hin => ?_⟩
      have := h4 i (by omega)
      rw [h5] at this
      exact Option.some.inj this
end
end Go.Proofs.Ytildhljhbbhmmaa.AM
