import Derived.Test.YtidpkoaomfbljaaBuckB
namespace Go.Proofs.Ytidpkoaomfbljaa.AM
open Go
set_option linter.all false
variable {tbl : Tbl} [hT : TMono tbl]

theorem rate_zero {l : List (Int × Int)} (h : allZero l = true) (t : Int) : rate l t = 0 := by
  have key : ∀ (r : List (Int × Int)) (acc : Int), allZero r = true → acc = 0 → rAtL (secOf t) r acc = 0 := by
    intro r
    induction r with
    | nil => intro acc _ h; exact h
    | cons p r ih =>
      intro acc h1 h2
      simp only [allZero, List.all_cons, Bool.and_eq_true, decide_eq_true_eq] at h1
      simp only [rAtL]
      refine ih _ h1.2 ?_
      split
      · exact h1.1
      · exact h2
  exact key l 0 h rfl
theorem buck_sl {H : AH} {kb : Nat} {l : List (Int × Int)} (h : H.get kb = some ⟨cells2 l, 2, false⟩) : Sl H 2 (.slice (some ⟨kb, 0, none⟩) l.length l.length) l.length (cells2 l) :=
  .inr ⟨_, _, rfl, ldc_all h (cells2_len l)⟩
theorem v54 (h55 : tbl 55 = some (.code m55)) (h54 : tbl 54 = some (.code m54)) {H : AH} {k kb : Nat} {l : List (Int × Int)} (hl : Right l) {most level at0 at1 : Int} (hbk : H.get k = some (buck kb l.length most level at0 (allZero l))) (hrt : H.get kb = some ⟨cells2 l, 2, false⟩)
    (hm : 0 ≤ most ∧ most ≤ 1000000000000) (hlv : 0 ≤ level ∧ level ≤ most) (ht0 : 0 ≤ at0) (ht1 : at0 ≤ at1) (ht2 : at1 ≤ 1099511627776) :
    Val tbl 54 [.pointer (some ⟨k, 0, none⟩), .int .i64 at1] H (.int .i64 (holdB l most at1 (passB l most (at1 - at0).toNat at0 level))) H := by
  refine Val.of_all fun Q hQ => ?_
  rw [rn_fun h54, k54]
  have hs' : Sl H.enter 2 (.slice (some ⟨kb, 0, none⟩) l.length l.length) l.length (cells2 l) := buck_sl hrt
  have v55' := fun (t : Int) (ht : 0 ≤ t ∧ t ≤ 1099511627776) => v55 h55 hs' hl.len hl.from_ t ht
  have hv2 := v55' at1 (by omega)
  obtain ⟨e2, he2, _, _, _⟩ := rEnd_law hl (t := at1) (by omega)
  rw [he2] at hv2
  simp only at hv2
  simp only [go_sem, Nat.reduceEqDiff, Nat.reduceAdd, Nat.reduceLeDiff, Int.reduceEq, Int.reduceLT, Int.reduceLE, Int.reduceAdd, Int.reduceSub, Int.reduceMul, Int.reduceNeg, Int.reduceToNat, Nat.reduceMul, nilV, hbk, buck]
  refine rn_loop (fun m f H' => H' = H.enter ∧ ∃ (t lv : Int), at0 ≤ t ∧ t ≤ at1 ∧ m = (at1 - t).toNat ∧ f 0 = .pointer (some ⟨k, 0, none⟩) ∧ f 1 = .int .i64 at1 ∧ f 5 = .int .i64 lv ∧ f 6 = .int .i64 t ∧ lv = passB l most (t - at0).toNat at0 level) ?_ (n := (at1 - at0).toNat)
    ⟨rfl, at0, level, by omega, ht1, rfl, by simp only [go_sem, Nat.reduceEqDiff, Nat.reduceAdd, Nat.reduceLeDiff, Int.reduceEq, Int.reduceLT, Int.reduceLE, Int.reduceAdd, Int.reduceSub, Int.reduceMul, Int.reduceNeg, Int.reduceToNat, Nat.reduceMul], by simp only [go_sem, Nat.reduceEqDiff, Nat.reduceAdd, Nat.reduceLeDiff, Int.reduceEq, Int.reduceLT, Int.reduceLE, Int.reduceAdd, Int.reduceSub, Int.reduceMul, Int.reduceNeg, Int.reduceToNat, Nat.reduceMul], by simp only [go_sem, Nat.reduceEqDiff, Nat.reduceAdd, Nat.reduceLeDiff, Int.reduceEq, Int.reduceLT, Int.reduceLE, Int.reduceAdd, Int.reduceSub, Int.reduceMul, Int.reduceNeg, Int.reduceToNat, Nat.reduceMul], by simp only [go_sem, Nat.reduceEqDiff, Nat.reduceAdd, Nat.reduceLeDiff, Int.reduceEq, Int.reduceLT, Int.reduceLE, Int.reduceAdd, Int.reduceSub, Int.reduceMul, Int.reduceNeg, Int.reduceToNat, Nat.reduceMul], by rw [Int.sub_self]; rfl⟩
  rintro m f H' ⟨rfl, t, lv, hat, htb, rfl, f0, f1, f5, f6, hlv'⟩
  have hlr := passB_range hl (t - at0).toNat at0 level hlv
  rw [← hlv'] at hlr
  by_cases hlt : t < at1
  · cases hz : allZero l with
    | true =>
      rw [hz] at hbk
      have e1 : passB l most (at1 - at0).toNat at0 level = lv := by
        rw [show (at1 - at0).toNat = (t - at0).toNat + (at1 - t).toNat by omega, passB_add, ← hlv', passB_seg (r := 0) (by omega) _ _ _ (fun i _ => rate_zero hz _) hlr.2]
        simp only [Int.zero_mul, Int.add_zero]
        rw [if_neg (by omega)]
      have hr0 := rate_zero hz at1
      have n1 : ¬ rate l at1 = -1 := by omega
      rw [e1, holdB, if_neg n1] at hQ
      simp only [f0, f1, f5, f6, nilV, hbk, buck, hlt, ↓hv2.run, n1, go_sem, Nat.reduceEqDiff, Nat.reduceAdd, Nat.reduceLeDiff, Int.reduceEq, Int.reduceLT, Int.reduceLE, Int.reduceAdd, Int.reduceSub, Int.reduceMul, Int.reduceNeg, Int.reduceToNat, Nat.reduceMul]
      exact hQ
    | false =>
      rw [hz] at hbk
      obtain ⟨e, he, hte, hed, hconst⟩ := rEnd_law hl (t := t) (by omega)
      have hv := v55' t (by omega)
      rw [he] at hv
      simp only at hv
      obtain ⟨t2, ht2⟩ : ∃ t2, t2 = (if at1 < e then at1 else e) := ⟨_, rfl⟩
      have ht2r : t < t2 ∧ t2 ≤ at1 ∧ t2 ≤ e := by rw [ht2]; split <;> omega
      have hday : dayOf t ≤ t := by unfold dayOf; omega
      have hlen : 0 ≤ t2 - t ∧ t2 - t ≤ 86400000 := by omega
      have hrr := rate_range hl t
      have hp : passB l most (t2 - at0).toNat at0 level = passB l most (t2 - t).toNat t lv := by
        rw [show (t2 - at0).toNat = (t - at0).toNat + (t2 - t).toNat by omega, passB_add, ← hlv', show at0 + (((t - at0).toNat : Nat) : Int) = t by omega]
      have hcst : ∀ i : Nat, i < (t2 - t).toNat → rate l (t + i) = rate l t := fun i hi => hconst (t + i) (by omega) (by omega)
      by_cases n1 : rate l t = -1
      · simp only [f0, f1, f5, f6, nilV, hbk, buck, hlt, ↓hv.run, n1, ← ht2, go_sem, Nat.reduceEqDiff, Nat.reduceAdd, Nat.reduceLeDiff, Int.reduceEq, Int.reduceLT, Int.reduceLE, Int.reduceAdd, Int.reduceSub, Int.reduceMul, Int.reduceNeg, Int.reduceToNat, Nat.reduceMul]
        have hfull := passB_full (l := l) (most := most) (t2 - t).toNat t lv (by omega) fun i hi => by rw [hcst i hi]; exact n1
        exact ⟨(at1 - t2).toNat, by omega, rfl, t2, most, by omega, by omega, rfl, by simp only [f0, go_sem, Nat.reduceEqDiff, Nat.reduceAdd, Nat.reduceLeDiff, Int.reduceEq, Int.reduceLT, Int.reduceLE, Int.reduceAdd, Int.reduceSub, Int.reduceMul, Int.reduceNeg, Int.reduceToNat, Nat.reduceMul], by simp only [f1, go_sem, Nat.reduceEqDiff, Nat.reduceAdd, Nat.reduceLeDiff, Int.reduceEq, Int.reduceLT, Int.reduceLE, Int.reduceAdd, Int.reduceSub, Int.reduceMul, Int.reduceNeg, Int.reduceToNat, Nat.reduceMul], by simp only [go_sem, Nat.reduceEqDiff, Nat.reduceAdd, Nat.reduceLeDiff, Int.reduceEq, Int.reduceLT, Int.reduceLE, Int.reduceAdd, Int.reduceSub, Int.reduceMul, Int.reduceNeg, Int.reduceToNat, Nat.reduceMul], by simp only [go_sem, Nat.reduceEqDiff, Nat.reduceAdd, Nat.reduceLeDiff, Int.reduceEq, Int.reduceLT, Int.reduceLE, Int.reduceAdd, Int.reduceSub, Int.reduceMul, Int.reduceNeg, Int.reduceToNat, Nat.reduceMul], by rw [hp, hfull]⟩
      · have hgot : 0 ≤ rate l t * (t2 - t) ∧ rate l t * (t2 - t) ≤ 86400000000000000 := by
          refine ⟨Int.mul_nonneg (by omega) hlen.1, ?_⟩
          calc rate l t * (t2 - t) ≤ 1000000000 * (t2 - t) := Int.mul_le_mul_of_nonneg_right hrr.2 hlen.1
            _ ≤ 1000000000 * 86400000 := Int.mul_le_mul_of_nonneg_left hlen.2 (by omega)
        have w1 := w64 (x := t2 - t) (by omega) (by omega)
        have w2 := w64 (x := rate l t * (t2 - t)) (by omega) (by omega)
        have w3 := w64 (x := lv + rate l t * (t2 - t)) (by omega) (by omega)
        have hseg := passB_seg (l := l) (most := most) (r := rate l t) (by omega) (t2 - t).toNat t lv hcst hlr.2
        rw [show (((t2 - t).toNat : Nat) : Int) = t2 - t by omega] at hseg
        simp only [f0, f1, f5, f6, nilV, hbk, buck, hlt, ↓hv.run, n1, ← ht2, w1, w2, w3, go_sem, Nat.reduceEqDiff, Nat.reduceAdd, Nat.reduceLeDiff, Int.reduceEq, Int.reduceLT, Int.reduceLE, Int.reduceAdd, Int.reduceSub, Int.reduceMul, Int.reduceNeg, Int.reduceToNat, Nat.reduceMul]
        exact ⟨(at1 - t2).toNat, by omega, rfl, t2, _, by omega, by omega, rfl, by simp only [f0, go_sem, Nat.reduceEqDiff, Nat.reduceAdd, Nat.reduceLeDiff, Int.reduceEq, Int.reduceLT, Int.reduceLE, Int.reduceAdd, Int.reduceSub, Int.reduceMul, Int.reduceNeg, Int.reduceToNat, Nat.reduceMul], by simp only [f1, go_sem, Nat.reduceEqDiff, Nat.reduceAdd, Nat.reduceLeDiff, Int.reduceEq, Int.reduceLT, Int.reduceLE, Int.reduceAdd, Int.reduceSub, Int.reduceMul, Int.reduceNeg, Int.reduceToNat, Nat.reduceMul], by simp only [go_sem, Nat.reduceEqDiff, Nat.reduceAdd, Nat.reduceLeDiff, Int.reduceEq, Int.reduceLT, Int.reduceLE, Int.reduceAdd, Int.reduceSub, Int.reduceMul, Int.reduceNeg, Int.reduceToNat, Nat.reduceMul] <;> rfl, by simp only [go_sem, Nat.reduceEqDiff, Nat.reduceAdd, Nat.reduceLeDiff, Int.reduceEq, Int.reduceLT, Int.reduceLE, Int.reduceAdd, Int.reduceSub, Int.reduceMul, Int.reduceNeg, Int.reduceToNat, Nat.reduceMul], by rw [hp, hseg]; split <;> split <;> omega⟩
  · have hte : t = at1 := by omega
    subst hte
    rw [← hlv', holdB] at hQ
    by_cases n1 : rate l t = -1
    · rw [if_pos n1] at hQ
      simp only [f0, f1, f5, f6, nilV, hbk, buck, hlt, ↓hv2.run, n1, go_sem, Nat.reduceEqDiff, Nat.reduceAdd, Nat.reduceLeDiff, Int.reduceEq, Int.reduceLT, Int.reduceLE, Int.reduceAdd, Int.reduceSub, Int.reduceMul, Int.reduceNeg, Int.reduceToNat, Nat.reduceMul]
      exact hQ
    · rw [if_neg n1] at hQ
      simp only [f0, f1, f5, f6, nilV, hbk, buck, hlt, ↓hv2.run, n1, go_sem, Nat.reduceEqDiff, Nat.reduceAdd, Nat.reduceLeDiff, Int.reduceEq, Int.reduceLT, Int.reduceLE, Int.reduceAdd, Int.reduceSub, Int.reduceMul, Int.reduceNeg, Int.reduceToNat, Nat.reduceMul]
      exact hQ
end Go.Proofs.Ytidpkoaomfbljaa.AM
