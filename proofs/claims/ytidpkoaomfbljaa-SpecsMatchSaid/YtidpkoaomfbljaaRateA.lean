import Derived.Test.YtidpkoaomfbljaaHaulC
import Derived.Test.YtidpkoaomfbljaaRateT
import Derived.Test.YtidpkoaomfbljaaAmX
namespace Go.Proofs.Ytidpkoaomfbljaa.AM
open Go
set_option linter.all false
variable {tbl : Tbl} [hT : TMono tbl]

theorem Sl.keep {H H' : AH} {es n : Nat} {v : Value} {l : List Value} (h : Sl H es v n l) (hk : ∀ id, id < H.next → H'.get id = H.get id) : Sl H' es v n l := by
  rcases h with h | ⟨a, c, h1, h2⟩
  · exact .inl h
  · refine .inr ⟨a, c, h1, ?_⟩
    rw [ldc_eq, hk _ (ldc_lt h2), ← ldc_eq]
    exact h2
/-- New blocks alone. -/
structure Junk (H H' : AH) : Prop where
  old : ∀ id, id < H.next → H'.get id = H.get id
  nx : H.next ≤ H'.next
  low : H.next ≤ H'.low
theorem Junk.enter (H : AH) : Junk H H.enter := ⟨fun _ _ => rfl, Nat.le_refl _, Nat.le_refl _⟩
theorem Junk.elem {H H' : AH} (h : Junk H H') (b c : Blk) : Junk H ((H'.push b).set H'.next (some c)) := by
  have := h.nx
  have := h.low
  exact ⟨fun id hid => by rw [AH.get_set_ne _ _ (by omega), AH.get_push_lt _ _ (by omega)]; exact h.old id hid, by rw [AH.next_set, AH.next_push]; omega, by rw [lw_set, lw_push]; omega⟩
theorem ldcB_two {ob : Option Blk} {off : Nat} {x y : Value} (h : ldcB ob off 2 = some [x, y]) : ldcB ob off 1 = some [x] ∧ ldcB ob (off + 1) 1 = some [y] := by
  cases ob with
  | none => simp [ldcB] at h
  | some b =>
    rw [ldcB_some] at h
    split at h
    · rename_i hle
      simp only [Option.some.injEq] at h
      have h1 : off < b.cells.length := by omega
      have h2 : off + 1 < b.cells.length := by omega
      rw [List.drop_eq_getElem_cons h1, List.drop_eq_getElem_cons h2] at h
      simp only [List.take_succ_cons, List.take_zero, List.cons.injEq, and_true] at h
      obtain ⟨e1, e2⟩ := h
      rw [ldcB_some, ldcB_some, if_pos (by omega), if_pos (by omega), take_one h1, take_one h2, e1, e2]
      exact ⟨rfl, rfl⟩
    · simp at h
def rBad (x y : Int) : Prop := x < 0 ∨ 86399 < x ∨ y < -1 ∨ 1000000000 < y
instance (x y : Int) : Decidable (rBad x y) := inferInstanceAs (Decidable (_ ∨ _))
def rLoop : Option Int → List (Int × Int) → Int
  | _, [] => 0
  | none, p :: r => if rBad p.1 p.2 then 7 else if p.1 ≠ 0 then 10 else rLoop (some p.1) r
  | some q, p :: r => if rBad p.1 p.2 then 7 else if p.1 ≤ q then 10 else rLoop (some p.1) r
def ratesErr (l : List (Int × Int)) : Int := if l.length = 0 then 21 else if 24 < l.length then 8 else rLoop none l
def prevR (l : List (Int × Int)) : Nat → Option Int
  | 0 => none
  | i + 1 => (l[i]?).map (·.1)
theorem vrates {n : FuncId} (h24 : tbl n = some (.code ⟨k24, [.tmp 2]⟩)) {H : AH} {v : Value} {l : List (Int × Int)} (hs : Sl H 2 v l.length (cells2 l)) : Val tbl n [v] H (.int .i64 (ratesErr l)) H := by
  refine Val.of_all fun Q hQ => ?_
  obtain ⟨ad, cp, hv⟩ := hs.shape
  subst hv
  rw [rn_fun h24, k24]
  simp only [go_sem, Nat.reduceEqDiff, Nat.reduceAdd, Nat.reduceLeDiff, Int.reduceEq, Int.reduceLT, Int.reduceLE, Int.reduceAdd, Int.reduceSub, Int.reduceMul, Int.reduceNeg, Int.reduceToNat, Nat.reduceMul]
  refine iteP_intro ?_ ?_ <;> intro h0
  · simp only [go_sem, Nat.reduceEqDiff, Nat.reduceAdd, Nat.reduceLeDiff, Int.reduceEq, Int.reduceLT, Int.reduceLE, Int.reduceAdd, Int.reduceSub, Int.reduceMul, Int.reduceNeg, Int.reduceToNat, Nat.reduceMul]
    have : l.length = 0 := by omega
    rw [ratesErr, if_pos this] at hQ
    exact hQ
  · simp only [go_sem, Nat.reduceEqDiff, Nat.reduceAdd, Nat.reduceLeDiff, Int.reduceEq, Int.reduceLT, Int.reduceLE, Int.reduceAdd, Int.reduceSub, Int.reduceMul, Int.reduceNeg, Int.reduceToNat, Nat.reduceMul]
    refine iteP_intro ?_ ?_ <;> intro h1
    · simp only [go_sem, Nat.reduceEqDiff, Nat.reduceAdd, Nat.reduceLeDiff, Int.reduceEq, Int.reduceLT, Int.reduceLE, Int.reduceAdd, Int.reduceSub, Int.reduceMul, Int.reduceNeg, Int.reduceToNat, Nat.reduceMul]
      rw [ratesErr, if_neg (by omega), if_pos (by omega)] at hQ
      exact hQ
    · simp only [go_sem, Nat.reduceEqDiff, Nat.reduceAdd, Nat.reduceLeDiff, Int.reduceEq, Int.reduceLT, Int.reduceLE, Int.reduceAdd, Int.reduceSub, Int.reduceMul, Int.reduceNeg, Int.reduceToNat, Nat.reduceMul]
      rw [ratesErr, if_neg (by omega), if_neg (by omega)] at hQ
      refine rn_loop (fun m f H' => ∃ (i : Nat), i ≤ l.length ∧ m = l.length - i ∧ f 0 = .slice ad l.length cp ∧ f 11 = .slice ad l.length cp ∧ f 12 = .int .i64 l.length ∧ f 13 = .int .i64 i ∧ Junk H H' ∧ rLoop (prevR l i) (l.drop i) = rLoop none l) ?_ (n := l.length)
        ⟨0, by omega, by omega, by simp only [go_sem, Nat.reduceEqDiff, Nat.reduceAdd, Nat.reduceLeDiff, Int.reduceEq, Int.reduceLT, Int.reduceLE, Int.reduceAdd, Int.reduceSub, Int.reduceMul, Int.reduceNeg, Int.reduceToNat, Nat.reduceMul], by simp only [go_sem, Nat.reduceEqDiff, Nat.reduceAdd, Nat.reduceLeDiff, Int.reduceEq, Int.reduceLT, Int.reduceLE, Int.reduceAdd, Int.reduceSub, Int.reduceMul, Int.reduceNeg, Int.reduceToNat, Nat.reduceMul], by simp only [go_sem, Nat.reduceEqDiff, Nat.reduceAdd, Nat.reduceLeDiff, Int.reduceEq, Int.reduceLT, Int.reduceLE, Int.reduceAdd, Int.reduceSub, Int.reduceMul, Int.reduceNeg, Int.reduceToNat, Nat.reduceMul], by simp only [go_sem, Nat.reduceEqDiff, Nat.reduceAdd, Nat.reduceLeDiff, Int.reduceEq, Int.reduceLT, Int.reduceLE, Int.reduceAdd, Int.reduceSub, Int.reduceMul, Int.reduceNeg, Int.reduceToNat, Nat.reduceMul] <;> rfl, .enter H, rfl⟩
      rintro m f H' ⟨i, hi, rfl, f0, f11, f12, f13, st, hr⟩
      simp only [f0, f11, f12, f13, go_sem, Nat.reduceEqDiff, Nat.reduceAdd, Nat.reduceLeDiff, Int.reduceEq, Int.reduceLT, Int.reduceLE, Int.reduceAdd, Int.reduceSub, Int.reduceMul, Int.reduceNeg, Int.reduceToNat, Nat.reduceMul]
      refine iteP_intro ?_ ?_ <;> intro hlt
      · simp only [f0, f11, f12, f13, go_sem, Nat.reduceEqDiff, Nat.reduceAdd, Nat.reduceLeDiff, Int.reduceEq, Int.reduceLT, Int.reduceLE, Int.reduceAdd, Int.reduceSub, Int.reduceMul, Int.reduceNeg, Int.reduceToNat, Nat.reduceMul]
        have hi : i < l.length := by omega
        refine (hs.keep st.old).at_ hi fun q hq1 hq2 => ?_
        rw [cells2_at _ _ hi] at hq2
        have hlt2 : H'.next < H'.next + 1 := by omega
        rw [List.drop_eq_getElem_cons hi] at hr
        simp only [f0, f11, f12, f13, hq2, stc_eq, stB_some, hlt2, go_sem, Nat.reduceEqDiff, Nat.reduceAdd, Nat.reduceLeDiff, Int.reduceEq, Int.reduceLT, Int.reduceLE, Int.reduceAdd, Int.reduceSub, Int.reduceMul, Int.reduceNeg, Int.reduceToNat, Nat.reduceMul]
        have st2 := st.elem ⟨[.int .i64 0, .int .i64 0], 1, false⟩ ⟨[.int .i64 l[i].1, .int .i64 l[i].2], 1, false⟩
        have g2 : ((H'.push ⟨[.int .i64 0, .int .i64 0], 1, false⟩).set H'.next (some ⟨[.int .i64 l[i].1, .int .i64 l[i].2], 1, false⟩)).get H'.next = some ⟨[.int .i64 l[i].1, .int .i64 l[i].2], 1, false⟩ := AH.get_set_eq _ _ (by rw [AH.next_push]; omega)
        generalize (H'.push ⟨[.int .i64 0, .int .i64 0], 1, false⟩).set H'.next (some ⟨[.int .i64 l[i].1, .int .i64 l[i].2], 1, false⟩) = H2 at st2 g2 ⊢
        have hlow2 := st2.low
        have hnl : ¬ H2.low < H.next := by omega
        have w1 := w64 (x := (i : Int) - 1) (by omega) (by omega)
        have w2 := w64 (x := (i : Int) + 1) (by omega) (by omega)
        by_cases hA : l[i].1 < 0
        · have hb : rBad l[i].1 l[i].2 := .inl hA
          have hr7 : rLoop none l = 7 := by
            rw [← hr]; cases prevR l i <;> simp only [rLoop, if_pos hb]
          rw [hr7] at hQ
          simp only [f0, f11, f12, f13, g2, hnl, hA, go_sem, Nat.reduceEqDiff, Nat.reduceAdd, Nat.reduceLeDiff, Int.reduceEq, Int.reduceLT, Int.reduceLE, Int.reduceAdd, Int.reduceSub, Int.reduceMul, Int.reduceNeg, Int.reduceToNat, Nat.reduceMul]
          exact hQ
        by_cases hB : 86399 < l[i].1
        · have hb : rBad l[i].1 l[i].2 := .inr (.inl hB)
          have hr7 : rLoop none l = 7 := by
            rw [← hr]; cases prevR l i <;> simp only [rLoop, if_pos hb]
          rw [hr7] at hQ
          simp only [f0, f11, f12, f13, g2, hnl, hA, hB, go_sem, Nat.reduceEqDiff, Nat.reduceAdd, Nat.reduceLeDiff, Int.reduceEq, Int.reduceLT, Int.reduceLE, Int.reduceAdd, Int.reduceSub, Int.reduceMul, Int.reduceNeg, Int.reduceToNat, Nat.reduceMul]
          exact hQ
        by_cases hC : l[i].2 < -1
        · have hb : rBad l[i].1 l[i].2 := .inr (.inr (.inl hC))
          have hr7 : rLoop none l = 7 := by
            rw [← hr]; cases prevR l i <;> simp only [rLoop, if_pos hb]
          rw [hr7] at hQ
          simp only [f0, f11, f12, f13, g2, hnl, hA, hB, hC, go_sem, Nat.reduceEqDiff, Nat.reduceAdd, Nat.reduceLeDiff, Int.reduceEq, Int.reduceLT, Int.reduceLE, Int.reduceAdd, Int.reduceSub, Int.reduceMul, Int.reduceNeg, Int.reduceToNat, Nat.reduceMul]
          exact hQ
        by_cases hD : 1000000000 < l[i].2
        · have hb : rBad l[i].1 l[i].2 := .inr (.inr (.inr hD))
          have hr7 : rLoop none l = 7 := by
            rw [← hr]; cases prevR l i <;> simp only [rLoop, if_pos hb]
          rw [hr7] at hQ
          simp only [f0, f11, f12, f13, g2, hnl, hA, hB, hC, hD, go_sem, Nat.reduceEqDiff, Nat.reduceAdd, Nat.reduceLeDiff, Int.reduceEq, Int.reduceLT, Int.reduceLE, Int.reduceAdd, Int.reduceSub, Int.reduceMul, Int.reduceNeg, Int.reduceToNat, Nat.reduceMul]
          exact hQ
        have hb : ¬ rBad l[i].1 l[i].2 := by unfold rBad; omega
        by_cases hz : i = 0
        · subst hz
          simp only [prevR, rLoop, if_neg hb] at hr
          by_cases hE : l[0].1 = 0
          · rw [if_neg (by omega)] at hr
            have hp : prevR l (0 + 1) = some l[0].1 := by simp [prevR, List.getElem?_eq_getElem hi]
            have n0 : ¬ (0 : Int) < 0 := by omega
            simp only [f0, f11, f12, f13, g2, hnl, hA, hB, hC, hD, hE, w2, n0, go_sem, Nat.reduceEqDiff, Nat.reduceAdd, Nat.reduceLeDiff, Int.reduceEq, Int.reduceLT, Int.reduceLE, Int.reduceAdd, Int.reduceSub, Int.reduceMul, Int.reduceNeg, Int.reduceToNat, Nat.reduceMul]
            exact ⟨l.length - (0 + 1), by omega, 0 + 1, by omega, rfl, by simp only [f0, go_sem, Nat.reduceEqDiff, Nat.reduceAdd, Nat.reduceLeDiff, Int.reduceEq, Int.reduceLT, Int.reduceLE, Int.reduceAdd, Int.reduceSub, Int.reduceMul, Int.reduceNeg, Int.reduceToNat, Nat.reduceMul], by simp only [f11, go_sem, Nat.reduceEqDiff, Nat.reduceAdd, Nat.reduceLeDiff, Int.reduceEq, Int.reduceLT, Int.reduceLE, Int.reduceAdd, Int.reduceSub, Int.reduceMul, Int.reduceNeg, Int.reduceToNat, Nat.reduceMul], by simp only [f12, go_sem, Nat.reduceEqDiff, Nat.reduceAdd, Nat.reduceLeDiff, Int.reduceEq, Int.reduceLT, Int.reduceLE, Int.reduceAdd, Int.reduceSub, Int.reduceMul, Int.reduceNeg, Int.reduceToNat, Nat.reduceMul], by simp only [go_sem, Nat.reduceEqDiff, Nat.reduceAdd, Nat.reduceLeDiff, Int.reduceEq, Int.reduceLT, Int.reduceLE, Int.reduceAdd, Int.reduceSub, Int.reduceMul, Int.reduceNeg, Int.reduceToNat, Nat.reduceMul] <;> rfl, st2, by rw [hp]; exact hr⟩
          · rw [if_pos hE] at hr
            rw [← hr] at hQ
            simp only [f0, f11, f12, f13, g2, hnl, hA, hB, hC, hD, hE, go_sem, Nat.reduceEqDiff, Nat.reduceAdd, Nat.reduceLeDiff, Int.reduceEq, Int.reduceLT, Int.reduceLE, Int.reduceAdd, Int.reduceSub, Int.reduceMul, Int.reduceNeg, Int.reduceToNat, Nat.reduceMul]
            exact hQ
        · obtain ⟨k, hk⟩ : ∃ k, i = k + 1 := ⟨i - 1, by omega⟩
          have hkl : k < l.length := by omega
          have e1 : (i : Int) - 1 = (k : Int) := by omega
          have p1 : prevR l i = some l[k].1 := by rw [hk]; simp [prevR, List.getElem?_eq_getElem hkl]
          have hp : prevR l (i + 1) = some l[i].1 := by simp [prevR, List.getElem?_eq_getElem hi]
          rw [p1] at hr
          simp only [rLoop, if_neg hb] at hr
          have n1 : ¬ (i : Int) = 0 := by omega
          have n2 : (0 : Int) < (i : Int) := by omega
          rw [e1] at w1
          simp only [f0, f11, f12, f13, g2, hnl, hA, hB, hC, hD, n1, n2, e1, w1, w2, go_sem, Nat.reduceEqDiff, Nat.reduceAdd, Nat.reduceLeDiff, Int.reduceEq, Int.reduceLT, Int.reduceLE, Int.reduceAdd, Int.reduceSub, Int.reduceMul, Int.reduceNeg, Int.reduceToNat, Nat.reduceMul]
          refine (hs.keep st2.old).at_ hkl fun q2 hq3 hq4 => ?_
          rw [cells2_at _ _ hkl] at hq4
          obtain ⟨hq5, _⟩ := ldcB_two hq4
          simp only [f0, f11, f12, f13, g2, hnl, hq5, addA, Nat.add_zero, w2, go_sem, Nat.reduceEqDiff, Nat.reduceAdd, Nat.reduceLeDiff, Int.reduceEq, Int.reduceLT, Int.reduceLE, Int.reduceAdd, Int.reduceSub, Int.reduceMul, Int.reduceNeg, Int.reduceToNat, Nat.reduceMul]
          refine iteP_intro ?_ ?_ <;> intro hE
          · rw [if_pos hE] at hr
            rw [← hr] at hQ
            simp only [f0, f11, f12, f13, g2, hnl, hq5, w2, go_sem, Nat.reduceEqDiff, Nat.reduceAdd, Nat.reduceLeDiff, Int.reduceEq, Int.reduceLT, Int.reduceLE, Int.reduceAdd, Int.reduceSub, Int.reduceMul, Int.reduceNeg, Int.reduceToNat, Nat.reduceMul]
            exact hQ
          · rw [if_neg hE] at hr
            simp only [f0, f11, f12, f13, g2, hnl, hq5, w2, go_sem, Nat.reduceEqDiff, Nat.reduceAdd, Nat.reduceLeDiff, Int.reduceEq, Int.reduceLT, Int.reduceLE, Int.reduceAdd, Int.reduceSub, Int.reduceMul, Int.reduceNeg, Int.reduceToNat, Nat.reduceMul]
            exact ⟨l.length - (i + 1), by omega, i + 1, by omega, rfl, by simp only [f0, go_sem, Nat.reduceEqDiff, Nat.reduceAdd, Nat.reduceLeDiff, Int.reduceEq, Int.reduceLT, Int.reduceLE, Int.reduceAdd, Int.reduceSub, Int.reduceMul, Int.reduceNeg, Int.reduceToNat, Nat.reduceMul], by simp only [f11, go_sem, Nat.reduceEqDiff, Nat.reduceAdd, Nat.reduceLeDiff, Int.reduceEq, Int.reduceLT, Int.reduceLE, Int.reduceAdd, Int.reduceSub, Int.reduceMul, Int.reduceNeg, Int.reduceToNat, Nat.reduceMul], by simp only [f12, go_sem, Nat.reduceEqDiff, Nat.reduceAdd, Nat.reduceLeDiff, Int.reduceEq, Int.reduceLT, Int.reduceLE, Int.reduceAdd, Int.reduceSub, Int.reduceMul, Int.reduceNeg, Int.reduceToNat, Nat.reduceMul], by simp only [go_sem, Nat.reduceEqDiff, Nat.reduceAdd, Nat.reduceLeDiff, Int.reduceEq, Int.reduceLT, Int.reduceLE, Int.reduceAdd, Int.reduceSub, Int.reduceMul, Int.reduceNeg, Int.reduceToNat, Nat.reduceMul] <;> rfl, st2, by rw [hp]; exact hr⟩
      · have hi : i = l.length := by omega
        subst hi
        rw [List.drop_length] at hr
        have hr0 : rLoop none l = 0 := by
          rw [← hr]; cases prevR l l.length <;> rfl
        rw [hr0] at hQ
        have hnl : ¬ H'.low < H.next := by have := st.low; omega
        simp only [f0, f11, f12, f13, hnl, go_sem, Nat.reduceEqDiff, Nat.reduceAdd, Nat.reduceLeDiff, Int.reduceEq, Int.reduceLT, Int.reduceLE, Int.reduceAdd, Int.reduceSub, Int.reduceMul, Int.reduceNeg, Int.reduceToNat, Nat.reduceMul]
        exact hQ
end Go.Proofs.Ytidpkoaomfbljaa.AM
