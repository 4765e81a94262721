import Derived.Test.YtidpkoaomfbljaaRateG
import Derived.Test.YtidpkoaomfbljaaBuckT
namespace Go.Proofs.Ytidpkoaomfbljaa.AM
open Go
set_option linter.all false
variable {tbl : Tbl} [hT : TMono tbl]

/-- A bucket: its rates lie in block kb. -/
def buck (kb n : Nat) (most level at_ : Int) (never : Bool) : Blk := ⟨[.slice (some ⟨kb, 0, none⟩) n n, .int .i64 most, .int .i64 level, .int .i64 at_, .bool never], 1, false⟩
/-- All rates are 0. -/
def allZero (l : List (Int × Int)) : Bool := l.all fun p => decide (p.2 = 0)
structure BSt (H H' : AH) (k kb : Nat) (l : List (Int × Int)) (most level at_ : Int) (never : Bool) : Prop where
  old : ∀ id, id < H.next → H'.get id = H.get id
  nx : H.next ≤ H'.next
  low : H.next ≤ H'.low ∨ H'.low = H.low
  bk : H'.get k = some (buck kb l.length most level at_ never)
  rt : H'.get kb = some ⟨cells2 l, 2, false⟩
  hk : H.next ≤ k ∧ H.next ≤ kb ∧ k ≠ kb
theorem BSt.turn {H H' : AH} {k kb : Nat} {l : List (Int × Int)} {m lv a : Int} {g : Bool} (st : BSt H H' k kb l m lv a g) (hlow : H.next ≤ H'.low) (lv' a' : Int) (g' : Bool) : BSt H (H'.set k (some (buck kb l.length m lv' a' g'))) k kb l m lv' a' g' ∧ H.next ≤ (H'.set k (some (buck kb l.length m lv' a' g'))).low := by
  obtain ⟨h1, h2, h3⟩ := st.hk
  have hk := AH.get_lt st.bk
  have hlw : H.next ≤ (H'.set k (some (buck kb l.length m lv' a' g'))).low := by rw [lw_set]; omega
  exact ⟨⟨fun id hid => by rw [AH.get_set_ne _ _ (by omega)]; exact st.old id hid, by rw [AH.next_set]; exact st.nx, .inl hlw, AH.get_set_eq _ _ hk, by rw [AH.get_set_ne _ _ (Ne.symm h3)]; exact st.rt, st.hk⟩, hlw⟩
theorem added_sl {H : AH} {v : Value} {l : List (Int × Int)} (hs : Sl H 2 v l.length (cells2 l)) (hne : l ≠ []) : added H 2 v = some (l.length, cells2 l) := by
  rcases hs with ⟨a, c, rfl, h1, h2⟩ | ⟨a, c, rfl, h⟩
  · exact absurd (List.eq_nil_of_length_eq_zero h1) hne
  · rw [added_slc, h]; rfl
theorem appended_new {H : AH} {es bytes k : Nat} {new : List Value} (hk : 0 < k) (hb : k * bytes ≤ 140737488355328) : appended H es bytes (.slice none 0 0) k new = some (.slice (some ⟨H.next, 0, none⟩) k k, H.push ⟨new, es, false⟩) := by
  simp only [appended]
  rw [if_pos (by simp), if_neg (by omega), if_pos hb]
theorem back_keep {H H1 : AH} {k kb n : Nat} {a b c : Int} {g : Bool} {y : Value} (hk : H1.get k = some (buck kb n a b c g)) (hge : H.next ≤ k) (hl : H.next ≤ H1.low) : back H H1 (.tuple #[.pointer (some ⟨k, 0, none⟩), y]) = (.tuple #[.pointer (some ⟨k, 0, none⟩), y], { H1 with low := H.low }) := by
  unfold back
  rw [if_neg (by omega), if_neg (by simp [p3, p2, p1])]
  simp only [moveV, hk]
  rw [if_neg (by omega), if_neg (by simp [buck, p1])]
section
variable (h24 : tbl 24 = some (.code m24)) (h51 : tbl 51 = some (.code m51)) (h28 : tbl 28 = some (.code m28))
include h24 h51 h28
theorem v28_bad {H : AH} {v : Value} {l : List (Int × Int)} (hs : Sl H 2 v l.length (cells2 l)) (burst : Int) (h0 : ¬ (ratesErr l = 0 ∧ (1 ≤ burst ∧ burst ≤ 1000000000))) :
    Val tbl 28 [v, .int .i64 burst] H (.tuple #[.pointer none, .int .i64 (if ratesErr l ≠ 0 then ratesErr l else 7)]) H := by
  refine Val.of_all fun Q hQ => ?_
  rw [rn_fun h28, k28]
  have hs' : Sl H.enter 2 v l.length (cells2 l) := hs
  have hv := v51 h24 h51 hs' burst
  by_cases e0 : ratesErr l = 0
  · rw [if_neg (by omega)] at hv hQ
    rw [if_neg (fun h => h0 ⟨e0, h⟩)] at hv
    simp only [↓hv.run, go_sem, Nat.reduceEqDiff, Nat.reduceAdd, Nat.reduceLeDiff, Int.reduceEq, Int.reduceLT, Int.reduceLE, Int.reduceAdd, Int.reduceSub, Int.reduceMul, Int.reduceNeg, Int.reduceToNat, Nat.reduceMul]
    exact hQ
  · rw [if_pos e0] at hv hQ
    simp only [↓hv.run, e0, go_sem, Nat.reduceEqDiff, Nat.reduceAdd, Nat.reduceLeDiff, Int.reduceEq, Int.reduceLT, Int.reduceLE, Int.reduceAdd, Int.reduceSub, Int.reduceMul, Int.reduceNeg, Int.reduceToNat, Nat.reduceMul]
    exact hQ
theorem v28_ok {H : AH} {v : Value} {l : List (Int × Int)} (hs : Sl H 2 v l.length (cells2 l)) (burst : Int) (h0 : ratesErr l = 0) (hb : 1 ≤ burst ∧ burst ≤ 1000000000) :
    ∃ H1, Val tbl 28 [v, .int .i64 burst] H (.tuple #[.pointer (some ⟨H.next + 1, 0, none⟩), .int .i64 0]) H1 ∧ BSt H H1 (H.next + 1) H.next l (burst * 1000) (burst * 1000) 0 (allZero l) ∧ H1.low = H.low := by
  have hl := right_of h0
  have hne : l ≠ [] := fun e => by rw [e] at h0; simp [ratesErr] at h0
  have hpos : 0 < l.length := List.length_pos_iff.2 hne
  have hlen := hl.len
  suffices hrun : @RunF tbl 28 [v, .int .i64 burst] H ⟨fun r H1 => r = .tuple #[.pointer (some ⟨H.next + 1, 0, none⟩), .int .i64 0] ∧ BSt H H1 (H.next + 1) H.next l (burst * 1000) (burst * 1000) 0 (allZero l) ∧ H1.low = H.low⟩ by
    obtain ⟨k, r, H1, h1, rfl, h2⟩ := hrun
    exact ⟨H1, ⟨k, h1⟩, h2⟩
  obtain ⟨Q, hQ⟩ : ∃ Q : Value → AH → Prop, Q = fun r H1 => r = .tuple #[.pointer (some ⟨H.next + 1, 0, none⟩), .int .i64 0] ∧ BSt H H1 (H.next + 1) H.next l (burst * 1000) (burst * 1000) 0 (allZero l) ∧ H1.low = H.low := ⟨_, rfl⟩
  rw [← hQ]
  rw [rn_fun h28, k28]
  have hs' : Sl H.enter 2 v l.length (cells2 l) := hs
  have hv := v51 h24 h51 hs' burst
  rw [if_neg (by omega), if_pos hb] at hv
  have w1 := w64 (x := burst * 1000) (by omega) (by omega)
  have ha := added_sl hs' hne
  have happ := appended_new (H := H.enter) (es := 2) (bytes := 16) (k := l.length) (new := cells2 l) hpos (by omega)
  obtain ⟨ad, cp, hv'⟩ := hs.shape
  subst hv'
  simp only [↓hv.run, ha, happ, w1, go_sem, Nat.reduceEqDiff, Nat.reduceAdd, Nat.reduceLeDiff, Int.reduceEq, Int.reduceLT, Int.reduceLE, Int.reduceAdd, Int.reduceSub, Int.reduceMul, Int.reduceNeg, Int.reduceToNat, Nat.reduceMul]
  refine rn_loop (fun m f H' => ∃ (i : Nat), i ≤ l.length ∧ m = l.length - i ∧ f 7 = .pointer (some ⟨H.next + 1, 0, none⟩) ∧ f 24 = .slice ad l.length cp ∧ f 25 = .int .i64 l.length ∧ f 26 = .int .i64 i ∧ H.next + 2 ≤ H'.next ∧ BSt H H' (H.next + 1) H.next l (burst * 1000) (burst * 1000) 0 (allZero (l.take i)) ∧ H.next ≤ H'.low) ?_ (n := l.length)
    ⟨0, by omega, by omega, by simp only [go_sem, Nat.reduceEqDiff, Nat.reduceAdd, Nat.reduceLeDiff, Int.reduceEq, Int.reduceLT, Int.reduceLE, Int.reduceAdd, Int.reduceSub, Int.reduceMul, Int.reduceNeg, Int.reduceToNat, Nat.reduceMul], by simp only [go_sem, Nat.reduceEqDiff, Nat.reduceAdd, Nat.reduceLeDiff, Int.reduceEq, Int.reduceLT, Int.reduceLE, Int.reduceAdd, Int.reduceSub, Int.reduceMul, Int.reduceNeg, Int.reduceToNat, Nat.reduceMul], by simp only [go_sem, Nat.reduceEqDiff, Nat.reduceAdd, Nat.reduceLeDiff, Int.reduceEq, Int.reduceLT, Int.reduceLE, Int.reduceAdd, Int.reduceSub, Int.reduceMul, Int.reduceNeg, Int.reduceToNat, Nat.reduceMul], by simp only [go_sem, Nat.reduceEqDiff, Nat.reduceAdd, Nat.reduceLeDiff, Int.reduceEq, Int.reduceLT, Int.reduceLE, Int.reduceAdd, Int.reduceSub, Int.reduceMul, Int.reduceNeg, Int.reduceToNat, Nat.reduceMul] <;> rfl, by simp only [go_sem, Nat.reduceEqDiff, Nat.reduceAdd, Nat.reduceLeDiff, Int.reduceEq, Int.reduceLT, Int.reduceLE, Int.reduceAdd, Int.reduceSub, Int.reduceMul, Int.reduceNeg, Int.reduceToNat, Nat.reduceMul]; omega, ⟨?_, ?_, ?_, ?_, ?_, by omega⟩, ?_⟩
  · rintro m f H' ⟨i, hi, rfl, f7, f24, f25, f26, hnx, st, hlow⟩
    simp only [f7, f24, f25, f26, go_sem, Nat.reduceEqDiff, Nat.reduceAdd, Nat.reduceLeDiff, Int.reduceEq, Int.reduceLT, Int.reduceLE, Int.reduceAdd, Int.reduceSub, Int.reduceMul, Int.reduceNeg, Int.reduceToNat, Nat.reduceMul]
    refine iteP_intro ?_ ?_ <;> intro hlt
    · simp only [f7, f24, f25, f26, go_sem, Nat.reduceEqDiff, Nat.reduceAdd, Nat.reduceLeDiff, Int.reduceEq, Int.reduceLT, Int.reduceLE, Int.reduceAdd, Int.reduceSub, Int.reduceMul, Int.reduceNeg, Int.reduceToNat, Nat.reduceMul]
      have hi : i < l.length := by omega
      refine (hs.keep st.old).at_ hi fun q hq1 hq2 => ?_
      rw [cells2_at _ _ hi] at hq2
      have hlt2 : H'.next < H'.next + 1 := by omega
      simp only [f7, f24, f25, f26, hq2, stc_eq, stB_some, hlt2, go_sem, Nat.reduceEqDiff, Nat.reduceAdd, Nat.reduceLeDiff, Int.reduceEq, Int.reduceLT, Int.reduceLE, Int.reduceAdd, Int.reduceSub, Int.reduceMul, Int.reduceNeg, Int.reduceToNat, Nat.reduceMul]
      have st2 : BSt H ((H'.push ⟨[.int .i64 0, .int .i64 0], 1, false⟩).set H'.next (some ⟨[.int .i64 l[i].1, .int .i64 l[i].2], 1, false⟩)) (H.next + 1) H.next l (burst * 1000) (burst * 1000) 0 (allZero (l.take i)) ∧ H.next ≤ ((H'.push ⟨[.int .i64 0, .int .i64 0], 1, false⟩).set H'.next (some ⟨[.int .i64 l[i].1, .int .i64 l[i].2], 1, false⟩)).low ∧ H.next + 2 ≤ ((H'.push ⟨[.int .i64 0, .int .i64 0], 1, false⟩).set H'.next (some ⟨[.int .i64 l[i].1, .int .i64 l[i].2], 1, false⟩)).next := by
        have hg : ∀ id, id < H'.next → ((H'.push ⟨[.int .i64 0, .int .i64 0], 1, false⟩).set H'.next (some ⟨[.int .i64 l[i].1, .int .i64 l[i].2], 1, false⟩)).get id = H'.get id := fun id hid => by
          rw [AH.get_set_ne _ _ (by omega), AH.get_push_lt _ _ hid]
        have hlw : H.next ≤ ((H'.push ⟨[.int .i64 0, .int .i64 0], 1, false⟩).set H'.next (some ⟨[.int .i64 l[i].1, .int .i64 l[i].2], 1, false⟩)).low := by rw [lw_set, lw_push]; omega
        refine ⟨⟨fun id hid => by rw [hg _ (by omega)]; exact st.old id hid, by rw [AH.next_set, AH.next_push]; omega, .inl hlw, by rw [hg _ (by omega)]; exact st.bk, by rw [hg _ (by omega)]; exact st.rt, st.hk⟩, hlw, by rw [AH.next_set, AH.next_push]; omega⟩
      have g2 : ((H'.push ⟨[.int .i64 0, .int .i64 0], 1, false⟩).set H'.next (some ⟨[.int .i64 l[i].1, .int .i64 l[i].2], 1, false⟩)).get H'.next = some ⟨[.int .i64 l[i].1, .int .i64 l[i].2], 1, false⟩ := AH.get_set_eq _ _ (by rw [AH.next_push]; omega)
      generalize (H'.push ⟨[.int .i64 0, .int .i64 0], 1, false⟩).set H'.next (some ⟨[.int .i64 l[i].1, .int .i64 l[i].2], 1, false⟩) = H2 at st2 g2 ⊢
      obtain ⟨st2, hlow2, hnx2⟩ := st2
      have g3 := st2.bk
      have hk2 : H.next + 1 < H2.next := by omega
      have w2 := w64 (x := (i : Int) + 1) (by omega) (by omega)
      have hz : allZero (l.take (i + 1)) = (allZero (l.take i) && decide (l[i].2 = 0)) := by
        simp only [allZero]
        rw [List.take_succ_eq_append_getElem hi]
        simp only [List.all_append, List.all_cons, List.all_nil, Bool.and_true]
      cases hA : allZero (l.take i) with
      | true =>
        rw [hA] at g3 hz
        simp only [f7, f24, f25, f26, g2, g3, nilV, buck, stc_eq, stB_some, hk2, w2, go_sem, Nat.reduceEqDiff, Nat.reduceAdd, Nat.reduceLeDiff, Int.reduceEq, Int.reduceLT, Int.reduceLE, Int.reduceAdd, Int.reduceSub, Int.reduceMul, Int.reduceNeg, Int.reduceToNat, Nat.reduceMul]
        obtain ⟨st3, hlow3⟩ := st2.turn hlow2 (burst * 1000) 0 (decide (l[i].2 = 0))
        exact ⟨l.length - (i + 1), by omega, i + 1, by omega, rfl, by simp only [f7, go_sem, Nat.reduceEqDiff, Nat.reduceAdd, Nat.reduceLeDiff, Int.reduceEq, Int.reduceLT, Int.reduceLE, Int.reduceAdd, Int.reduceSub, Int.reduceMul, Int.reduceNeg, Int.reduceToNat, Nat.reduceMul], by simp only [f24, go_sem, Nat.reduceEqDiff, Nat.reduceAdd, Nat.reduceLeDiff, Int.reduceEq, Int.reduceLT, Int.reduceLE, Int.reduceAdd, Int.reduceSub, Int.reduceMul, Int.reduceNeg, Int.reduceToNat, Nat.reduceMul], by simp only [f25, go_sem, Nat.reduceEqDiff, Nat.reduceAdd, Nat.reduceLeDiff, Int.reduceEq, Int.reduceLT, Int.reduceLE, Int.reduceAdd, Int.reduceSub, Int.reduceMul, Int.reduceNeg, Int.reduceToNat, Nat.reduceMul], by simp only [go_sem, Nat.reduceEqDiff, Nat.reduceAdd, Nat.reduceLeDiff, Int.reduceEq, Int.reduceLT, Int.reduceLE, Int.reduceAdd, Int.reduceSub, Int.reduceMul, Int.reduceNeg, Int.reduceToNat, Nat.reduceMul] <;> rfl, by rw [AH.next_set]; exact hnx2, by rw [hz, Bool.true_and]; exact st3, hlow3⟩
      | false =>
        rw [hA] at g3 hz
        simp only [f7, f24, f25, f26, g2, g3, nilV, buck, stc_eq, stB_some, hk2, w2, go_sem, Nat.reduceEqDiff, Nat.reduceAdd, Nat.reduceLeDiff, Int.reduceEq, Int.reduceLT, Int.reduceLE, Int.reduceAdd, Int.reduceSub, Int.reduceMul, Int.reduceNeg, Int.reduceToNat, Nat.reduceMul]
        obtain ⟨st3, hlow3⟩ := st2.turn hlow2 (burst * 1000) 0 false
        exact ⟨l.length - (i + 1), by omega, i + 1, by omega, rfl, by simp only [f7, go_sem, Nat.reduceEqDiff, Nat.reduceAdd, Nat.reduceLeDiff, Int.reduceEq, Int.reduceLT, Int.reduceLE, Int.reduceAdd, Int.reduceSub, Int.reduceMul, Int.reduceNeg, Int.reduceToNat, Nat.reduceMul], by simp only [f24, go_sem, Nat.reduceEqDiff, Nat.reduceAdd, Nat.reduceLeDiff, Int.reduceEq, Int.reduceLT, Int.reduceLE, Int.reduceAdd, Int.reduceSub, Int.reduceMul, Int.reduceNeg, Int.reduceToNat, Nat.reduceMul], by simp only [f25, go_sem, Nat.reduceEqDiff, Nat.reduceAdd, Nat.reduceLeDiff, Int.reduceEq, Int.reduceLT, Int.reduceLE, Int.reduceAdd, Int.reduceSub, Int.reduceMul, Int.reduceNeg, Int.reduceToNat, Nat.reduceMul], by simp only [go_sem, Nat.reduceEqDiff, Nat.reduceAdd, Nat.reduceLeDiff, Int.reduceEq, Int.reduceLT, Int.reduceLE, Int.reduceAdd, Int.reduceSub, Int.reduceMul, Int.reduceNeg, Int.reduceToNat, Nat.reduceMul] <;> rfl, by rw [AH.next_set]; exact hnx2, by rw [hz, Bool.false_and]; exact st3, hlow3⟩
    · have hi : i = l.length := by omega
      subst hi
      simp only [f7, f24, f25, f26, go_sem, Nat.reduceEqDiff, Nat.reduceAdd, Nat.reduceLeDiff, Int.reduceEq, Int.reduceLT, Int.reduceLE, Int.reduceAdd, Int.reduceSub, Int.reduceMul, Int.reduceNeg, Int.reduceToNat, Nat.reduceMul]
      rw [back_keep st.bk (by omega) hlow]
      rw [hQ]
      rw [List.take_length] at st
      exact ⟨rfl, ⟨st.old, st.nx, .inr rfl, st.bk, st.rt, st.hk⟩, rfl⟩
  · intro id hid
    rw [AH.get_push_lt _ _ (by rw [AH.next_push, nx_enter]; omega), AH.get_push_lt _ _ (by rw [nx_enter]; exact hid), gt_enter]
  · simp only [go_sem, Nat.reduceEqDiff, Nat.reduceAdd, Nat.reduceLeDiff, Int.reduceEq, Int.reduceLT, Int.reduceLE, Int.reduceAdd, Int.reduceSub, Int.reduceMul, Int.reduceNeg, Int.reduceToNat, Nat.reduceMul]
    omega
  · refine .inl ?_
    simp only [go_sem, Nat.reduceEqDiff, Nat.reduceAdd, Nat.reduceLeDiff, Int.reduceEq, Int.reduceLT, Int.reduceLE, Int.reduceAdd, Int.reduceSub, Int.reduceMul, Int.reduceNeg, Int.reduceToNat, Nat.reduceMul]
    omega
  · simp only [go_sem, Nat.reduceEqDiff, Nat.reduceAdd, Nat.reduceLeDiff, Int.reduceEq, Int.reduceLT, Int.reduceLE, Int.reduceAdd, Int.reduceSub, Int.reduceMul, Int.reduceNeg, Int.reduceToNat, Nat.reduceMul]
    rfl
  · simp only [go_sem, Nat.reduceEqDiff, Nat.reduceAdd, Nat.reduceLeDiff, Int.reduceEq, Int.reduceLT, Int.reduceLE, Int.reduceAdd, Int.reduceSub, Int.reduceMul, Int.reduceNeg, Int.reduceToNat, Nat.reduceMul]
  · simp only [go_sem, Nat.reduceEqDiff, Nat.reduceAdd, Nat.reduceLeDiff, Int.reduceEq, Int.reduceLT, Int.reduceLE, Int.reduceAdd, Int.reduceSub, Int.reduceMul, Int.reduceNeg, Int.reduceToNat, Nat.reduceMul]
    omega
end
end Go.Proofs.Ytidpkoaomfbljaa.AM
