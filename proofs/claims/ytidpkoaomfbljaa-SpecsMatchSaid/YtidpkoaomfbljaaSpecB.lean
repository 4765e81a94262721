import Derived.Test.YtidpkoaomfbljaaSpecA
namespace Go.Proofs.Ytidpkoaomfbljaa.AM
open Go
set_option linter.all false
variable {tbl : Tbl} [hT : TMono tbl]

theorem v70 (h70 : tbl 70 = some (.code m70)) (n lo hi : Int) (H : AH) : Val tbl 70 [.int .i64 n, .int .i64 lo, .int .i64 hi] H (.bool (decide (lo ≤ n ∧ n ≤ hi))) H := by
  refine Val.of_all fun Q hQ => ?_
  rw [rn_fun h70, k70]
  simp only [go_sem, Nat.reduceEqDiff, Nat.reduceAdd, Nat.reduceLeDiff, Int.reduceEq, Int.reduceLT, Int.reduceLE, Int.reduceAdd, Int.reduceSub, Int.reduceMul, Int.reduceNeg, Int.reduceToNat, Nat.reduceMul]
  iterate 6 (try (all_goals (try (refine iteP_intro ?_ ?_ <;> intro _ <;> simp only [*, go_sem, Nat.reduceEqDiff, Nat.reduceAdd, Nat.reduceLeDiff, Int.reduceEq, Int.reduceLT, Int.reduceLE, Int.reduceAdd, Int.reduceSub, Int.reduceMul, Int.reduceNeg, Int.reduceToNat, Nat.reduceMul]))))
  all_goals exact leaf hQ (by simp [*]) rfl
theorem v69 (h69 : tbl 69 = some (.code m69)) (n F : Int) {H : AH} {k : Nat} {cs : List Value} (hk : H.get k = some ⟨.int .i64 F :: cs, 1, false⟩) : Val tbl 69 [.int .i64 n, .pointer (some ⟨k, 0, none⟩)] H (.bool (!decide (bitsK .and .i64 F n = 0))) H := by
  refine Val.of_all fun Q hQ => ?_
  rw [rn_fun h69, k69]
  have h1 : 1 ≤ cs.length + 1 := by omega
  simp only [hk, h1, go_sem, Nat.reduceEqDiff, Nat.reduceAdd, Nat.reduceLeDiff, Int.reduceEq, Int.reduceLT, Int.reduceLE, Int.reduceAdd, Int.reduceSub, Int.reduceMul, Int.reduceNeg, Int.reduceToNat, Nat.reduceMul]
  exact hQ
theorem v71 (h71 : tbl 71 = some (.code m71)) (H : AH) : Val tbl 71 [.string ⟨#[]⟩] H (.bool true) H := by
  refine Val.of_all fun Q hQ => ?_
  rw [rn_fun h71, k71]
  have e0 : ByteArray.size ⟨#[]⟩ = 0 := rfl
  simp only [e0, go_sem, Nat.reduceEqDiff, Nat.reduceAdd, Nat.reduceLeDiff, Int.reduceEq, Int.reduceLT, Int.reduceLE, Int.reduceAdd, Int.reduceSub, Int.reduceMul, Int.reduceNeg, Int.reduceToNat, Nat.reduceMul]
  rw [rn_round]
  have n0 : ¬ ((0 : Nat) : Int) > 0 := by omega
  simp only [e0, Int.natCast_zero, Int.lt_irrefl, go_sem, Nat.reduceEqDiff, Nat.reduceAdd, Nat.reduceLeDiff, Int.reduceEq, Int.reduceLT, Int.reduceLE, Int.reduceAdd, Int.reduceSub, Int.reduceMul, Int.reduceNeg, Int.reduceToNat, Nat.reduceMul]
  exact hQ
theorem v72 (h72 : tbl 72 = some (.code m72)) (H : AH) : Val tbl 72 [] H (.slice (some ⟨H.next, 0, none⟩) 5 5) (H.push ⟨[.int .i64 1, .int .i64 2, .int .i64 3, .int .i64 4, .int .i64 5], 1, false⟩) := by
  refine Val.of_all fun Q hQ => ?_
  rw [rn_fun h72, k72]
  simp only [go_sem, Nat.reduceEqDiff, Nat.reduceAdd, Nat.reduceLeDiff, Int.reduceEq, Int.reduceLT, Int.reduceLE, Int.reduceAdd, Int.reduceSub, Int.reduceMul, Int.reduceNeg, Int.reduceToNat, Nat.reduceMul]
  have hb := back_own (base := H.next) (H := H) (H1 := H.enter.push ⟨[.int .i64 1, .int .i64 2, .int .i64 3, .int .i64 4, .int .i64 5], 1, false⟩) (es := 1) (n := 5) (v := .slice (some ⟨H.next, 0, none⟩) 5 5) (l := [.int .i64 1, .int .i64 2, .int .i64 3, .int .i64 4, .int .i64 5]) (.inr ⟨H.next, rfl, AH.get_push_eq H.enter _, rfl, Nat.le_refl _, by omega⟩) (Nat.le_refl _) (by rw [lw_push, lw_enter]; exact Nat.le_refl _) rfl
  rw [hb]
  exact hQ
def wideV : Value := .agg #[.int .i64 3071, .int .i64 16, .int .i64 1, .int .i64 255, .int .i64 1024, .int .i64 100000, .int .i64 3, .int .i64 1, .string ⟨#[]⟩]
theorem v37 (h37 : tbl 37 = some (.code m37)) (H : AH) : Val tbl 37 [] H wideV H := by
  refine Val.of_all fun Q hQ => ?_
  rw [rn_fun h37, k37]
  have hlt : H.next < H.next + 1 := by omega
  simp only [stc_eq, stB_some, hlt, go_sem, Nat.reduceEqDiff, Nat.reduceAdd, Nat.reduceLeDiff, Int.reduceEq, Int.reduceLT, Int.reduceLE, Int.reduceAdd, Int.reduceSub, Int.reduceMul, Int.reduceNeg, Int.reduceToNat, Nat.reduceMul]
  have hg : ∀ X : Option Blk, ((H.enter.push ⟨[.int .i64 0, .int .i64 0, .int .i64 0, .int .i64 0, .int .i64 0, .int .i64 0, .int .i64 0, .int .i64 0, .string ⟨#[]⟩], 1, false⟩).set H.next X).get H.next = X := fun X => AH.get_set_eq _ _ (by rw [AH.next_push, nx_enter]; omega)
  simp only [resL, resV, upd_self, upd_ne, hg, go_sem, Nat.reduceEqDiff, Nat.reduceAdd, Nat.reduceLeDiff, Int.reduceEq, Int.reduceLT, Int.reduceLE, Int.reduceAdd, Int.reduceSub, Int.reduceMul, Int.reduceNeg, Int.reduceToNat, Nat.reduceMul]
  rw [back_p3 (by rw [lw_set, lw_push, lw_enter]; omega) rfl]
  exact hQ
theorem v38 (h38 : tbl 38 = some (.code m38)) (H : AH) : Val tbl 38 [.int .i64 0] H (.pointer (some ⟨H.next, 0, none⟩)) (H.push ⟨[.int .i64 0], 1, false⟩) := by
  refine Val.of_all fun Q hQ => ?_
  rw [rn_fun h38, k38]
  simp only [go_sem, Nat.reduceEqDiff, Nat.reduceAdd, Nat.reduceLeDiff, Int.reduceEq, Int.reduceLT, Int.reduceLE, Int.reduceAdd, Int.reduceSub, Int.reduceMul, Int.reduceNeg, Int.reduceToNat, Nat.reduceMul]
  have hb : back H (H.enter.push ⟨[.int .i64 0], 1, false⟩) (.pointer (some ⟨H.next, 0, none⟩)) = (.pointer (some ⟨H.next, 0, none⟩), H.push ⟨[.int .i64 0], 1, false⟩) := by
    have hg : (H.enter.push ⟨[.int .i64 0], 1, false⟩).get H.next = some ⟨[.int .i64 0], 1, false⟩ := AH.get_push_eq H.enter _
    unfold back
    rw [if_neg (by rw [lw_push, lw_enter]; omega), if_neg (by simp [p3, p2, p1])]
    simp only [moveV, hg]
    rw [if_neg (by omega), if_pos (by rfl)]
    rfl
  rw [hb]
  exact hQ
theorem v61 (h61 : tbl 61 = some (.code m61)) {H : AH} {k : Nat} {n : Int} (hk : H.get k = some ⟨[.int .i64 n], 1, false⟩) : Val tbl 61 [.pointer (some ⟨k, 0, none⟩)] H (.int .i64 n) H := by
  refine Val.of_all fun Q hQ => ?_
  rw [rn_fun h61, k61]
  simp only [hk, nilV, go_sem, Nat.reduceEqDiff, Nat.reduceAdd, Nat.reduceLeDiff, Int.reduceEq, Int.reduceLT, Int.reduceLE, Int.reduceAdd, Int.reduceSub, Int.reduceMul, Int.reduceNeg, Int.reduceToNat, Nat.reduceMul]
  exact hQ
end Go.Proofs.Ytidpkoaomfbljaa.AM
