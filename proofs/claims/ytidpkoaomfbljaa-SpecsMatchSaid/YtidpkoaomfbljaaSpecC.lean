import Derived.Test.YtidpkoaomfbljaaSpecB
namespace Go.Proofs.Ytidpkoaomfbljaa.AM
open Go
set_option linter.all false
variable {tbl : Tbl} [hT : TMono tbl]

theorem idxSP_slc {a : Addr} {n c es : Nat} {i : Int} {K : Value → Prop} : (@idxSP (.slice (some a) n c) es i ⟨K⟩) = (@andP (0 ≤ i ∧ i < n) ⟨K (.pointer (some (addA a (i.toNat * es))))⟩) := rfl
section
variable (h69 : tbl 69 = some (.code m69)) (h70 : tbl 70 = some (.code m70)) (h71 : tbl 71 = some (.code m71)) (h72 : tbl 72 = some (.code m72)) (h59 : tbl 59 = some (.code m59))
include h69 h70 h71 h72 h59
theorem v59 (H : AH) : Val tbl 59 [wideV] H (.int .i64 0) H := by
  refine Val.of_all fun Q hQ => ?_
  rw [rn_fun h59, k59]
  have hk : (H.enter.push ⟨[.int .i64 3071, .int .i64 16, .int .i64 1, .int .i64 255, .int .i64 1024, .int .i64 100000, .int .i64 3, .int .i64 1, .string ⟨#[]⟩], 1, false⟩).get H.next = some ⟨[.int .i64 3071, .int .i64 16, .int .i64 1, .int .i64 255, .int .i64 1024, .int .i64 100000, .int .i64 3, .int .i64 1, .string ⟨#[]⟩], 1, false⟩ := AH.get_push_eq H.enter _
  have v8 := v69 h69 8 3071 hk
  have v4 := v69 h69 4 3071 hk
  have v2048 := v69 h69 2048 3071 hk
  have v64 := v69 h69 64 3071 hk
  have b8 : bitsK .and .i64 3071 8 = 8 := by decide
  have b4 : bitsK .and .i64 3071 4 = 4 := by decide
  have b2048 : bitsK .and .i64 3071 2048 = 2048 := by decide
  have b64 : bitsK .and .i64 3071 64 = 64 := by decide
  rw [b8] at v8
  rw [b4] at v4
  rw [b2048] at v2048
  rw [b64] at v64
  have z : ¬ (8 : Int) = 0 := by omega
  have z4 : ¬ (4 : Int) = 0 := by omega
  have z2048 : ¬ (2048 : Int) = 0 := by omega
  have z64 : ¬ (64 : Int) = 0 := by omega
  have s1 : shiftK .shl .i64 1 1 = 2 := by decide
  have o1 : bitsK .or .i64 0 2 = 2 := by decide
  have w1 : IntKind.wrap .i64 1 = 1 := w64 (by omega) (by omega)
  have s2 : shiftK .shl .i64 1 2 = 4 := by decide
  have o2 : bitsK .or .i64 2 4 = 6 := by decide
  have w2 : IntKind.wrap .i64 2 = 2 := w64 (by omega) (by omega)
  have s3 : shiftK .shl .i64 1 3 = 8 := by decide
  have o3 : bitsK .or .i64 6 8 = 14 := by decide
  have w3 : IntKind.wrap .i64 3 = 3 := w64 (by omega) (by omega)
  have s4 : shiftK .shl .i64 1 4 = 16 := by decide
  have o4 : bitsK .or .i64 14 16 = 30 := by decide
  have w4 : IntKind.wrap .i64 4 = 4 := w64 (by omega) (by omega)
  have s5 : shiftK .shl .i64 1 5 = 32 := by decide
  have o5 : bitsK .or .i64 30 32 = 62 := by decide
  have w5 : IntKind.wrap .i64 5 = 5 := w64 (by omega) (by omega)
  have an : bitsK .andNot .i64 16 62 = 0 := by decide
  simp only [wideV, ↓v8.run, ↓v4.run, ↓v2048.run, ↓v64.run, ↓(v71 h71 _).run, ↓(v72 h72 _).run, z, z4, z2048, z64, go_sem, Nat.reduceEqDiff, Nat.reduceAdd, Nat.reduceLeDiff, Int.reduceEq, Int.reduceLT, Int.reduceLE, Int.reduceAdd, Int.reduceSub, Int.reduceMul, Int.reduceNeg, Int.reduceToNat, Nat.reduceMul]
  rw [rn_round]
  simp only [idxSP_slc, s1, o1, w1, go_sem, Nat.reduceEqDiff, Nat.reduceAdd, Nat.reduceLeDiff, Int.reduceEq, Int.reduceLT, Int.reduceLE, Int.reduceAdd, Int.reduceSub, Int.reduceMul, Int.reduceNeg, Int.reduceToNat, Nat.reduceMul]
  rw [rn_round]
  simp only [idxSP_slc, s2, o2, w2, go_sem, Nat.reduceEqDiff, Nat.reduceAdd, Nat.reduceLeDiff, Int.reduceEq, Int.reduceLT, Int.reduceLE, Int.reduceAdd, Int.reduceSub, Int.reduceMul, Int.reduceNeg, Int.reduceToNat, Nat.reduceMul]
  rw [rn_round]
  simp only [idxSP_slc, s3, o3, w3, go_sem, Nat.reduceEqDiff, Nat.reduceAdd, Nat.reduceLeDiff, Int.reduceEq, Int.reduceLT, Int.reduceLE, Int.reduceAdd, Int.reduceSub, Int.reduceMul, Int.reduceNeg, Int.reduceToNat, Nat.reduceMul]
  rw [rn_round]
  simp only [idxSP_slc, s4, o4, w4, go_sem, Nat.reduceEqDiff, Nat.reduceAdd, Nat.reduceLeDiff, Int.reduceEq, Int.reduceLT, Int.reduceLE, Int.reduceAdd, Int.reduceSub, Int.reduceMul, Int.reduceNeg, Int.reduceToNat, Nat.reduceMul]
  rw [rn_round]
  simp only [idxSP_slc, s5, o5, w5, go_sem, Nat.reduceEqDiff, Nat.reduceAdd, Nat.reduceLeDiff, Int.reduceEq, Int.reduceLT, Int.reduceLE, Int.reduceAdd, Int.reduceSub, Int.reduceMul, Int.reduceNeg, Int.reduceToNat, Nat.reduceMul]
  rw [rn_round]
  simp only [↓(v70 h70 _ _ _ _).run, an, go_sem, Nat.reduceEqDiff, Nat.reduceAdd, Nat.reduceLeDiff, Int.reduceEq, Int.reduceLT, Int.reduceLE, Int.reduceAdd, Int.reduceSub, Int.reduceMul, Int.reduceNeg, Int.reduceToNat, Nat.reduceMul]
  exact hQ
end
theorem v75 (h75 : tbl 75 = some (.code m75)) (H : AH) : Val tbl 75 [.slice none 0 0] H (.slice none 0 0) H := by
  refine Val.of_all fun Q hQ => ?_
  rw [rn_fun h75, k75]
  simp only [go_sem, Nat.reduceEqDiff, Nat.reduceAdd, Nat.reduceLeDiff, Int.reduceEq, Int.reduceLT, Int.reduceLE, Int.reduceAdd, Int.reduceSub, Int.reduceMul, Int.reduceNeg, Int.reduceToNat, Nat.reduceMul]
  exact hQ
/-- The variable that store.New makes. -/
def memB (clk root calls since : Value) : Blk := ⟨[.int .i64 3071, .int .i64 16, .int .i64 1, .int .i64 255, .int .i64 1024, .int .i64 100000, .int .i64 3, .int .i64 1, .string ⟨#[]⟩, clk, root, .int .i64 0, .int .i64 0, calls, since, .slice none 0 0, .int .i64 0, .slice none 0 0, .map (some 0), .map (some 0)], 1, false⟩
theorem v60 (h75 : tbl 75 = some (.code m75)) (h60 : tbl 60 = some (.code m60)) {H : AH} {k : Nat} {clk root calls since : Value} (hk : H.get k = some (memB clk root calls since)) :
    ∃ H1 s, Val tbl 60 [.pointer (some ⟨k, 0, none⟩), .slice none 0 0] H (.int .i64 0) H1 ∧ (∀ id, id < H.next → id ≠ k → H1.get id = H.get id) ∧ H.next ≤ H1.next ∧ min H.low k ≤ H1.low ∧ H1.get k = some (memB clk root calls s) := by
  suffices hrun : @RunF tbl 60 [.pointer (some ⟨k, 0, none⟩), .slice none 0 0] H ⟨fun r H1 => r = .int .i64 0 ∧ (∀ id, id < H.next → id ≠ k → H1.get id = H.get id) ∧ H.next ≤ H1.next ∧ min H.low k ≤ H1.low ∧ ∃ s, H1.get k = some (memB clk root calls s)⟩ by
    obtain ⟨k, r, H1, h1, rfl, h2, h3, h4, s, h5⟩ := hrun
    exact ⟨H1, s, ⟨k, h1⟩, h2, h3, h4, h5⟩
  obtain ⟨Q, hQ⟩ : ∃ Q : Value → AH → Prop, Q = fun r H1 => r = .int .i64 0 ∧ (∀ id, id < H.next → id ≠ k → H1.get id = H.get id) ∧ H.next ≤ H1.next ∧ min H.low k ≤ H1.low ∧ ∃ s, H1.get k = some (memB clk root calls s) := ⟨_, rfl⟩
  rw [← hQ]
  have hlt := AH.get_lt hk
  rw [rn_fun h60, k60]
  simp only [go_sem, Nat.reduceEqDiff, Nat.reduceAdd, Nat.reduceLeDiff, Int.reduceEq, Int.reduceLT, Int.reduceLE, Int.reduceAdd, Int.reduceSub, Int.reduceMul, Int.reduceNeg, Int.reduceToNat, Nat.reduceMul]
  rw [rn_round]
  have z0 : ¬ ((0 : Int) < ((0 : Nat) : Int)) := by omega
  have hne : ¬ k = H.next := by omega
  have hlt2 : k < H.next + 1 := by omega
  simp only [↓(v75 h75 _).run, hk, memB, nilV, hlt, hlt2, hne, z0, stc_eq, stB_some, set_get, set_set, AH.next_set, go_sem, Nat.reduceEqDiff, Nat.reduceAdd, Nat.reduceLeDiff, Int.reduceEq, Int.reduceLT, Int.reduceLE, Int.reduceAdd, Int.reduceSub, Int.reduceMul, Int.reduceNeg, Int.reduceToNat, Nat.reduceMul]
  obtain ⟨H2, hH2⟩ : ∃ H2, H2 = ((H.enter.set k (some (memB clk root calls since))).push ⟨rep 14 [.int .i64 0], 1, false⟩).set k (some (memB clk root calls (.slice (some ⟨H.next, 0, none⟩) 14 14))) := ⟨_, rfl⟩
  have hlow : H2.low < H.next := by rw [hH2, lw_set]; omega
  have eb : back H H2 (.int .i64 0) = (.int .i64 0, { H2 with low := min H.low H2.low }) := by
    unfold back; rw [if_pos hlow]
  simp only [memB] at hH2
  rw [← hH2, eb, hQ]
  refine ⟨rfl, fun id hid hidk => ?_, ?_, ?_, .slice (some ⟨H.next, 0, none⟩) 14 14, ?_⟩
  · show H2.get id = H.get id
    rw [hH2, AH.get_set_ne _ _ hidk, AH.get_push_lt _ _ (by rw [AH.next_set, nx_enter]; exact hid), AH.get_set_ne _ _ hidk]
    rfl
  · show H.next ≤ H2.next
    rw [hH2, AH.next_set, AH.next_push, AH.next_set, nx_enter]; omega
  · show min H.low k ≤ min H.low H2.low
    rw [hH2, lw_set, lw_push, lw_set, lw_enter]; omega
  · show H2.get k = _
    rw [hH2]
    exact AH.get_set_eq _ _ (by rw [AH.next_push, AH.next_set, nx_enter]; omega)
end Go.Proofs.Ytidpkoaomfbljaa.AM
