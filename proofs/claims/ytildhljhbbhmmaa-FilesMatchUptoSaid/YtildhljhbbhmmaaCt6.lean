/- Part 6 of the texts that this claim needs. No conditions. -/
import Derived.Shelf.Spec.SlicesGrow
import Derived.Test.YtildhljhbbhmmaaProg
import Derived.KernelRfl
import Derived.JoinedCond
import Derived.Test.YtildhljhbbhmmaaCt5
namespace Go.Proofs.Ytildhljhbbhmmaa.AM
open Go
set_option linter.all false
set_option maxRecDepth 10000
variable {tbl : Tbl} [hT : TMono tbl]

/-- How a sealed file begins. -/
def headL (n : List UInt8) : List UInt8 := markL ++ n
theorem headL_len {n : List UInt8} (h : n.length = 12) : (headL n).length = 20 := by rw [headL, List.length_append, h]; rfl
/-- A sealer. -/
def slB (a b c hd : List UInt8) (told done : Bool) (rest : List UInt8) (part rcv : Int) : Blk := ⟨slV (tx a) (tx b) (tx c) (tx hd) told done (tx rest) part rcv, 1, false⟩
theorem v50_bad (h78 : tbl 78 = some (.code m78)) (h50 : tbl 50 = some (.code m50)) (a b c n : List UInt8) (hk : keysW a b c ≠ 0 ∨ n.length ≠ 12) (H : AH) : Val tbl 50 [keysV a b c, .string (tx n)] H (.tuple #[.pointer none, .int .i64 (if keysW a b c ≠ 0 then keysW a b c else 6)]) H := by
  refine Val.of_all fun Q hQ => ?_
  rw [rn_fun h50, k50]
  have hv := fun X => v78 (tbl := tbl) h78 a b c X
  have e1 : ((n.length : Int) = 12) ↔ n.length = 12 := by omega
  simp only [keysV] at hv
  by_cases h0 : keysW a b c = 0
  · have hn : ¬ n.length = 12 := by rcases hk with h | h; exact absurd h0 h; exact h
    rw [if_neg (fun h => h h0)] at hQ
    simp only [keysV, ↓(hv _).run, h0, tx_size, e1, hn, go_sem, Nat.reduceEqDiff, Nat.reduceAdd, Nat.reduceLeDiff, Int.reduceEq, Int.reduceLT, Int.reduceLE, Int.reduceAdd, Int.reduceSub, Int.reduceMul, Int.reduceNeg, Int.reduceToNat, Nat.reduceMul]
    exact hQ
  · rw [if_pos h0] at hQ
    simp only [keysV, ↓(hv _).run, h0, go_sem, Nat.reduceEqDiff, Nat.reduceAdd, Nat.reduceLeDiff, Int.reduceEq, Int.reduceLT, Int.reduceLE, Int.reduceAdd, Int.reduceSub, Int.reduceMul, Int.reduceNeg, Int.reduceToNat, Nat.reduceMul]
    exact hQ
theorem v50 (h78 : tbl 78 = some (.code m78)) (h50 : tbl 50 = some (.code m50)) (a b c n : List UInt8) (hk : keysW a b c = 0) (hn : n.length = 12) (H : AH) : Val tbl 50 [keysV a b c, .string (tx n)] H (.tuple #[.pointer (some ⟨H.next, 0, none⟩), .int .i64 0]) (H.push (slB a b c (headL n) false false [] 0 0)) := by
  refine Val.of_all fun Q hQ => ?_
  rw [rn_fun h50, k50]
  have hv := fun X => v78 (tbl := tbl) h78 a b c X
  simp only [keysV] at hv
  have hm : (⟨#[87, 72, 83, 69, 65, 76, 48, 49]⟩ : ByteArray) = tx markL := rfl
  have hml : markL.length = 8 := rfl
  have h20 : 8 + 12 ≤ 9223372036854775807 := by omega
  have hh : tx (markL ++ n) = tx (headL n) := rfl
  simp only [keysV, ↓(hv _).run, hk, tx_size, hn, hm, hml, h20, tx_cat, hh, go_sem, Nat.reduceEqDiff, Nat.reduceAdd, Nat.reduceLeDiff, Int.reduceEq, Int.reduceLT, Int.reduceLE, Int.reduceAdd, Int.reduceSub, Int.reduceMul, Int.reduceNeg, Int.reduceToNat, Nat.reduceMul]
  rw [back_ptr (b := slB a b c (headL n) false false [] 0 0) (k := H.next + 1) rfl rfl (by simp only [gt_push, AH.next_push, nx_enter, if_true]; rfl) (by omega) (by rw [lw_push, lw_push, lw_enter]; omega)]
  exact hQ
/-- A sealed file. -/
def fileL (a n R : List UInt8) : List UInt8 := slW a (headL n) false 0 R ++ slE a (headL n) true (nW R.length) (R.drop (1024 * nW R.length))
structure SealerT (tbl : Tbl) : Prop where
  h78 : tbl 78 = some (.code m78)
  h50 : tbl 50 = some (.code m50)
  h51 : tbl 51 = some (.nat natWrite)
  h52 : tbl 52 = some (.nat natClose)
  h44 : tbl 44 = some (.code m44)
/-- What Seal answers. -/
def sealR (a b c n t : List UInt8) : Value :=
  if keysW a b c ≠ 0 then .tuple #[.string ⟨#[]⟩, .int .i64 (keysW a b c)] else if n.length ≠ 12 then .tuple #[.string ⟨#[]⟩, .int .i64 6] else if 1048576 < t.length then .tuple #[.string ⟨#[]⟩, .int .i64 8] else .tuple #[.string (tx (fileL a n t)), .int .i64 0]
theorem v44 (S : SealerT tbl) (a b c n t : List UInt8) (H : AH) : Val tbl 44 [keysV a b c, .string (tx n), .string (tx t)] H (sealR a b c n t) H := by
  refine Val.of_all fun Q hQ => ?_
  rw [rn_fun S.h44, k44]
  unfold sealR at hQ
  by_cases hk : keysW a b c = 0
  · rw [if_neg (fun h => h hk)] at hQ
    by_cases hn : n.length = 12
    · rw [if_neg (fun h => h hn)] at hQ
      have hv := fun X => v50 S.h78 S.h50 a b c n hk hn X
      simp only [keysV] at hv
      have ha : a.length = 32 := by
        unfold keysW at hk
        by_cases h : a.length = 32
        · exact h
        · rw [if_neg fun x => h x.1] at hk; exact absurd hk (by decide)
      by_cases ht : 1048576 < t.length
      · rw [if_pos ht] at hQ
        have e1 : (1048576 : Int) < t.length := by omega
        simp only [keysV, ↓(hv _).run, tx_size, e1, go_sem, Nat.reduceEqDiff, Nat.reduceAdd, Nat.reduceLeDiff, Int.reduceEq, Int.reduceLT, Int.reduceLE, Int.reduceAdd, Int.reduceSub, Int.reduceMul, Int.reduceNeg, Int.reduceToNat, Nat.reduceMul]
        exact hQ
      · rw [if_neg ht] at hQ
        have e1 : ¬ (1048576 : Int) < t.length := by omega
        simp only [keysV, ↓(hv _).run, tx_size, e1, go_sem, Nat.reduceEqDiff, Nat.reduceAdd, Nat.reduceLeDiff, Int.reduceEq, Int.reduceLT, Int.reduceLE, Int.reduceAdd, Int.reduceSub, Int.reduceMul, Int.reduceNeg, Int.reduceToNat, Nat.reduceMul]
        obtain ⟨X, hX⟩ : ∃ X, X = (H.enter.push ⟨[.string (tx a), .string (tx b), .string (tx c)], 1, false⟩).push (slB a b c (headL n) false false [] 0 0) := ⟨_, rfl⟩
        have hg : X.get (H.next + 1) = some (slB a b c (headL n) false false [] 0 0) := by rw [hX]; simp only [gt_push, AH.next_push, nx_enter, if_true]
        have hlt : H.next + 1 < X.next := by rw [hX, AH.next_push, AH.next_push, nx_enter]; omega
        have hlow : ¬ X.low < H.next := by rw [hX, lw_push, lw_push, lw_enter]; omega
        rw [← hX]
        clear hX
        have hw := v51 (tbl := tbl) S.h51 hg rfl rfl ha (headL_len hn) ⟨by omega, by omega⟩ ⟨by omega, by omega⟩ t (by omega) (by show ([] : List UInt8).length ≤ _; simp)
        simp only [List.nil_append, Int.zero_add] at hw
        obtain ⟨rest, hrest⟩ : ∃ rest, rest = t.drop (1024 * nW t.length) := ⟨_, rfl⟩
        have hrl : rest.length ≤ 1048576 := by rw [hrest, List.length_drop]; omega
        obtain ⟨pn, hpn⟩ : ∃ pn : Int, pn = (nW t.length : Int) := ⟨_, rfl⟩
        have hp : 0 ≤ pn ∧ pn ≤ 1000000000 := by rw [hpn]; unfold nW; omega
        have hq : fileL a n t = slW a (headL n) false 0 t ++ slE a (headL n) true pn rest := by rw [hrest, hpn]; rfl
        rw [← hrest, ← hpn] at hw
        have hg2 := AH.get_set_eq X (some { slB a b c (headL n) false false [] 0 0 with cells := slV (tx a) (tx b) (tx c) (tx (headL n)) true false (tx rest) pn t.length }) hlt
        have hc := v52 (tbl := tbl) S.h52 hg2 rfl rfl ha (headL_len hn) hp hrl
        have h1 := sealQ_len (a := a) (h := headL n) (part := 0) (R := t) (nW t.length)
        have hz1 : (slW a (headL n) false 0 t).length + (slE a (headL n) true pn rest).length ≤ 9223372036854775807 := by
          have := headL_len hn
          simp only [slW, slE, List.length_append, sealL_len, if_true, Bool.false_eq_true, if_false, List.length_nil]
          unfold nW at h1 ⊢
          omega
        simp only [↓hw.run, ↓hc.run, tx_size, tx_cat, hz1, ← hq, go_sem, Nat.reduceEqDiff, Nat.reduceAdd, Nat.reduceLeDiff, Int.reduceEq, Int.reduceLT, Int.reduceLE, Int.reduceAdd, Int.reduceSub, Int.reduceMul, Int.reduceNeg, Int.reduceToNat, Nat.reduceMul]
        rw [back_p3 (by rw [lw_set, lw_set]; omega) rfl]
        exact hQ
    · rw [if_pos hn] at hQ
      have hv := fun X => v50_bad S.h78 S.h50 a b c n (.inr hn) X
      simp only [keysV, hk, ne_eq, not_true, if_false] at hv
      simp only [keysV, ↓(hv _).run, go_sem, Nat.reduceEqDiff, Nat.reduceAdd, Nat.reduceLeDiff, Int.reduceEq, Int.reduceLT, Int.reduceLE, Int.reduceAdd, Int.reduceSub, Int.reduceMul, Int.reduceNeg, Int.reduceToNat, Nat.reduceMul]
      exact hQ
  · rw [if_pos hk] at hQ
    have hv := fun X => v50_bad S.h78 S.h50 a b c n (.inl hk) X
    simp only [keysV, ne_eq, hk, not_false_eq_true, if_true] at hv
    simp only [keysV, ↓(hv _).run, hk, go_sem, Nat.reduceEqDiff, Nat.reduceAdd, Nat.reduceLeDiff, Int.reduceEq, Int.reduceLT, Int.reduceLE, Int.reduceAdd, Int.reduceSub, Int.reduceMul, Int.reduceNeg, Int.reduceToNat, Nat.reduceMul]
    exact hQ
open Classical in
/-- What Open reads. -/
noncomputable def openF (a s : List UInt8) : Option (List UInt8) := if Good (s.length : Int) then openP a (s.take 20) (sz (s.length : Int)) 0 (s.drop 20) else none
def opV : Option (List UInt8) → Value
  | some l => .tuple #[.string (tx l), .int .i64 0]
  | none => .tuple #[.string ⟨#[]⟩, .int .i64 19]
noncomputable def openR (a b c s : List UInt8) : Value := if keysW a b c ≠ 0 then .tuple #[.string ⟨#[]⟩, .int .i64 (keysW a b c)] else opV (openF a s)
structure OpenT (tbl : Tbl) : Prop where
  h78 : tbl 78 = some (.code m78)
  h86 : tbl 86 = some (.code m86)
  h54 : tbl 54 = some (.code m54)
  h16 : tbl 16 = some (.code m16)
  h79 : tbl 79 = some (.nat natOpen)
  h48 : tbl 48 = some (.code m48)
theorem keys32 {a b c : List UInt8} (hk : keysW a b c = 0) : a.length = 32 := by
  unfold keysW at hk
  by_cases h : a.length = 32
  · exact h
  · rw [if_neg fun x => h x.1] at hk; exact absurd hk (by decide)
theorem v48 (S : OpenT tbl) (a b c s : List UInt8) (H : AH) : Val tbl 48 [keysV a b c, .string (tx s)] H (openR a b c s) H := by
  refine Val.of_all fun Q hQ => ?_
  rw [rn_fun S.h48, k48]
  unfold openR at hQ
  have hv := fun X => v78 (tbl := tbl) S.h78 a b c X
  have h16 := v16 (tbl := tbl) S.h86 S.h54 S.h16 (s.length : Int)
  simp only [keysV] at hv
  by_cases hk : keysW a b c = 0
  · rw [if_neg (fun h => h hk)] at hQ
    by_cases hg : Good (s.length : Int)
    · have hg2 := hg
      obtain ⟨g1, g2, g3, g4, g5⟩ := hg2
      simp only [hg, if_true] at h16
      have hw := fun X => v79 (tbl := tbl) S.h79 a b c (s.take 20) (s.drop 20) (keys32 hk) (size := sz s.length) (first := 0) ⟨g3, g4⟩ ⟨by omega, .inl (by omega)⟩ (by rw [List.length_drop]; omega) X
      have hx1 : (tx s).extract 0 20 = tx (s.take 20) := by rw [tx_extract]; rfl
      have hx2 : (tx s).extract 20 s.length = tx (s.drop 20) := by rw [tx_extract, List.take_length]
      have l1 : (20 : Int) ≤ s.length := by omega
      have l2 : (20 : Nat) ≤ s.length := by omega
      simp only [keysV] at hw
      unfold openF at hQ
      rw [if_pos hg] at hQ
      generalize hz : sz (s.length : Int) = z at *
      cases ho : openP a (s.take 20) z 0 (s.drop 20) with
      | none =>
        rw [ho] at hQ
        simp only [ho, optV] at hw
        simp only [keysV, ↓(hv _).run, ↓(h16 _).run, ↓(hw _).run, hk, tx_size, hx1, hx2, l1, l2, go_sem, Nat.reduceEqDiff, Nat.reduceAdd, Nat.reduceLeDiff, Int.reduceEq, Int.reduceLT, Int.reduceLE, Int.reduceAdd, Int.reduceSub, Int.reduceMul, Int.reduceNeg, Int.reduceToNat, Nat.reduceMul]
        exact hQ
      | some out =>
        rw [ho] at hQ
        simp only [ho, optV] at hw
        simp only [keysV, ↓(hv _).run, ↓(h16 _).run, ↓(hw _).run, hk, tx_size, hx1, hx2, l1, l2, go_sem, Nat.reduceEqDiff, Nat.reduceAdd, Nat.reduceLeDiff, Int.reduceEq, Int.reduceLT, Int.reduceLE, Int.reduceAdd, Int.reduceSub, Int.reduceMul, Int.reduceNeg, Int.reduceToNat, Nat.reduceMul]
        exact hQ
    · unfold openF at hQ
      rw [if_neg hg] at hQ
      simp only [hg, if_false] at h16
      simp only [keysV, ↓(hv _).run, ↓(h16 _).run, hk, tx_size, go_sem, Nat.reduceEqDiff, Nat.reduceAdd, Nat.reduceLeDiff, Int.reduceEq, Int.reduceLT, Int.reduceLE, Int.reduceAdd, Int.reduceSub, Int.reduceMul, Int.reduceNeg, Int.reduceToNat, Nat.reduceMul]
      exact hQ
  · rw [if_pos hk] at hQ
    simp only [keysV, ↓(hv _).run, hk, go_sem, Nat.reduceEqDiff, Nat.reduceAdd, Nat.reduceLeDiff, Int.reduceEq, Int.reduceLT, Int.reduceLE, Int.reduceAdd, Int.reduceSub, Int.reduceMul, Int.reduceNeg, Int.reduceToNat, Nat.reduceMul]
    exact hQ
noncomputable def afterO (a s : List UInt8) (X : List UInt8 → Value) : Value := match openF a s with
  | some t => X t
  | none => .tuple #[.string ⟨#[]⟩, .int .i64 19]
theorem v42 (S : SealerT tbl) (O : OpenT tbl) (h42 : tbl 42 = some (.code m42)) (a b c a2 b2 c2 n s : List UInt8) (H : AH) : Val tbl 42 [keysV a b c, keysV a2 b2 c2, .string (tx n), .string (tx s)] H
    (if keysW a b c ≠ 0 then .tuple #[.string ⟨#[]⟩, .int .i64 (keysW a b c)] else afterO a s (sealR a2 b2 c2 n)) H := by
  refine Val.of_all fun Q hQ => ?_
  rw [rn_fun h42, k42]
  have hv := fun X => v48 O a b c s X
  unfold openR at hv
  unfold afterO at hQ
  by_cases hk : keysW a b c = 0
  · rw [if_neg (fun h => h hk)] at hQ
    simp only [hk, ne_eq, not_true, if_false] at hv
    cases ho : openF a s with
    | none =>
      rw [ho] at hQ
      simp only [ho, opV] at hv
      simp only [keysV] at hv ⊢
      simp only [↓(hv _).run, go_sem, Nat.reduceEqDiff, Nat.reduceAdd, Nat.reduceLeDiff, Int.reduceEq, Int.reduceLT, Int.reduceLE, Int.reduceAdd, Int.reduceSub, Int.reduceMul, Int.reduceNeg, Int.reduceToNat, Nat.reduceMul]
      exact hQ
    | some t =>
      rw [ho] at hQ
      simp only [ho, opV] at hv
      have hw := fun X => v44 S a2 b2 c2 n t X
      obtain ⟨u, e, hr⟩ : ∃ u e, sealR a2 b2 c2 n t = .tuple #[.string u, .int .i64 e] := by
        unfold sealR
        repeat' split
        all_goals exact ⟨_, _, rfl⟩
      simp only [hr] at hw hQ
      simp only [keysV] at hv hw ⊢
      simp only [↓(hv _).run, ↓(hw _).run, go_sem, Nat.reduceEqDiff, Nat.reduceAdd, Nat.reduceLeDiff, Int.reduceEq, Int.reduceLT, Int.reduceLE, Int.reduceAdd, Int.reduceSub, Int.reduceMul, Int.reduceNeg, Int.reduceToNat, Nat.reduceMul]
      exact hQ
  · rw [if_pos hk] at hQ
    simp only [hk, ne_eq, not_false_eq_true, if_true] at hv
    simp only [keysV] at hv ⊢
    simp only [↓(hv _).run, hk, go_sem, Nat.reduceEqDiff, Nat.reduceAdd, Nat.reduceLeDiff, Int.reduceEq, Int.reduceLT, Int.reduceLE, Int.reduceAdd, Int.reduceSub, Int.reduceMul, Int.reduceNeg, Int.reduceToNat, Nat.reduceMul]
    exact hQ
end Go.Proofs.Ytildhljhbbhmmaa.AM
namespace Go.Proofs.Ytildhljhbbhmmaa.AM
open Go
set_option linter.all false
set_option maxRecDepth 10000
variable {tbl : Tbl} [hT : TMono tbl]

structure FRefT (tbl : Tbl) : Prop where
  h102 : tbl 102 = some (.code m102)
  h103 : tbl 103 = some (.code m103)
  h76 : tbl 76 = some (.code m76)
  h77 : tbl 77 = some (.code m77)
  h41 : tbl 41 = some (.code m41)
theorem headL_drop {n : List UInt8} : (headL n).drop 8 = n := by rw [headL]; exact List.drop_left (l₁ := markL)
theorem sealQ_head {a h : List UInt8} {part : Int} {R : List UInt8} {q : Nat} : sealQ a h part R (q + 1) = sealQ a h part R q ++ sealL a (nonceL (h.drop 8) (part + q)) (extraL h (part + q) false) (blk 1024 R q) := rfl
/-- The last block. -/
theorem blk_last {R : List UInt8} : blk 1024 R (nW R.length) = R.drop (1024 * nW R.length) := by
  unfold blk
  rw [List.take_of_length_le]
  rw [List.length_drop]
  unfold nW
  omega
theorem fileL_eq {a n R : List UInt8} : fileL a n R = (headL n ++ sealQ a (headL n) 0 R (nW R.length)) ++ sealL a (nonceL n (nW R.length)) (extraL (headL n) (nW R.length) true) (blk 1024 R (nW R.length)) := by
  rw [blk_last]
  simp only [fileL, slW, slE, if_true, Bool.false_eq_true, if_false, List.nil_append, headL_drop]
set_option maxHeartbeats 1000000 in
theorem v41 (R : RefT tbl) (F : FRefT tbl) (a b c n t : List UInt8) (ha : a.length = 32) (hn : n.length = 12) (ht : t.length ≤ 1048576) (H : AH) : Val tbl 41 [keysV a b c, .string (tx n), .string (tx t)] H (.string (tx (fileL a n t))) H := by
  refine Val.of_all fun Q hQ => ?_
  rw [rn_fun F.h41, k41]
  have hm : (⟨#[87, 72, 83, 69, 65, 76, 48, 49]⟩ : ByteArray) = tx markL := rfl
  have hml : markL.length = 8 := rfl
  have h20 : 8 + 12 ≤ 9223372036854775807 := by omega
  have hh : tx (markL ++ n) = tx (headL n) := rfl
  have hN : 1024 * blkN 1024 t.length < t.length + 1024 ∧ t.length ≤ 1024 * blkN 1024 t.length := by unfold blkN; omega
  obtain ⟨X, hX⟩ : ∃ X, X = H.enter.push ⟨[.string (tx a), .string (tx b), .string (tx c)], 1, false⟩ := ⟨_, rfl⟩
  have hXg : X.get H.next = some ⟨[.string (tx a), .string (tx b), .string (tx c)], 1, false⟩ := by rw [hX]; exact AH.get_push_eq H.enter _
  have hXn : X.next = H.next + 1 := by rw [hX, AH.next_push, nx_enter]
  have hXl : X.low = H.next := by rw [hX, lw_push, lw_enter]
  have hv65 : Val tbl 65 [.string (tx t), .int .i64 1024] X (mkS X (blkN 1024 t.length)) (mkH X 1 (blkN 1024 t.length) (strs (blk 1024 t) (blkN 1024 t.length))) := v65 R.h65 t 1024 (by omega) (by omega) (by omega) X
  obtain ⟨M, hM⟩ : ∃ M, M = nW t.length + 1 := ⟨_, rfl⟩
  by_cases h0 : t.length = 0
  case' pos =>
    have hb0 : blkN 1024 t.length = 0 := by unfold blkN; omega
    have ht0 : t = [] := List.eq_nil_of_length_eq_zero h0
    rw [hb0] at hv65
    simp only [mkS, mkH, if_true] at hv65
    obtain ⟨H1, hH1⟩ : ∃ H1, H1 = X.push ⟨[.string ⟨#[]⟩], 1, false⟩ := ⟨_, rfl⟩
    obtain ⟨ad, hadd⟩ : ∃ ad, ad = some (⟨X.next, 0, none⟩ : Addr) := ⟨_, rfl⟩
    obtain ⟨cp, hcp⟩ : ∃ cp, cp = 1 := ⟨_, rfl⟩
    have hM1 : M = 1 := by rw [hM, h0]; rfl
    have hsl : Sl H1 1 (.slice ad M cp) M (strs (blk 1024 t) M) := by
      rw [hadd, hM1, hcp, hH1, ht0]
      refine .inr ⟨_, _, rfl, ?_⟩
      rw [ldc_eq, AH.get_push_eq X _]
      rfl
    have hg : H1.get H.next = some ⟨[.string (tx a), .string (tx b), .string (tx c)], 1, false⟩ := by rw [hH1, AH.get_push_lt X _ (by omega)]; exact hXg
    have hlow : H1.low = H.next := by rw [hH1, lw_push, hXl]
    simp only [keysV, hm, hml, hn, h20, tx_cat, hh, tx_size, ← hX, ↓hv65.run, ← hH1, go_sem, Nat.reduceEqDiff, Nat.reduceAdd, Nat.reduceLeDiff, Int.reduceEq, Int.reduceLT, Int.reduceLE, Int.reduceAdd, Int.reduceSub, Int.reduceMul, Int.reduceNeg, Int.reduceToNat, Nat.reduceMul]
  case' neg =>
    have hbN : blkN 1024 t.length = M := by rw [hM]; unfold blkN nW; omega
    rw [hbN] at hv65
    have hown := own_mk (H := X) (es := 1) (n := M) (l := strs (blk 1024 t) M) (by rw [strs_len]; omega)
    have hlow := mkH_low (H := X) (es := 1) (n := M) (l := strs (blk 1024 t) M)
    have hg := mkH_get (H := X) (es := 1) (n := M) (l := strs (blk 1024 t) M) (id := H.next) (by omega)
    rw [hXl] at hlow
    rw [hXg] at hg
    generalize mkH X 1 M (strs (blk 1024 t) M) = H1 at hv65 hown hlow hg
    have hsl := hown.sl
    obtain ⟨ad, cp, hv⟩ := hsl.shape
    rw [hv] at hv65 hsl
    have hM0 : ¬ ((M : Nat) : Int) = 0 := by omega
    simp only [keysV, hm, hml, hn, h20, tx_cat, hh, tx_size, ← hX, ↓hv65.run, hM0, go_sem, Nat.reduceEqDiff, Nat.reduceAdd, Nat.reduceLeDiff, Int.reduceEq, Int.reduceLT, Int.reduceLE, Int.reduceAdd, Int.reduceSub, Int.reduceMul, Int.reduceNeg, Int.reduceToNat, Nat.reduceMul]
  all_goals
    refine rn_loop (fun m f H' => H' = H1 ∧ ∃ (q : Nat) (o : List UInt8), m = M - q ∧ q ≤ M ∧ ((q < M ∧ o = headL n ++ sealQ a (headL n) 0 t q) ∨ (q = M ∧ o = fileL a n t)) ∧ f 1 = .string (tx n) ∧ f 3 = .pointer (some ⟨H.next, 0, none⟩) ∧ f 7 = .string (tx (headL n)) ∧ f 8 = .string (tx o) ∧ f 9 = .slice ad M cp ∧ f 22 = .slice ad M cp ∧ f 23 = .int .i64 M ∧ f 24 = .int .i64 q) ?_ (n := M)
      ⟨rfl, 0, headL n, by omega, by omega, .inl ⟨by omega, by simp [sealQ]⟩, by simp only [go_sem, Nat.reduceEqDiff, Nat.reduceAdd, Nat.reduceLeDiff, Int.reduceEq, Int.reduceLT, Int.reduceLE, Int.reduceAdd, Int.reduceSub, Int.reduceMul, Int.reduceNeg, Int.reduceToNat, Nat.reduceMul], by simp only [go_sem, Nat.reduceEqDiff, Nat.reduceAdd, Nat.reduceLeDiff, Int.reduceEq, Int.reduceLT, Int.reduceLE, Int.reduceAdd, Int.reduceSub, Int.reduceMul, Int.reduceNeg, Int.reduceToNat, Nat.reduceMul], by simp only [go_sem, Nat.reduceEqDiff, Nat.reduceAdd, Nat.reduceLeDiff, Int.reduceEq, Int.reduceLT, Int.reduceLE, Int.reduceAdd, Int.reduceSub, Int.reduceMul, Int.reduceNeg, Int.reduceToNat, Nat.reduceMul], by simp only [go_sem, Nat.reduceEqDiff, Nat.reduceAdd, Nat.reduceLeDiff, Int.reduceEq, Int.reduceLT, Int.reduceLE, Int.reduceAdd, Int.reduceSub, Int.reduceMul, Int.reduceNeg, Int.reduceToNat, Nat.reduceMul], by simp only [*, go_sem, Nat.reduceEqDiff, Nat.reduceAdd, Nat.reduceLeDiff, Int.reduceEq, Int.reduceLT, Int.reduceLE, Int.reduceAdd, Int.reduceSub, Int.reduceMul, Int.reduceNeg, Int.reduceToNat, Nat.reduceMul] <;> rfl, by simp only [*, go_sem, Nat.reduceEqDiff, Nat.reduceAdd, Nat.reduceLeDiff, Int.reduceEq, Int.reduceLT, Int.reduceLE, Int.reduceAdd, Int.reduceSub, Int.reduceMul, Int.reduceNeg, Int.reduceToNat, Nat.reduceMul] <;> rfl, by simp only [*, go_sem, Nat.reduceEqDiff, Nat.reduceAdd, Nat.reduceLeDiff, Int.reduceEq, Int.reduceLT, Int.reduceLE, Int.reduceAdd, Int.reduceSub, Int.reduceMul, Int.reduceNeg, Int.reduceToNat, Nat.reduceMul] <;> rfl, by simp only [go_sem, Nat.reduceEqDiff, Nat.reduceAdd, Nat.reduceLeDiff, Int.reduceEq, Int.reduceLT, Int.reduceLE, Int.reduceAdd, Int.reduceSub, Int.reduceMul, Int.reduceNeg, Int.reduceToNat, Nat.reduceMul] <;> rfl⟩
  all_goals
    rintro m f H' ⟨rfl, q, o, rfl, hq, ho, f1, f3, f7, f8, f9, f22, f23, f24⟩
    by_cases hlt : (q : Int) < (M : Int)
    · have hq2 : q < M := by omega
      have ho2 : o = headL n ++ sealQ a (headL n) 0 t q := by rcases ho with h | h; exact h.2; exact absurd h.1 (by omega)
      have hsq := sealQ_len (a := a) (h := headL n) (part := 0) (R := t) q
      have hMb : M ≤ 1025 := by rw [hM]; unfold nW; omega
      have hol : o.length ≤ 2000000 := by rw [ho2, List.length_append, headL_len hn]; omega
      have w1 := w64 (x := (q : Int) + 1) (by omega) (by omega)
      have w2 := w64 (x := (M : Int) - 1) (by omega) (by omega)
      have hbl := blk_len (sz := 1024) (l := t) (i := q)
      have hb8 : (be8 (q : Int)).length = 8 := be8_len
      have hl20 := headL_len hn
      have hv76 := fun X => v76 (tbl := tbl) F.h102 F.h103 F.h76 n hn (q : Int) X
      have hv77 := fun X => v77 (tbl := tbl) F.h102 F.h77 (q : Int) X
      have hxe := fun b : Bool => extraL_len (h := headL n) (i := (q : Int)) (last := b)
      have hv25 := fun (b : Bool) X => v25 R a (nonceL n q) (extraL (headL n) q b) (blk 1024 t q) ha (nonceL_len hn) (by rw [hxe b]; omega) (by omega) X
      have hx0 : tx (headL n ++ be8 (q : Int) ++ [0]) = tx (extraL (headL n) q false) := rfl
      have hx1 : tx (headL n ++ be8 (q : Int) ++ [1]) = tx (extraL (headL n) q true) := rfl
      have t0 : (⟨#[0]⟩ : ByteArray) = tx [0] := rfl
      have t1 : (⟨#[1]⟩ : ByteArray) = tx [1] := rfl
      have hss := fun b : Bool => sealL_len (k := a) (n := nonceL n q) (e := extraL (headL n) q b) (t := blk 1024 t q)
      simp only [f1, f3, f7, f8, f9, f22, f23, f24, hlt, go_sem, Nat.reduceEqDiff, Nat.reduceAdd, Nat.reduceLeDiff, Int.reduceEq, Int.reduceLT, Int.reduceLE, Int.reduceAdd, Int.reduceSub, Int.reduceMul, Int.reduceNeg, Int.reduceToNat, Nat.reduceMul]
      refine hsl.at_ hq2 fun p hp1 hp2 => ?_
      rw [strs_at hq2] at hp2
      by_cases hlast : (q : Int) = (M : Int) - 1
      · have hz : o.length + (sealL a (nonceL n q) (extraL (headL n) q true) (blk 1024 t q)).length ≤ 9223372036854775807 := by rw [hss]; omega
        have hlt2 : ((q : Int) = (M : Int) - 1) = True := eq_true hlast
        have hqn : q = nW t.length := by omega
        have hfin : o ++ sealL a (nonceL n q) (extraL (headL n) q true) (blk 1024 t q) = fileL a n t := by rw [fileL_eq, ho2, hqn]
        clear hlast
        simp only [f1, f3, f7, f8, f9, f22, f23, f24, hp2, w1, w2, hlt2, ↓(hv76 _).run, ↓(hv77 _).run, ↓(hv25 _ _).run, tx_size, tx_cat, hl20, hb8, t0, t1, hx0, hx1, hz, List.length_append, List.length_cons, List.length_nil, hg, loneP_some, str_p1, hfin, go_sem, Nat.reduceEqDiff, Nat.reduceAdd, Nat.reduceLeDiff, Int.reduceEq, Int.reduceLT, Int.reduceLE, Int.reduceAdd, Int.reduceSub, Int.reduceMul, Int.reduceNeg, Int.reduceToNat, Nat.reduceMul]
        exact ⟨M - (q + 1), by omega, rfl, q + 1, fileL a n t, by omega, by omega, .inr ⟨by omega, rfl⟩, by simp only [f1, go_sem, Nat.reduceEqDiff, Nat.reduceAdd, Nat.reduceLeDiff, Int.reduceEq, Int.reduceLT, Int.reduceLE, Int.reduceAdd, Int.reduceSub, Int.reduceMul, Int.reduceNeg, Int.reduceToNat, Nat.reduceMul], by simp only [f3, go_sem, Nat.reduceEqDiff, Nat.reduceAdd, Nat.reduceLeDiff, Int.reduceEq, Int.reduceLT, Int.reduceLE, Int.reduceAdd, Int.reduceSub, Int.reduceMul, Int.reduceNeg, Int.reduceToNat, Nat.reduceMul], by simp only [f7, go_sem, Nat.reduceEqDiff, Nat.reduceAdd, Nat.reduceLeDiff, Int.reduceEq, Int.reduceLT, Int.reduceLE, Int.reduceAdd, Int.reduceSub, Int.reduceMul, Int.reduceNeg, Int.reduceToNat, Nat.reduceMul], by simp only [go_sem, Nat.reduceEqDiff, Nat.reduceAdd, Nat.reduceLeDiff, Int.reduceEq, Int.reduceLT, Int.reduceLE, Int.reduceAdd, Int.reduceSub, Int.reduceMul, Int.reduceNeg, Int.reduceToNat, Nat.reduceMul], by simp only [f9, go_sem, Nat.reduceEqDiff, Nat.reduceAdd, Nat.reduceLeDiff, Int.reduceEq, Int.reduceLT, Int.reduceLE, Int.reduceAdd, Int.reduceSub, Int.reduceMul, Int.reduceNeg, Int.reduceToNat, Nat.reduceMul], by simp only [f22, go_sem, Nat.reduceEqDiff, Nat.reduceAdd, Nat.reduceLeDiff, Int.reduceEq, Int.reduceLT, Int.reduceLE, Int.reduceAdd, Int.reduceSub, Int.reduceMul, Int.reduceNeg, Int.reduceToNat, Nat.reduceMul], by simp only [f23, go_sem, Nat.reduceEqDiff, Nat.reduceAdd, Nat.reduceLeDiff, Int.reduceEq, Int.reduceLT, Int.reduceLE, Int.reduceAdd, Int.reduceSub, Int.reduceMul, Int.reduceNeg, Int.reduceToNat, Nat.reduceMul], by simp only [go_sem, Nat.reduceEqDiff, Nat.reduceAdd, Nat.reduceLeDiff, Int.reduceEq, Int.reduceLT, Int.reduceLE, Int.reduceAdd, Int.reduceSub, Int.reduceMul, Int.reduceNeg, Int.reduceToNat, Nat.reduceMul] <;> rfl⟩
      · have hz : o.length + (sealL a (nonceL n q) (extraL (headL n) q false) (blk 1024 t q)).length ≤ 9223372036854775807 := by rw [hss]; omega
        have hnx : o ++ sealL a (nonceL n q) (extraL (headL n) q false) (blk 1024 t q) = headL n ++ sealQ a (headL n) 0 t (q + 1) := by rw [ho2, sealQ_head, headL_drop, Int.zero_add, List.append_assoc]
        simp only [f1, f3, f7, f8, f9, f22, f23, f24, hp2, w1, w2, hlast, ↓(hv76 _).run, ↓(hv77 _).run, ↓(hv25 _ _).run, tx_size, tx_cat, hl20, hb8, t0, t1, hx0, hx1, hz, List.length_append, List.length_cons, List.length_nil, hg, loneP_some, str_p1, hnx, go_sem, Nat.reduceEqDiff, Nat.reduceAdd, Nat.reduceLeDiff, Int.reduceEq, Int.reduceLT, Int.reduceLE, Int.reduceAdd, Int.reduceSub, Int.reduceMul, Int.reduceNeg, Int.reduceToNat, Nat.reduceMul]
        exact ⟨M - (q + 1), by omega, rfl, q + 1, _, by omega, by omega, .inl ⟨by omega, rfl⟩, by simp only [f1, go_sem, Nat.reduceEqDiff, Nat.reduceAdd, Nat.reduceLeDiff, Int.reduceEq, Int.reduceLT, Int.reduceLE, Int.reduceAdd, Int.reduceSub, Int.reduceMul, Int.reduceNeg, Int.reduceToNat, Nat.reduceMul], by simp only [f3, go_sem, Nat.reduceEqDiff, Nat.reduceAdd, Nat.reduceLeDiff, Int.reduceEq, Int.reduceLT, Int.reduceLE, Int.reduceAdd, Int.reduceSub, Int.reduceMul, Int.reduceNeg, Int.reduceToNat, Nat.reduceMul], by simp only [f7, go_sem, Nat.reduceEqDiff, Nat.reduceAdd, Nat.reduceLeDiff, Int.reduceEq, Int.reduceLT, Int.reduceLE, Int.reduceAdd, Int.reduceSub, Int.reduceMul, Int.reduceNeg, Int.reduceToNat, Nat.reduceMul], by simp only [go_sem, Nat.reduceEqDiff, Nat.reduceAdd, Nat.reduceLeDiff, Int.reduceEq, Int.reduceLT, Int.reduceLE, Int.reduceAdd, Int.reduceSub, Int.reduceMul, Int.reduceNeg, Int.reduceToNat, Nat.reduceMul], by simp only [f9, go_sem, Nat.reduceEqDiff, Nat.reduceAdd, Nat.reduceLeDiff, Int.reduceEq, Int.reduceLT, Int.reduceLE, Int.reduceAdd, Int.reduceSub, Int.reduceMul, Int.reduceNeg, Int.reduceToNat, Nat.reduceMul], by simp only [f22, go_sem, Nat.reduceEqDiff, Nat.reduceAdd, Nat.reduceLeDiff, Int.reduceEq, Int.reduceLT, Int.reduceLE, Int.reduceAdd, Int.reduceSub, Int.reduceMul, Int.reduceNeg, Int.reduceToNat, Nat.reduceMul], by simp only [f23, go_sem, Nat.reduceEqDiff, Nat.reduceAdd, Nat.reduceLeDiff, Int.reduceEq, Int.reduceLT, Int.reduceLE, Int.reduceAdd, Int.reduceSub, Int.reduceMul, Int.reduceNeg, Int.reduceToNat, Nat.reduceMul], by simp only [go_sem, Nat.reduceEqDiff, Nat.reduceAdd, Nat.reduceLeDiff, Int.reduceEq, Int.reduceLT, Int.reduceLE, Int.reduceAdd, Int.reduceSub, Int.reduceMul, Int.reduceNeg, Int.reduceToNat, Nat.reduceMul] <;> rfl⟩
    · have ho3 : o = fileL a n t := by rcases ho with h | h; exact absurd h.1 (by omega); exact h.2
      rw [ho3] at f8
      simp only [f1, f3, f7, f8, f9, f22, f23, f24, hlt, go_sem, Nat.reduceEqDiff, Nat.reduceAdd, Nat.reduceLeDiff, Int.reduceEq, Int.reduceLT, Int.reduceLE, Int.reduceAdd, Int.reduceSub, Int.reduceMul, Int.reduceNeg, Int.reduceToNat, Nat.reduceMul]
      rw [back_p3 (by rw [hlow]; omega) rfl]
      exact hQ
end Go.Proofs.Ytildhljhbbhmmaa.AM
namespace Go.Proofs.Ytildhljhbbhmmaa.AM
open Go
set_option linter.all false
set_option maxRecDepth 10000

/-- Parts that are opened one by one, with any marks of the last one. -/
def openG (a h : List UInt8) (first : Int) (fl : Nat → Bool) (bl : List UInt8) : Nat → Option (List UInt8)
  | 0 => some []
  | q + 1 => match openG a h first fl bl q with
    | some out => if tagOk a (nonceL (h.drop 8) (first + q)) (extraL h (first + q) (fl q)) (blk 1040 bl q) then some (out ++ bodyL a (nonceL (h.drop 8) (first + q)) (blk 1040 bl q)) else none
    | none => none
theorem openQ_G {a h : List UInt8} {size first : Int} {bl : List UInt8} : ∀ q, openQ a h size first bl q = openG a h first (fun q => decide (first + q = PP size - 1)) bl q := by
  intro q
  induction q with
  | zero => rfl
  | succ q ih =>
    simp only [openQ, openG, ih] <;> (cases openG a h first (fun q => decide (first + ↑q = PP size - 1)) bl q <;> rfl)
theorem openG_succ {a h : List UInt8} {first : Int} {fl : Nat → Bool} {bl v : List UInt8} {q : Nat} (ho : openG a h first fl bl (q + 1) = some v) : ∃ out, openG a h first fl bl q = some out ∧ tagOk a (nonceL (h.drop 8) (first + q)) (extraL h (first + q) (fl q)) (blk 1040 bl q) ∧ v = out ++ bodyL a (nonceL (h.drop 8) (first + q)) (blk 1040 bl q) := by
  simp only [openG] at ho
  split at ho
  · rename_i out h1
    split at ho
    · rename_i h2
      simp only [Option.some.injEq] at ho
      exact ⟨out, h1, h2, ho.symm⟩
    · simp at ho
  · simp at ho
theorem bodyL_len {k n t : List UInt8} : (bodyL k n t).length = t.length - 16 := by
  rw [bodyL, streamL_len, List.length_take]; omega
theorem sealQ_append {a h : List UInt8} {part : Int} {R x : List UInt8} : ∀ {q}, 1024 * q ≤ R.length → sealQ a h part (R ++ x) q = sealQ a h part R q := by
  intro q
  induction q with
  | zero => intro _; rfl
  | succ q ih =>
    intro hq
    have hb : blk 1024 (R ++ x) q = blk 1024 R q := by
      unfold blk
      rw [List.drop_append_of_le_length (by omega), List.take_append_of_le_length (by rw [List.length_drop]; omega)]
    rw [sealQ, sealQ, ih (by omega), hb]
theorem take_blk {sz : Nat} {l : List UInt8} {q : Nat} : l.take (sz * q) ++ blk sz l q = l.take (sz * (q + 1)) := by
  unfold blk
  rw [Nat.mul_succ, List.take_add]
theorem open_full {a h : List UInt8} {fl : Nat → Bool} {bl : List UInt8} : ∀ {q out}, openG a h 0 fl bl q = some out → 1040 * q ≤ bl.length → (∀ j, j < q → fl j = false) → out.length = 1024 * q ∧ ∀ x, sealQ a h 0 (out ++ x) q = bl.take (1040 * q) := by
  intro q
  induction q with
  | zero =>
    intro out ho _ _
    simp only [openG, Option.some.injEq] at ho
    subst ho
    exact ⟨rfl, fun x => by simp [sealQ]⟩
  | succ q ih =>
    intro v ho hl hf
    obtain ⟨out, h1, h2, rfl⟩ := openG_succ ho
    obtain ⟨i1, i2⟩ := ih h1 (by omega) fun j hj => hf j (by omega)
    have hbl : (blk 1040 bl q).length = 1040 := by rw [blk_len]; omega
    have hbo : (bodyL a (nonceL (h.drop 8) ((0 : Int) + q)) (blk 1040 bl q)).length = 1024 := by rw [bodyL_len, hbl]
    refine ⟨by rw [List.length_append, i1, hbo]; omega, fun x => ?_⟩
    rw [hf q (by omega)] at h2
    rw [sealQ, List.append_assoc, i2]
    have hb : blk 1024 (out ++ (bodyL a (nonceL (h.drop 8) ((0 : Int) + q)) (blk 1040 bl q) ++ x)) q = bodyL a (nonceL (h.drop 8) ((0 : Int) + q)) (blk 1040 bl q) := by
      unfold blk
      rw [← i1, List.drop_left]
      unfold blk at hbo
      rw [← hbo, List.take_left]
    rw [hb, (seal_body (by omega)).2 h2]
    exact take_blk
theorem file_of_open {a h n : List UInt8} {fl : Nat → Bool} {bl v : List UInt8} {m : Nat} (hh : h = headL n) (ho : openG a h 0 fl bl (m + 1) = some v) (h1 : 1040 * m + 16 ≤ bl.length) (h2 : bl.length ≤ 1040 * (m + 1)) (h3 : m = 0 ∨ 1040 * m + 17 ≤ bl.length) (hf : ∀ j, j < m → fl j = false) (hl : fl m = true) : v.length = bl.length - 16 * (m + 1) ∧ fileL a n v = h ++ bl := by
  obtain ⟨out, g1, g2, rfl⟩ := openG_succ ho
  obtain ⟨i1, i2⟩ := open_full g1 (by omega) hf
  have hbl : (blk 1040 bl m).length = bl.length - 1040 * m := by rw [blk_len]; omega
  have hbe : blk 1040 bl m = bl.drop (1040 * m) := by unfold blk; exact List.take_of_length_le (by rw [List.length_drop]; omega)
  have hvl : (out ++ bodyL a (nonceL (h.drop 8) ((0 : Int) + m)) (blk 1040 bl m)).length = bl.length - 16 * (m + 1) := by
    rw [List.length_append, bodyL_len, i1, hbl]; omega
  refine ⟨hvl, ?_⟩
  have hnw : nW (out ++ bodyL a (nonceL (h.drop 8) ((0 : Int) + m)) (blk 1040 bl m)).length = m := by rw [hvl]; unfold nW; omega
  rw [fileL_eq, hnw, ← hh, i2]
  have hb : blk 1024 (out ++ bodyL a (nonceL (h.drop 8) ((0 : Int) + m)) (blk 1040 bl m)) m = bodyL a (nonceL (h.drop 8) ((0 : Int) + m)) (blk 1040 bl m) := by
    unfold blk
    rw [← i1, List.drop_left]
    refine List.take_of_length_le ?_
    have := bodyL_len (k := a) (n := nonceL (h.drop 8) ((0 : Int) + m)) (t := blk 1040 bl m)
    unfold blk at this
    rw [this]
    unfold blk at hbl
    rw [hbl]
    omega
  have hn : n = h.drop 8 := by rw [hh, headL_drop]
  rw [hl, Int.zero_add] at g2
  rw [Int.zero_add] at hb
  rw [Int.zero_add, hb, hn, (seal_body (by omega)).2 g2, hbe, List.append_assoc, List.take_append_drop]
theorem sealQ_full {a h : List UInt8} {part : Int} {R : List UInt8} : ∀ {q}, 1024 * q ≤ R.length → (sealQ a h part R q).length = 1040 * q := by
  intro q
  induction q with
  | zero => intro _; rfl
  | succ q ih => intro hq; rw [sealQ, List.length_append, sealL_len, ih (by omega), blk_len]; omega
theorem sealQ_take {a h : List UInt8} {part : Int} {R : List UInt8} {m : Nat} : ∀ {q}, q ≤ m → 1024 * m ≤ R.length → (sealQ a h part R m).take (1040 * q) = sealQ a h part R q := by
  intro q hq hm
  induction m with
  | zero => have : q = 0 := by omega
            subst this; simp [sealQ]
  | succ m ih =>
    by_cases he : q = m + 1
    · subst he
      rw [List.take_of_length_le]
      rw [sealQ_full hm]; exact Nat.le_refl _
    · rw [sealQ, List.take_append_of_le_length (by rw [sealQ_full (by omega)]; omega), ih (by omega) (by omega)]
/-- What was sealed is opened. -/
theorem open_seal {a h : List UInt8} {fl : Nat → Bool} {R x : List UInt8} {m : Nat} (hm : 1024 * m ≤ R.length) : ∀ {q}, q ≤ m → (∀ j, j < q → fl j = false) → openG a h 0 fl (sealQ a h 0 R m ++ x) q = some (R.take (1024 * q)) := by
  intro q
  induction q with
  | zero => intro _ _; simp [openG]
  | succ q ih =>
    intro hq hf
    have hfull := sealQ_full (a := a) (h := h) (part := 0) hm
    have hb : blk 1040 (sealQ a h 0 R m ++ x) q = sealL a (nonceL (h.drop 8) ((0 : Int) + q)) (extraL h ((0 : Int) + q) false) (blk 1024 R q) := by
      have e1 : blk 1040 (sealQ a h 0 R m ++ x) q = ((sealQ a h 0 R m).take (1040 * (q + 1))).drop (1040 * q) := by
        unfold blk
        rw [List.drop_append_of_le_length (by omega), List.take_append_of_le_length (by rw [List.length_drop]; omega), List.drop_take, show 1040 * (q + 1) - 1040 * q = 1040 by omega]
      rw [e1, sealQ_take hq hm, sealQ, List.drop_left' (sealQ_full (by omega))]
    have ht := tagOk_seal (k := a) (n := nonceL (h.drop 8) ((0 : Int) + q)) (e := extraL h ((0 : Int) + q) false) (t := blk 1024 R q)
    simp only [openG, ih (by omega) fun j hj => hf j (by omega), hf q (by omega), hb, ht.1, ht.2, if_true]
    rw [take_blk]
theorem open_file {a h : List UInt8} {fl : Nat → Bool} {R bl : List UInt8} {m : Nat} (hm : 1024 * m ≤ R.length) (hR : R.length ≤ 1024 * (m + 1)) (hf : ∀ j, j < m → fl j = false) (hl : fl m = true) (hbl : bl = sealQ a h 0 R m ++ sealL a (nonceL (h.drop 8) m) (extraL h m true) (R.drop (1024 * m))) : openG a h 0 fl bl (m + 1) = some R := by
  have hfull := sealQ_full (a := a) (h := h) (part := 0) hm
  have ht := tagOk_seal (k := a) (n := nonceL (h.drop 8) ((0 : Int) + m)) (e := extraL h ((0 : Int) + m) true) (t := R.drop (1024 * m))
  have hb : blk 1040 bl m = sealL a (nonceL (h.drop 8) ((0 : Int) + m)) (extraL h ((0 : Int) + m) true) (R.drop (1024 * m)) := by
    rw [hbl, Int.zero_add]
    unfold blk
    rw [List.drop_left' hfull, List.take_of_length_le]
    rw [sealL_len, List.length_drop]; omega
  have ho := open_seal (a := a) (h := h) (fl := fl) (x := sealL a (nonceL (h.drop 8) m) (extraL h m true) (R.drop (1024 * m))) hm (Nat.le_refl m) hf
  rw [← hbl] at ho
  simp only [openG, ho, hl, hb, ht.1, ht.2, if_true]
  rw [List.take_append_drop]
end Go.Proofs.Ytildhljhbbhmmaa.AM
namespace Go.Proofs.Ytildhljhbbhmmaa.AM
open Go
set_option linter.all false
set_option maxRecDepth 10000

/-- The reference's mark of the last block. -/
def flR (n : Nat) (q : Nat) : Bool := decide (n ≤ 1040 * (q + 1))
/-- What the reference opens. -/
def refO (a s : List UInt8) : Option (List UInt8) := if 36 ≤ s.length ∧ s.take 8 = markL then openG a (s.take 20) 0 (flR (s.length - 20)) (s.drop 20) (blkN 1040 (s.length - 20)) else none
def refT (a s : List UInt8) : List UInt8 := (refO a s).getD []
def refB (a s : List UInt8) : Bool := match refO a s with
  | some out => decide (fileL a ((s.drop 8).take 12) out = s ∧ out.length ≤ 1048576)
  | none => false
theorem PP_nat {n : Nat} : PP (n : Int) = (nW n + 1 : Nat) := by unfold PP nW; split <;> omega
theorem LL_nat {n : Nat} : LL (n : Int) = (20 + n + 16 * (nW n + 1) : Nat) := by unfold LL; rw [PP_nat]; omega
theorem fileL_length {a n R : List UInt8} (hn : n.length = 12) : (fileL a n R).length = 20 + R.length + 16 * (nW R.length + 1) := by
  have hm : 1024 * nW R.length ≤ R.length := by unfold nW; omega
  have hr : R.length ≤ 1024 * (nW R.length + 1) := by unfold nW; omega
  rw [fileL_eq, List.length_append, List.length_append, headL_len hn, sealQ_full hm, sealL_len, blk_last, List.length_drop]
  omega
theorem fileL_head {a n R : List UInt8} (hn : n.length = 12) : (fileL a n R).take 20 = headL n ∧ (fileL a n R).drop 20 = sealQ a (headL n) 0 R (nW R.length) ++ sealL a (nonceL ((headL n).drop 8) (nW R.length)) (extraL (headL n) (nW R.length) true) (R.drop (1024 * nW R.length)) := by
  have h := headL_len hn
  rw [fileL_eq, headL_drop, ← blk_last, List.append_assoc]
  exact ⟨by rw [← h, List.take_left], by rw [← h, List.drop_left]⟩
theorem head_mark {n : List UInt8} (hn : n.length = 12) : (headL n).take 8 = markL ∧ (headL n).length = 20 := ⟨by rw [headL]; exact List.take_left (l₁ := markL), headL_len hn⟩
/-- What was sealed is opened. -/
theorem openF_file {a n R : List UInt8} (hn : n.length = 12) (hR : R.length ≤ 1048576) : openF a (fileL a n R) = some R := by
  have hl := fileL_length (a := a) (R := R) hn
  obtain ⟨hg, hz⟩ := good_of (s := (R.length : Int)) (n := ((fileL a n R).length : Int)) (by omega) (by omega) (by rw [LL_nat, hl])
  obtain ⟨e1, e2⟩ := fileL_head (a := a) (R := R) hn
  obtain ⟨g1, g2⟩ := head_mark hn
  have hm : 1024 * nW R.length ≤ R.length := by unfold nW; omega
  have hr : R.length ≤ 1024 * (nW R.length + 1) := by unfold nW; omega
  unfold openF
  rw [if_pos hg, hz, e1]
  unfold openP
  rw [if_pos ⟨g2, g1⟩, openQ_G, PP_nat]
  have hbl : blkN 1040 ((fileL a n R).drop 20).length = nW R.length + 1 := by rw [List.length_drop, hl]; unfold blkN nW; omega
  rw [hbl]
  exact open_file hm hr (fun j hj => by simp only [decide_eq_false_iff_not]; omega) (by simp only [decide_eq_true_eq]; omega) e2
theorem refO_file {a n R : List UInt8} (hn : n.length = 12) : refO a (fileL a n R) = some R := by
  have hl := fileL_length (a := a) (R := R) hn
  obtain ⟨e1, e2⟩ := fileL_head (a := a) (R := R) hn
  obtain ⟨g1, g2⟩ := head_mark hn
  have hm : 1024 * nW R.length ≤ R.length := by unfold nW; omega
  have hr : R.length ≤ 1024 * (nW R.length + 1) := by unfold nW; omega
  have h8 : (fileL a n R).take 8 = markL := by rw [← g1, ← e1, List.take_take]; rfl
  unfold refO
  rw [if_pos ⟨by omega, h8⟩, e1]
  have hbl : blkN 1040 ((fileL a n R).length - 20) = nW R.length + 1 := by rw [hl]; unfold blkN nW; omega
  rw [hbl]
  have hlen : (fileL a n R).length - 20 = R.length + 16 * (nW R.length + 1) := by omega
  rw [hlen]
  refine open_file hm hr (fun j hj => ?_) ?_ e2
  · unfold flR; simp only [decide_eq_false_iff_not]; unfold nW at *; omega
  · unfold flR; simp only [decide_eq_true_eq]; unfold nW at *; omega
theorem head20 {s : List UInt8} (h : 20 ≤ s.length) (hm : s.take 8 = markL) : s.take 20 = headL ((s.drop 8).take 12) ∧ ((s.drop 8).take 12).length = 12 := by
  refine ⟨?_, by rw [List.length_take, List.length_drop]; omega⟩
  rw [headL, ← hm, ← List.take_add]
/-- The two of them open the same. -/
theorem open_iff {a s : List UInt8} {v : List UInt8} : openF a s = some v ↔ refB a s = true ∧ refT a s = v := by
  constructor
  · intro ho
    unfold openF at ho
    split at ho
    case isFalse => simp at ho
    rename_i hg
    obtain ⟨g1, g2, g3, g4, g5⟩ := hg
    obtain ⟨z, hz⟩ : ∃ z : Nat, sz (s.length : Int) = z := ⟨(sz s.length).toNat, by omega⟩
    rw [hz] at ho g4 g5
    rw [LL_nat] at g5
    have hl : s.length = 20 + z + 16 * (nW z + 1) := by omega
    unfold openP at ho
    split at ho
    case isFalse => simp at ho
    rename_i hh
    have hmk : s.take 8 = markL := by rw [← hh.2, List.take_take]; rfl
    obtain ⟨hd, hdl⟩ := head20 (by omega) hmk
    rw [openQ_G, PP_nat] at ho
    have hbl : blkN 1040 (s.drop 20).length = nW z + 1 := by rw [List.length_drop, hl]; unfold blkN nW; omega
    rw [hbl] at ho
    have hdr : (s.drop 20).length = z + 16 * (nW z + 1) := by rw [List.length_drop]; omega
    have hf := file_of_open (n := (s.drop 8).take 12) hd ho (by rw [hdr]; unfold nW; omega) (by rw [hdr]; unfold nW; omega) (by rw [hdr]; unfold nW; omega) (fun j hj => by simp only [decide_eq_false_iff_not]; omega) (by simp only [decide_eq_true_eq]; omega)
    have hfs : fileL a ((s.drop 8).take 12) v = s := by rw [hf.2, List.take_append_drop]
    have hr := refO_file (a := a) (n := (s.drop 8).take 12) (R := v) hdl
    rw [hfs] at hr
    unfold refB refT
    rw [hr]
    refine ⟨?_, rfl⟩
    simp only [decide_eq_true_eq]
    exact ⟨hfs, by rw [hf.1, hdr]; omega⟩
  · rintro ⟨h1, h2⟩
    unfold refB at h1
    unfold refT at h2
    cases hr : refO a s with
    | none => rw [hr] at h1; simp at h1
    | some out =>
      rw [hr] at h1 h2
      simp only [decide_eq_true_eq] at h1
      simp only [Option.getD_some] at h2
      subst h2
      have hmk : 36 ≤ s.length ∧ s.take 8 = markL := by
        unfold refO at hr
        split at hr
        · rename_i h; exact h
        · simp at hr
      obtain ⟨hd, hdl⟩ := head20 (by omega) hmk.2
      have := openF_file (a := a) (R := out) hdl h1.2
      rw [h1.1] at this
      exact this
theorem open_none {a s : List UInt8} : openF a s = none ↔ refB a s = false := by
  constructor
  · intro h
    cases hb : refB a s with
    | false => rfl
    | true =>
      have := open_iff.2 ⟨hb, rfl⟩
      rw [h] at this
      simp at this
  · intro h
    cases ho : openF a s with
    | none => rfl
    | some v =>
      have := (open_iff.1 ho).1
      rw [h] at this
      simp at this
end Go.Proofs.Ytildhljhbbhmmaa.AM
namespace Go.Proofs.Ytildhljhbbhmmaa.AM
open Go
set_option linter.all false
set_option maxRecDepth 10000
variable {tbl : Tbl} [hT : TMono tbl]

theorem openG_len {a h : List UInt8} {first : Int} {fl : Nat → Bool} {bl : List UInt8} : ∀ {q : Nat} {out : List UInt8}, openG a h first fl bl q = some out → out.length ≤ 1040 * q := by
  intro q
  induction q with
  | zero => intro out ho; simp only [openG, Option.some.injEq] at ho; subst ho; simp
  | succ q ih =>
    intro v ho
    obtain ⟨out, h1, h2, rfl⟩ := openG_succ ho
    have := ih h1
    have h3 := blk_len (sz := 1040) (l := bl) (i := q)
    rw [List.length_append, bodyL_len]
    omega
theorem openG_none {a h : List UInt8} {first : Int} {fl : Nat → Bool} {bl : List UInt8} {q : Nat} (hq : openG a h first fl bl q = none) : ∀ r, q ≤ r → openG a h first fl bl r = none := by
  intro r hr
  induction r with
  | zero => have : q = 0 := by omega
            subst this; exact hq
  | succ r ih =>
    by_cases he : q = r + 1
    · rw [← he]; exact hq
    · simp only [openG, ih (by omega)]
theorem refT_len {a s : List UInt8} (hs : s.length ≤ 1000000) : (refT a s).length ≤ 1048576 := by
  unfold refT
  cases hr : refO a s with
  | none => simp
  | some out =>
    unfold refO at hr
    split at hr
    · have := openG_len hr
      unfold blkN at this
      simp only [Option.getD_some]
      omega
    · simp at hr
set_option maxHeartbeats 1000000 in
theorem v43 (R : RefT tbl) (F : FRefT tbl) (h26 : tbl 26 = some (.code m26)) (h43 : tbl 43 = some (.code m43)) (a b c s : List UInt8) (ha : a.length = 32) (hs : s.length ≤ 1000000) (H : AH) : Val tbl 43 [keysV a b c, .string (tx s)] H (.tuple #[.string (tx (refT a s)), .bool (refB a s)]) H := by
  have hm : (⟨#[87, 72, 83, 69, 65, 76, 48, 49]⟩ : ByteArray) = tx markL := rfl
  have ht0 : (⟨#[]⟩ : ByteArray) = tx [] := rfl
  have e36 : ((s.length : Int) < 36) ↔ s.length < 36 := by omega
  refine Val.of_all fun Q hQ => ?_
  rw [rn_fun h43, k43]
  by_cases h36 : s.length < 36
  · have hr : refO a s = none := by unfold refO; rw [if_neg fun h => by omega]
    unfold refB refT at hQ
    rw [hr] at hQ
    simp only [keysV, tx_size, e36, h36, go_sem, Nat.reduceEqDiff, Nat.reduceAdd, Nat.reduceLeDiff, Int.reduceEq, Int.reduceLT, Int.reduceLE, Int.reduceAdd, Int.reduceSub, Int.reduceMul, Int.reduceNeg, Int.reduceToNat, Nat.reduceMul]
    exact hQ
  · have hx : (tx s).extract 0 8 = tx (s.take 8) := by rw [tx_extract]; rfl
    have l8 : 8 ≤ s.length := by omega
    have l8i : (8 : Int) ≤ s.length := by omega
    by_cases hmk : s.take 8 = markL
    · obtain ⟨hd, hdl⟩ := head20 (by omega) hmk
      have hx2 : (tx s).extract 8 20 = tx ((s.drop 8).take 12) := by rw [tx_extract, List.drop_take]
      have hx3 : (tx s).extract 20 s.length = tx (s.drop 20) := by rw [tx_extract, List.take_length]
      have hx4 : (tx s).extract 0 20 = tx (s.take 20) := by rw [tx_extract]; rfl
      have l20 : (20 : Int) ≤ s.length := by omega
      have l20n : (20 : Nat) ≤ s.length := by omega
      have hro : refO a s = openG a (s.take 20) 0 (flR (s.length - 20)) (s.drop 20) (blkN 1040 (s.length - 20)) := by unfold refO; rw [if_pos ⟨by omega, hmk⟩]
      obtain ⟨X, hX⟩ : ∃ X, X = H.enter.push ⟨[.string (tx a), .string (tx b), .string (tx c)], 1, false⟩ := ⟨_, rfl⟩
      have hXg : X.get H.next = some ⟨[.string (tx a), .string (tx b), .string (tx c)], 1, false⟩ := by rw [hX]; exact AH.get_push_eq H.enter _
      have hXl : X.low = H.next := by rw [hX, lw_push, lw_enter]
      obtain ⟨N, hN⟩ : ∃ N, N = blkN 1040 (s.length - 20) := ⟨_, rfl⟩
      have hNb : 1 ≤ N ∧ N ≤ 1000 ∧ 1040 * (N - 1) < s.length - 20 ∧ s.length - 20 ≤ 1040 * N := by rw [hN]; unfold blkN; omega
      obtain ⟨n, hn⟩ : ∃ n, n = (s.drop 8).take 12 := ⟨_, rfl⟩
      have hdn : (s.take 20).drop 8 = n := by rw [hd, headL_drop, hn]
      rw [← hn] at hdl hx2
      rw [← hN] at hro
      have hrb : ∀ out, refO a s = some out → refB a s = decide (fileL a n out = s ∧ out.length ≤ 1048576) ∧ refT a s = out := fun out ho => by unfold refB refT; rw [ho, hn]; exact ⟨rfl, rfl⟩
      obtain ⟨h, hh⟩ : ∃ h, h = s.take 20 := ⟨_, rfl⟩
      have hhl : h.length = 20 := by rw [hh, List.length_take]; omega
      obtain ⟨bl, hbl⟩ : ∃ bl, bl = s.drop 20 := ⟨_, rfl⟩
      have hbll : bl.length = s.length - 20 := by rw [hbl, List.length_drop]
      rw [← hh, ← hbl] at hro
      rw [← hh] at hx4 hdn
      rw [← hbl] at hx3
      simp only [keysV, tx_size, e36, h36, hx, hx2, hx3, l8, l8i, l20, l20n, hm, hmk, tx_inj, ← hX, go_sem, Nat.reduceEqDiff, Nat.reduceAdd, Nat.reduceLeDiff, Int.reduceEq, Int.reduceLT, Int.reduceLE, Int.reduceAdd, Int.reduceSub, Int.reduceMul, Int.reduceNeg, Int.reduceToNat, Nat.reduceMul]
      clear hx2 hx3 hh hbl hd hmk hx hn hX hN
      refine rn_loop (tbl := tbl) (fun m f H' => H' = X ∧ ∃ (q : Nat) (out : List UInt8), m = N - q ∧ q ≤ N ∧ openG a h 0 (flR (s.length - 20)) bl q = some out ∧ f 1 = .string (tx s) ∧ f 2 = .pointer (some ⟨H.next, 0, none⟩) ∧ f 6 = .string (tx n) ∧ f 7 = .string (tx out) ∧ f 8 = .string (tx (bl.drop (1040 * q))) ∧ f 9 = .int .i64 q) ?_ (n := N)
        ⟨rfl, 0, [], by omega, by omega, rfl, by simp only [go_sem, Nat.reduceEqDiff, Nat.reduceAdd, Nat.reduceLeDiff, Int.reduceEq, Int.reduceLT, Int.reduceLE, Int.reduceAdd, Int.reduceSub, Int.reduceMul, Int.reduceNeg, Int.reduceToNat, Nat.reduceMul], by simp only [go_sem, Nat.reduceEqDiff, Nat.reduceAdd, Nat.reduceLeDiff, Int.reduceEq, Int.reduceLT, Int.reduceLE, Int.reduceAdd, Int.reduceSub, Int.reduceMul, Int.reduceNeg, Int.reduceToNat, Nat.reduceMul], by simp only [go_sem, Nat.reduceEqDiff, Nat.reduceAdd, Nat.reduceLeDiff, Int.reduceEq, Int.reduceLT, Int.reduceLE, Int.reduceAdd, Int.reduceSub, Int.reduceMul, Int.reduceNeg, Int.reduceToNat, Nat.reduceMul], by simp only [go_sem, Nat.reduceEqDiff, Nat.reduceAdd, Nat.reduceLeDiff, Int.reduceEq, Int.reduceLT, Int.reduceLE, Int.reduceAdd, Int.reduceSub, Int.reduceMul, Int.reduceNeg, Int.reduceToNat, Nat.reduceMul] <;> rfl, by simp only [go_sem, Nat.reduceEqDiff, Nat.reduceAdd, Nat.reduceLeDiff, Int.reduceEq, Int.reduceLT, Int.reduceLE, Int.reduceAdd, Int.reduceSub, Int.reduceMul, Int.reduceNeg, Int.reduceToNat, Nat.reduceMul] <;> rfl, by simp only [go_sem, Nat.reduceEqDiff, Nat.reduceAdd, Nat.reduceLeDiff, Int.reduceEq, Int.reduceLT, Int.reduceLE, Int.reduceAdd, Int.reduceSub, Int.reduceMul, Int.reduceNeg, Int.reduceToNat, Nat.reduceMul] <;> rfl⟩
      rintro m f H' ⟨rfl, q, out, rfl, hq, ho, f1, f2, f6, f7, f8, f9⟩
      obtain ⟨d, hd⟩ : ∃ d, d = bl.drop (1040 * q) := ⟨_, rfl⟩
      have hdlen : d.length = s.length - 20 - 1040 * q := by rw [hd, List.length_drop, hbll]
      by_cases hlt : q < N
      · have hne : ¬ d = [] := fun h => by rw [h] at hdlen; simp at hdlen; omega
        obtain ⟨k, hk⟩ : ∃ k, k = min 1040 d.length := ⟨_, rfl⟩
        have hmin : (if (1040 : Int) < d.length then (1040 : Int) else d.length) = k := by split <;> omega
        have hmin2 : (if ((d.length : Nat) : Int) < (1040 : Int) then ((d.length : Nat) : Int) else (1040 : Int)) = (k : Int) := by split <;> omega
        have k0 : (0 : Int) ≤ k := by omega
        have k1 : k ≤ d.length := by omega
        have k1i : (k : Int) ≤ d.length := by omega
        have hblk : (tx d).extract 0 k = tx (blk 1040 bl q) := by
          rw [tx_extract, List.drop_zero, blk, ← hd]
          by_cases hc : 1040 ≤ d.length
          · rw [show k = 1040 by omega]
          · rw [List.take_of_length_le (by omega), List.take_of_length_le (by omega)]
        have hnext : (tx d).extract k d.length = tx (bl.drop (1040 * (q + 1))) := by
          rw [tx_extract, List.take_length]
          by_cases hc : 1040 ≤ d.length
          · rw [show k = 1040 by omega, hd, List.drop_drop]; congr 2
          · rw [List.drop_of_length_le (by omega), List.drop_of_length_le (by omega)]
        have hfl : ((k : Int) = d.length) ↔ flR (s.length - 20) q = true := by unfold flR; simp only [decide_eq_true_eq]; omega
        have hbk : (blk 1040 bl q).length ≤ 1040 := by rw [blk_len]; omega
        have hol := openG_len ho
        rw [← hd] at f8
        clear hd
        have hb8 : (be8 (q : Int)).length = 8 := be8_len
        have w1 := w64 (x := (q : Int) + 1) (by omega) (by omega)
        have hv76 := fun X => v76 (tbl := tbl) F.h102 F.h103 F.h76 n hdl (q : Int) X
        have hv77 := fun X => v77 (tbl := tbl) F.h102 F.h77 (q : Int) X
        have hxe := fun b : Bool => extraL_len (h := h) (i := (q : Int)) (last := b)
        have hv26 := fun (b : Bool) X => v26 R h26 a (nonceL n q) (extraL h q b) (blk 1040 bl q) ha (nonceL_len hdl) (by rw [hxe b]; omega) (by omega) X
        have hx0 : tx (h ++ be8 (q : Int) ++ [0]) = tx (extraL h q false) := rfl
        have hx1 : tx (h ++ be8 (q : Int) ++ [1]) = tx (extraL h q true) := rfl
        have t0 : (⟨#[0]⟩ : ByteArray) = tx [0] := rfl
        have t1 : (⟨#[1]⟩ : ByteArray) = tx [1] := rfl
        have hz : out.length + (bodyL a (nonceL n q) (blk 1040 bl q)).length ≤ 9223372036854775807 := by rw [bodyL_len]; omega
        cases hflv : flR (s.length - 20) q with
        | true =>
          have hlast : ((k : Int) = d.length) = True := eq_true (hfl.2 hflv)
          by_cases hg : tagOk a (nonceL n q) (extraL h q true) (blk 1040 bl q)
          · have hv := fun X => hv26 true X
            simp only [hg, hg.1, if_true] at hv
            have hgo : openG a h 0 (flR (s.length - 20)) bl (q + 1) = some (out ++ bodyL a (nonceL n q) (blk 1040 bl q)) := by
              simp only [openG, ho, hflv, hdn, Int.zero_add]
              rw [if_pos hg]
            simp only [f1, f2, f6, f7, f8, f9, tx_size, ht0, tx_inj, hne, hmin, hmin2, hlast, hXg, hx4, l20, l20n, k0, k1, k1i, Int.toNat_natCast, hblk, hnext, w1, ↓(hv76 _).run, ↓(hv77 _).run, ↓(hv _).run, tx_cat, hhl, hb8, t0, t1, hx0, hx1, hz, List.length_append, List.length_cons, List.length_nil, loneP_some, str_p1, go_sem, Nat.reduceEqDiff, Nat.reduceAdd, Nat.reduceLeDiff, Int.reduceEq, Int.reduceLT, Int.reduceLE, Int.reduceAdd, Int.reduceSub, Int.reduceMul, Int.reduceNeg, Int.reduceToNat, Nat.reduceMul]
            exact ⟨N - (q + 1), by omega, rfl, q + 1, _, by omega, by omega, hgo, by simp only [f1, go_sem, Nat.reduceEqDiff, Nat.reduceAdd, Nat.reduceLeDiff, Int.reduceEq, Int.reduceLT, Int.reduceLE, Int.reduceAdd, Int.reduceSub, Int.reduceMul, Int.reduceNeg, Int.reduceToNat, Nat.reduceMul], by simp only [f2, go_sem, Nat.reduceEqDiff, Nat.reduceAdd, Nat.reduceLeDiff, Int.reduceEq, Int.reduceLT, Int.reduceLE, Int.reduceAdd, Int.reduceSub, Int.reduceMul, Int.reduceNeg, Int.reduceToNat, Nat.reduceMul], by simp only [f6, go_sem, Nat.reduceEqDiff, Nat.reduceAdd, Nat.reduceLeDiff, Int.reduceEq, Int.reduceLT, Int.reduceLE, Int.reduceAdd, Int.reduceSub, Int.reduceMul, Int.reduceNeg, Int.reduceToNat, Nat.reduceMul], by simp only [go_sem, Nat.reduceEqDiff, Nat.reduceAdd, Nat.reduceLeDiff, Int.reduceEq, Int.reduceLT, Int.reduceLE, Int.reduceAdd, Int.reduceSub, Int.reduceMul, Int.reduceNeg, Int.reduceToNat, Nat.reduceMul], by simp only [go_sem, Nat.reduceEqDiff, Nat.reduceAdd, Nat.reduceLeDiff, Int.reduceEq, Int.reduceLT, Int.reduceLE, Int.reduceAdd, Int.reduceSub, Int.reduceMul, Int.reduceNeg, Int.reduceToNat, Nat.reduceMul], by simp only [go_sem, Nat.reduceEqDiff, Nat.reduceAdd, Nat.reduceLeDiff, Int.reduceEq, Int.reduceLT, Int.reduceLE, Int.reduceAdd, Int.reduceSub, Int.reduceMul, Int.reduceNeg, Int.reduceToNat, Nat.reduceMul] <;> rfl⟩
          · have hv := fun X => hv26 true X
            simp only [hg, if_false] at hv
            have hgo : openG a h 0 (flR (s.length - 20)) bl (q + 1) = none := by
              simp only [openG, ho, hflv, hdn, Int.zero_add]
              rw [if_neg hg]
            have hr : refO a s = none := by rw [hro]; exact openG_none hgo N (by omega)
            unfold refB refT at hQ
            rw [hr] at hQ
            simp only [f1, f2, f6, f7, f8, f9, tx_size, ht0, tx_inj, hne, hmin, hmin2, hlast, hXg, hx4, l20, l20n, k0, k1, k1i, Int.toNat_natCast, hblk, hnext, w1, ↓(hv76 _).run, ↓(hv77 _).run, ↓(hv _).run, tx_cat, hhl, hb8, t0, t1, hx0, hx1, hz, List.length_append, List.length_cons, List.length_nil, loneP_some, str_p1, go_sem, Nat.reduceEqDiff, Nat.reduceAdd, Nat.reduceLeDiff, Int.reduceEq, Int.reduceLT, Int.reduceLE, Int.reduceAdd, Int.reduceSub, Int.reduceMul, Int.reduceNeg, Int.reduceToNat, Nat.reduceMul]
            rw [back_p3 (by show ¬ H'.low < H.next; omega) rfl]
            exact hQ
        | false =>
          have hlast : ((k : Int) = d.length) = False := eq_false fun h => by rw [hfl.1 h] at hflv; simp at hflv
          by_cases hg : tagOk a (nonceL n q) (extraL h q false) (blk 1040 bl q)
          · have hv := fun X => hv26 false X
            simp only [hg, hg.1, if_true] at hv
            have hgo : openG a h 0 (flR (s.length - 20)) bl (q + 1) = some (out ++ bodyL a (nonceL n q) (blk 1040 bl q)) := by
              simp only [openG, ho, hflv, hdn, Int.zero_add]
              rw [if_pos hg]
            simp only [f1, f2, f6, f7, f8, f9, tx_size, ht0, tx_inj, hne, hmin, hmin2, hlast, hXg, hx4, l20, l20n, k0, k1, k1i, Int.toNat_natCast, hblk, hnext, w1, ↓(hv76 _).run, ↓(hv77 _).run, ↓(hv _).run, tx_cat, hhl, hb8, t0, t1, hx0, hx1, hz, List.length_append, List.length_cons, List.length_nil, loneP_some, str_p1, go_sem, Nat.reduceEqDiff, Nat.reduceAdd, Nat.reduceLeDiff, Int.reduceEq, Int.reduceLT, Int.reduceLE, Int.reduceAdd, Int.reduceSub, Int.reduceMul, Int.reduceNeg, Int.reduceToNat, Nat.reduceMul]
            exact ⟨N - (q + 1), by omega, rfl, q + 1, _, by omega, by omega, hgo, by simp only [f1, go_sem, Nat.reduceEqDiff, Nat.reduceAdd, Nat.reduceLeDiff, Int.reduceEq, Int.reduceLT, Int.reduceLE, Int.reduceAdd, Int.reduceSub, Int.reduceMul, Int.reduceNeg, Int.reduceToNat, Nat.reduceMul], by simp only [f2, go_sem, Nat.reduceEqDiff, Nat.reduceAdd, Nat.reduceLeDiff, Int.reduceEq, Int.reduceLT, Int.reduceLE, Int.reduceAdd, Int.reduceSub, Int.reduceMul, Int.reduceNeg, Int.reduceToNat, Nat.reduceMul], by simp only [f6, go_sem, Nat.reduceEqDiff, Nat.reduceAdd, Nat.reduceLeDiff, Int.reduceEq, Int.reduceLT, Int.reduceLE, Int.reduceAdd, Int.reduceSub, Int.reduceMul, Int.reduceNeg, Int.reduceToNat, Nat.reduceMul], by simp only [go_sem, Nat.reduceEqDiff, Nat.reduceAdd, Nat.reduceLeDiff, Int.reduceEq, Int.reduceLT, Int.reduceLE, Int.reduceAdd, Int.reduceSub, Int.reduceMul, Int.reduceNeg, Int.reduceToNat, Nat.reduceMul], by simp only [go_sem, Nat.reduceEqDiff, Nat.reduceAdd, Nat.reduceLeDiff, Int.reduceEq, Int.reduceLT, Int.reduceLE, Int.reduceAdd, Int.reduceSub, Int.reduceMul, Int.reduceNeg, Int.reduceToNat, Nat.reduceMul], by simp only [go_sem, Nat.reduceEqDiff, Nat.reduceAdd, Nat.reduceLeDiff, Int.reduceEq, Int.reduceLT, Int.reduceLE, Int.reduceAdd, Int.reduceSub, Int.reduceMul, Int.reduceNeg, Int.reduceToNat, Nat.reduceMul] <;> rfl⟩
          · have hv := fun X => hv26 false X
            simp only [hg, if_false] at hv
            have hgo : openG a h 0 (flR (s.length - 20)) bl (q + 1) = none := by
              simp only [openG, ho, hflv, hdn, Int.zero_add]
              rw [if_neg hg]
            have hr : refO a s = none := by rw [hro]; exact openG_none hgo N (by omega)
            unfold refB refT at hQ
            rw [hr] at hQ
            simp only [f1, f2, f6, f7, f8, f9, tx_size, ht0, tx_inj, hne, hmin, hmin2, hlast, hXg, hx4, l20, l20n, k0, k1, k1i, Int.toNat_natCast, hblk, hnext, w1, ↓(hv76 _).run, ↓(hv77 _).run, ↓(hv _).run, tx_cat, hhl, hb8, t0, t1, hx0, hx1, hz, List.length_append, List.length_cons, List.length_nil, loneP_some, str_p1, go_sem, Nat.reduceEqDiff, Nat.reduceAdd, Nat.reduceLeDiff, Int.reduceEq, Int.reduceLT, Int.reduceLE, Int.reduceAdd, Int.reduceSub, Int.reduceMul, Int.reduceNeg, Int.reduceToNat, Nat.reduceMul]
            rw [back_p3 (by show ¬ H'.low < H.next; omega) rfl]
            exact hQ
      · have hqN : q = N := by omega
        have hde : d = [] := List.eq_nil_of_length_eq_zero (by omega)
        rw [← hd, hde] at f8
        have hq0 : ¬ (q : Int) = 0 := by omega
        rw [hqN] at ho
        obtain ⟨r1, r2⟩ := hrb out (by rw [hro]; exact ho)
        have hol := openG_len ho
        have hv41 := fun X => v41 R F a b c n out ha hdl (by omega) X
        have hl : ((out.length : Int) ≤ 1048576) = True := eq_true (by omega)
        rw [r1, r2] at hQ
        by_cases hfin : fileL a n out = s
        · rw [decide_eq_true ⟨hfin, by omega⟩] at hQ
          simp only [keysV] at hv41
          simp only [f1, f2, f6, f7, f8, f9, tx_size, ht0, tx_inj, hq0, hXg, ↓(hv41 _).run, hfin, hl, go_sem, Nat.reduceEqDiff, Nat.reduceAdd, Nat.reduceLeDiff, Int.reduceEq, Int.reduceLT, Int.reduceLE, Int.reduceAdd, Int.reduceSub, Int.reduceMul, Int.reduceNeg, Int.reduceToNat, Nat.reduceMul]
          rw [back_p3 (by show ¬ H'.low < H.next; omega) rfl]
          exact hQ
        · rw [decide_eq_false fun h => hfin h.1] at hQ
          simp only [keysV] at hv41
          simp only [f1, f2, f6, f7, f8, f9, tx_size, ht0, tx_inj, hq0, hXg, ↓(hv41 _).run, hfin, hl, go_sem, Nat.reduceEqDiff, Nat.reduceAdd, Nat.reduceLeDiff, Int.reduceEq, Int.reduceLT, Int.reduceLE, Int.reduceAdd, Int.reduceSub, Int.reduceMul, Int.reduceNeg, Int.reduceToNat, Nat.reduceMul]
          rw [back_p3 (by show ¬ H'.low < H.next; omega) rfl]
          exact hQ
    · have hr : refO a s = none := by unfold refO; rw [if_neg fun h => hmk h.2]
      unfold refB refT at hQ
      rw [hr] at hQ
      simp only [keysV, tx_size, e36, h36, hx, l8, l8i, hm, tx_inj, hmk, go_sem, Nat.reduceEqDiff, Nat.reduceAdd, Nat.reduceLeDiff, Int.reduceEq, Int.reduceLT, Int.reduceLE, Int.reduceAdd, Int.reduceSub, Int.reduceMul, Int.reduceNeg, Int.reduceToNat, Nat.reduceMul]
      exact hQ
end Go.Proofs.Ytildhljhbbhmmaa.AM
namespace Go.Proofs.Ytildhljhbbhmmaa.AM
open Go
set_option linter.all false
set_option maxRecDepth 10000
variable {tbl : Tbl} [hT : TMono tbl]

structure FileT (tbl : Tbl) : Prop where
  sl : SealerT tbl
  op : OpenT tbl
  rf : FRefT tbl
  h26 : tbl 26 = some (.code m26)
  h27 : tbl 27 = some (.code m27)
  h40 : tbl 40 = some (.code m40)
  h43 : tbl 43 = some (.code m43)
theorem fileL_small {a n R : List UInt8} (hn : n.length = 12) (hR : R.length ≤ 10000) : (fileL a n R).length ≤ 1000000 := by
  rw [fileL_length hn]; unfold nW; omega
set_option maxHeartbeats 1000000 in
theorem v9 (T : SealT tbl) (R : RefT tbl) (F : FileT tbl) (h42 : tbl 42 = some (.code m42)) (h9 : tbl 9 = some (.code m9)) (a b c a2 b2 c2 n n2 t : List UInt8) (H : AH) :
    Val tbl 9 [keysV a b c, keysV a2 b2 c2, .string (tx n), .string (tx n2), .string (tx t)] H (.bool true) H := by
  refine Val.of_all fun Q hQ => ?_
  rw [rn_fun h9, k9]
  have a17 := v17 T
  have a22 := v22 (tbl := tbl) R.h22 t
  have a40 := fun X => v40 (tbl := tbl) F.h40 a b c X
  have a40' := fun X => v40 (tbl := tbl) F.h40 a2 b2 c2 X
  have a21 := v21b (tbl := tbl) R.h21
  simp only [keysV] at a40 a40'
  have q1 : ¬ H.next = H.next + 1 + 1 := by omega
  have q2 : ¬ H.next + 1 = H.next + 1 + 1 := by omega
  have q3 : ¬ H.next = H.next + 1 := by omega
  have e12 : ((n.length : Int) = 12) ↔ n.length = 12 := by omega
  have e12' : ((n2.length : Int) = 12) ↔ n2.length = 12 := by omega
  by_cases ht : t.length ≤ 10000
  · by_cases hk : keysW a b c = 0
    · by_cases hn : n.length = 12
      · have ha := keys32 hk
        have b41 := fun X => v41 R F.rf a b c n t ha hn (by omega) X
        obtain ⟨s, hs⟩ : ∃ s, s = fileL a n t := ⟨_, rfl⟩
        have hsl : s.length ≤ 1000000 := by rw [hs]; exact fileL_small hn ht
        have hop : openF a s = some t := by rw [hs]; exact openF_file hn (by omega)
        rw [← hs] at b41
        have b42 := fun X => v42 F.sl F.op h42 a b c a2 b2 c2 n2 s X
        simp only [hk, ne_eq, not_true, if_false, afterO, hop] at b42
        obtain ⟨W, hW⟩ : ∃ W, W = firstL [keysW a2 b2 c2, if ¬ n2.length = 12 then 6 else 0] := ⟨_, rfl⟩
        have hW' : firstL [keysW a2 b2 c2, if (!decide (n2.length = 12)) = true then 6 else 0] = W := by
          rw [hW]
          have : ((!decide (n2.length = 12)) = true) ↔ ¬ n2.length = 12 := by rw [Bool.not_eq_true', decide_eq_false_iff_not]
          simp only [this]
        have hsr : sealR a2 b2 c2 n2 t = if W = 0 then .tuple #[.string (tx (fileL a2 n2 t)), .int .i64 0] else .tuple #[.string ⟨#[]⟩, .int .i64 W] := by
          rw [hW]
          unfold sealR
          by_cases h1 : keysW a2 b2 c2 = 0
          · by_cases h2 : n2.length = 12
            · simp only [h1, h2, firstL, ne_eq, not_true, if_false, if_true]; rw [if_neg (by omega)]
            · simp only [h1, h2, firstL, ne_eq, not_true, not_false_eq_true, if_false, if_true]; rfl
          · simp only [h1, firstL, ne_eq, not_false_eq_true, if_true, if_false]
        rw [hsr] at b42
        have b192 := fun A B x y => v19_2 (tbl := tbl) R.h19 ((H.enter.push A).push B) x y
        simp only [AH.next_push, nx_enter] at b192
        simp only [keysV] at b41 b42
        by_cases hW0 : W = 0
        · rw [if_pos hW0] at b42
          have hkb : keysW a2 b2 c2 = 0 ∧ n2.length = 12 := by
            rw [hW] at hW0
            by_cases h1 : keysW a2 b2 c2 = 0
            · by_cases h2 : n2.length = 12
              · exact ⟨h1, h2⟩
              · simp only [h1, h2, firstL, not_false_eq_true, if_true] at hW0; exact absurd hW0 (by decide)
            · simp only [firstL, if_neg h1] at hW0; exact absurd hW0 h1
          have ha2 := keys32 hkb.1
          have d41 := fun X => v41 R F.rf a2 b2 c2 n2 t ha2 hkb.2 (by omega) X
          have d43 := fun X => v43 R F.rf F.h26 F.h43 a2 b2 c2 s ha2 hsl X
          have hrl := refT_len (a := a2) hsl
          have f41 := fun X => v41 R F.rf a b c n (refT a2 s) ha hn hrl X
          have d42 := fun X => v42 F.sl F.op h42 a2 b2 c2 a b c n s X
          simp only [hkb.1, ne_eq, not_true, if_false] at d42
          obtain ⟨u, e, hue, hfin⟩ : ∃ u e, afterO a2 s (sealR a b c n) = .tuple #[.string (tx u), .int .i64 e] ∧ (if refB a2 s = true then decide (u = fileL a n (refT a2 s) ∧ e = 0) else decide (u = [] ∧ e = 19)) = true := by
            unfold afterO
            cases ho : openF a2 s with
            | none =>
              refine ⟨[], 19, rfl, ?_⟩
              rw [open_none.1 ho]
              simp
            | some v =>
              obtain ⟨g1, g2⟩ := open_iff.1 ho
              refine ⟨fileL a n v, 0, ?_, ?_⟩
              · simp only [sealR, hk, hn, ne_eq, not_true, if_false]
                rw [g2] at hrl
                rw [if_neg (by omega)]
              · rw [g1, g2]; simp
          rw [hue] at d42
          have d27 := fun X => v27 (tbl := tbl) F.h27 u (fileL a n (refT a2 s)) e (refB a2 s) X
          rw [hfin] at d27
          simp only [keysV] at d41 d42 d43 f41
          simp only [keysV, ↓(a17 _).run, ↓(a22 _).run, ↓(a40 _).run, ↓(a40' _).run, hk, hn, ht, tx_size, e12, ↓(b41 _).run, ↓(b42 _).run, ↓(a21 _ _ _).run, e12', ↓(b192 _ _ _ _).run, go_sem, Nat.reduceEqDiff, Nat.reduceAdd, Nat.reduceLeDiff, Int.reduceEq, Int.reduceLT, Int.reduceLE, Int.reduceAdd, Int.reduceSub, Int.reduceMul, Int.reduceNeg, Int.reduceToNat, Nat.reduceMul]
          simp only [hW', hW0, q1, q2, q3, tx_inj, ↓(d41 _).run, ↓(d42 _).run, ↓(d43 _).run, ↓(f41 _).run, ↓(d27 _).run, go_sem, Nat.reduceEqDiff, Nat.reduceAdd, Nat.reduceLeDiff, Int.reduceEq, Int.reduceLT, Int.reduceLE, Int.reduceAdd, Int.reduceSub, Int.reduceMul, Int.reduceNeg, Int.reduceToNat, Nat.reduceMul]
          exact hQ
        · rw [if_neg hW0] at b42
          simp only [keysV, ↓(a17 _).run, ↓(a22 _).run, ↓(a40 _).run, ↓(a40' _).run, hk, hn, ht, tx_size, e12, ↓(b41 _).run, ↓(b42 _).run, ↓(a21 _ _ _).run, e12', ↓(b192 _ _ _ _).run, go_sem, Nat.reduceEqDiff, Nat.reduceAdd, Nat.reduceLeDiff, Int.reduceEq, Int.reduceLT, Int.reduceLE, Int.reduceAdd, Int.reduceSub, Int.reduceMul, Int.reduceNeg, Int.reduceToNat, Nat.reduceMul]
          simp only [hW', hW0, go_sem, Nat.reduceEqDiff, Nat.reduceAdd, Nat.reduceLeDiff, Int.reduceEq, Int.reduceLT, Int.reduceLE, Int.reduceAdd, Int.reduceSub, Int.reduceMul, Int.reduceNeg, Int.reduceToNat, Nat.reduceMul]
          exact hQ
      · simp only [keysV, ↓(a17 _).run, ↓(a22 _).run, ↓(a40 _).run, hk, hn, ht, tx_size, e12, go_sem, Nat.reduceEqDiff, Nat.reduceAdd, Nat.reduceLeDiff, Int.reduceEq, Int.reduceLT, Int.reduceLE, Int.reduceAdd, Int.reduceSub, Int.reduceMul, Int.reduceNeg, Int.reduceToNat, Nat.reduceMul]
        exact hQ
    · simp only [keysV, ↓(a17 _).run, ↓(a22 _).run, ↓(a40 _).run, hk, ht, go_sem, Nat.reduceEqDiff, Nat.reduceAdd, Nat.reduceLeDiff, Int.reduceEq, Int.reduceLT, Int.reduceLE, Int.reduceAdd, Int.reduceSub, Int.reduceMul, Int.reduceNeg, Int.reduceToNat, Nat.reduceMul]
      exact hQ
  · simp only [keysV, ↓(a17 _).run, ↓(a22 _).run, ht, go_sem, Nat.reduceEqDiff, Nat.reduceAdd, Nat.reduceLeDiff, Int.reduceEq, Int.reduceLT, Int.reduceLE, Int.reduceAdd, Int.reduceSub, Int.reduceMul, Int.reduceNeg, Int.reduceToNat, Nat.reduceMul]
    exact hQ
end Go.Proofs.Ytildhljhbbhmmaa.AM
/- Arguments of laws that are structs of texts. -/
namespace Go.Proofs.Ytildhljhbbhmmaa.AM
open Go Go.RowKit Go.ChangeShapes Go.WideShapes Go.ChangeAt
set_option linter.all false

theorem row_strs {P : Program} {w : World} {r : Reach} {b : Nat} {t u : TypeId} {n : Nat} {cs : Array Value} (hc : P.cellTypes P.depth t = some (List.replicate n u)) (hu : P.underlying u = some .string) (h : Row.okWide P w r b t cs) :
    ∃ l : List ByteArray, cs = (l.map Value.string).toArray := by
  obtain ⟨ts, hts, ⟨m, hm⟩, hcell⟩ := h
  rw [hc] at hts
  obtain rfl := Option.some.inj hts
  have key : ∀ vs : List Value, (∀ v ∈ vs, ∃ x, v = .string x) → ∃ l : List ByteArray, vs = l.map Value.string := by
    intro vs
    induction vs with
    | nil => intro _; exact ⟨[], rfl⟩
    | cons v vs ih =>
      intro hv
      obtain ⟨x, rfl⟩ := hv v (by simp)
      obtain ⟨l, rfl⟩ := ih fun y hy => hv y (by simp [hy])
      exact ⟨x :: l, rfl⟩
  obtain ⟨l, hl⟩ := key cs.toList (fun v hv => by
    obtain ⟨i, hi⟩ := List.getElem?_of_mem hv
    obtain ⟨u', hu', hok⟩ := hcell i v (by simpa using hi)
    have : u' = u := by
      have := List.mem_of_getElem? hu'
      exact (List.mem_replicate.1 this).2
    subst this
    obtain ⟨x, hx, _⟩ := cell_str hu hok
    exact ⟨x, hx⟩)
  exact ⟨l, by rw [← hl]⟩
theorem val_keys {P : Program} {w : World} {r : Reach} {b : Nat} {t u : TypeId} {fs : Array Field} {v : Value} (ht : P.underlying t = some (.struct fs)) (hc : P.cellTypes P.depth t = some (List.replicate 3 u)) (hn : P.cellsOf t = 3) (hu : P.underlying u = some .string) (h : Value.okWide P w r b t v) :
    ∃ x y z : ByteArray, v = .agg #[.string x, .string y, .string z] := by
  unfold Value.okWide at h
  rw [ht] at h
  obtain ⟨cs, rfl, hsz, hrow⟩ := h
  obtain ⟨l, rfl⟩ := row_strs hc hu hrow
  rw [hn] at hsz
  have hl : l.length = 3 := by simpa using hsz
  match l, hl with
  | [x, y, z], _ => exact ⟨x, y, z, rfl⟩
end Go.Proofs.Ytildhljhbbhmmaa.AM
namespace Go.Proofs.Ytildhljhbbhmmaa.AM
open Go
set_option linter.all false
set_option maxRecDepth 10000
variable {tbl : Tbl} [hT : TMono tbl]

/-- Which bytes of a sealed file are needed. -/
def ndL (z : Nat) : Nat := 20 + z + 16 * (nW z + 1)
def ndA (f : Nat) : Nat := 20 + f / 1024 * 1040
def ndE (z f m : Nat) : Nat := min (20 + ((f + min m (z - f) - 1) / 1024 + 1) * 1040) (ndL z)
def ndP (z f m : Nat) : Prop := f < z ∧ 0 < m
instance {z f m : Nat} : Decidable (ndP z f m) := by unfold ndP; infer_instance
def ndAt (z f m : Nat) : Nat := if ndP z f m then ndA f else 0
def ndN (z f m : Nat) : Nat := if ndP z f m then ndE z f m - ndA f else 0
theorem nd_le {z f m : Nat} (h : ndP z f m) : ndA f + 17 ≤ ndE z f m ∧ ndE z f m ≤ ndL z := by
  obtain ⟨h1, h2⟩ := h
  unfold ndA ndE ndL nW
  omega
theorem tdivN {x : Nat} {k : Nat} : ((x : Int)).tdiv (k : Int) = ((x / k : Nat) : Int) := by
  rw [Int.tdiv_eq_ediv_of_nonneg (by omega)]; rfl
theorem v53_bad (h86 : tbl 86 = some (.code m86)) (h54 : tbl 54 = some (.code m54)) (h53 : tbl 53 = some (.code m53)) (z f m : Int) (h : z < 0 ∨ 1048576 < z ∨ f < 0 ∨ m < 0) (H : AH) : Val tbl 53 [.int .i64 z, .int .i64 f, .int .i64 m] H (.tuple #[.int .i64 0, .int .i64 0, .int .i64 7]) H := by
  refine Val.of_all fun Q hQ => ?_
  rw [rn_fun h53, k53]
  by_cases h1 : z < 0
  · simp only [h1, go_sem, Nat.reduceEqDiff, Nat.reduceAdd, Nat.reduceLeDiff, Int.reduceEq, Int.reduceLT, Int.reduceLE, Int.reduceAdd, Int.reduceSub, Int.reduceMul, Int.reduceNeg, Int.reduceToNat, Nat.reduceMul]; exact hQ
  · by_cases h2 : 1048576 < z
    · simp only [h1, h2, go_sem, Nat.reduceEqDiff, Nat.reduceAdd, Nat.reduceLeDiff, Int.reduceEq, Int.reduceLT, Int.reduceLE, Int.reduceAdd, Int.reduceSub, Int.reduceMul, Int.reduceNeg, Int.reduceToNat, Nat.reduceMul]; exact hQ
    · by_cases h3 : f < 0
      · simp only [h1, h2, h3, go_sem, Nat.reduceEqDiff, Nat.reduceAdd, Nat.reduceLeDiff, Int.reduceEq, Int.reduceLT, Int.reduceLE, Int.reduceAdd, Int.reduceSub, Int.reduceMul, Int.reduceNeg, Int.reduceToNat, Nat.reduceMul]; exact hQ
      · have h4 : m < 0 := by omega
        simp only [h1, h2, h3, h4, go_sem, Nat.reduceEqDiff, Nat.reduceAdd, Nat.reduceLeDiff, Int.reduceEq, Int.reduceLT, Int.reduceLE, Int.reduceAdd, Int.reduceSub, Int.reduceMul, Int.reduceNeg, Int.reduceToNat, Nat.reduceMul]; exact hQ
theorem v53 (h86 : tbl 86 = some (.code m86)) (h54 : tbl 54 = some (.code m54)) (h53 : tbl 53 = some (.code m53)) (z f m : Nat) (hz : z ≤ 1048576) (hf : f ≤ 9223372036854775807) (hm : m ≤ 9223372036854775807) (H : AH) : Val tbl 53 [.int .i64 z, .int .i64 f, .int .i64 m] H (.tuple #[.int .i64 (ndAt z f m : Nat), .int .i64 (ndN z f m : Nat), .int .i64 0]) H := by
  refine Val.of_all fun Q hQ => ?_
  rw [rn_fun h53, k53]
  have b1 : ¬ (z : Int) < 0 := by omega
  have b2 : ¬ (1048576 : Int) < z := by omega
  have b3 : ¬ (f : Int) < 0 := by omega
  have b4 : ¬ (m : Int) < 0 := by omega
  have w1 := w64 (x := (z : Int) - f) (by omega) (by omega)
  by_cases hp : ndP z f m
  · have hp' := hp
    obtain ⟨p1, p2⟩ := hp'
    obtain ⟨k, hk⟩ : ∃ k, k = min m (z - f) := ⟨_, rfl⟩
    have hmin : (if (z : Int) - f < m then (z : Int) - f else m) = k := by split <;> omega
    have b5 : ¬ (k : Int) ≤ 0 := by omega
    have w2 := w64 (x := (f : Int) + k) (by omega) (by omega)
    have w3 := w64 (x := (f : Int) + k - 1) (by omega) (by omega)
    have d1 : ((f : Int)).tdiv 1024 = ((f / 1024 : Nat) : Int) := tdivN (k := 1024)
    have d2 : ((f : Int) + k - 1).tdiv 1024 = (((f + k - 1) / 1024 : Nat) : Int) := by
      rw [show (f : Int) + k - 1 = ((f + k - 1 : Nat) : Int) by omega]; exact tdivN (k := 1024)
    obtain ⟨x, hx⟩ : ∃ x, x = f / 1024 := ⟨_, rfl⟩
    obtain ⟨y, hy⟩ : ∃ y, y = (f + k - 1) / 1024 := ⟨_, rfl⟩
    rw [← hx] at d1
    rw [← hy] at d2
    have hxb : x ≤ 1024 := by omega
    have hyb : y ≤ 1024 := by omega
    have wx := w64 (x := (x : Int)) (by omega) (by omega)
    have wy := w64 (x := (y : Int)) (by omega) (by omega)
    have w4 := w64 (x := (x : Int) * 1040) (by omega) (by omega)
    have w5 := w64 (x := 20 + (x : Int) * 1040) (by omega) (by omega)
    have w6 := w64 (x := (y : Int) + 1) (by omega) (by omega)
    have w7 := w64 (x := ((y : Int) + 1) * 1040) (by omega) (by omega)
    have w8 := w64 (x := 20 + ((y : Int) + 1) * 1040) (by omega) (by omega)
    have hv := fun X => v54 (tbl := tbl) h86 h54 (s := (z : Int)) (by omega) (by omega) X
    have hL : LL (z : Int) = (ndL z : Nat) := LL_nat
    rw [hL] at hv
    have hlb : ndL z ≤ 2000000 := by unfold ndL nW; omega
    obtain ⟨e, he⟩ : ∃ e, e = ndE z f m := ⟨_, rfl⟩
    have hmin2 : (if ((ndL z : Nat) : Int) < 20 + ((y : Int) + 1) * 1040 then ((ndL z : Nat) : Int) else 20 + ((y : Int) + 1) * 1040) = e := by
      rw [he]; unfold ndE; rw [← hk, ← hy]; split <;> omega
    have heb : e ≤ 2000000 := by rw [he]; unfold ndE; omega
    have w9 := w64 (x := (e : Int) - (20 + (x : Int) * 1040)) (by omega) (by omega)
    have hle := nd_le hp
    have q1 : ((ndAt z f m : Nat) : Int) = 20 + (x : Int) * 1040 := by unfold ndAt ndA; rw [if_pos hp, ← hx]; omega
    have q2 : ((ndN z f m : Nat) : Int) = (e : Int) - (20 + (x : Int) * 1040) := by unfold ndN; rw [if_pos hp, ← he]; unfold ndA at *; omega
    rw [q1, q2] at hQ
    simp only [b1, b2, b3, b4, w1, hmin, b5, w2, w3, d1, d2, wx, wy, w4, w5, w6, w7, w8, ↓(hv _).run, hmin2, w9, go_sem, Nat.reduceEqDiff, Nat.reduceAdd, Nat.reduceLeDiff, Int.reduceEq, Int.reduceLT, Int.reduceLE, Int.reduceAdd, Int.reduceSub, Int.reduceMul, Int.reduceNeg, Int.reduceToNat, Nat.reduceMul]
    exact hQ
  · have q1 : ndAt z f m = 0 := by unfold ndAt; rw [if_neg hp]
    have q2 : ndN z f m = 0 := by unfold ndN; rw [if_neg hp]
    rw [q1, q2] at hQ
    obtain ⟨k, hk⟩ : ∃ k : Int, k = (if (z : Int) - f < m then (z : Int) - f else m) := ⟨_, rfl⟩
    have b5 : k ≤ 0 := by
      rw [hk]
      unfold ndP at hp
      split <;> omega
    simp only [b1, b2, b3, b4, w1, ← hk, b5, go_sem, Nat.reduceEqDiff, Nat.reduceAdd, Nat.reduceLeDiff, Int.reduceEq, Int.reduceLT, Int.reduceLE, Int.reduceAdd, Int.reduceSub, Int.reduceMul, Int.reduceNeg, Int.reduceToNat, Nat.reduceMul]
    exact hQ
theorem v45 (h15 : tbl 15 = some (.code m15)) (h45 : tbl 45 = some (.code m45)) (z f m : Nat) (hz : z ≤ 1048576) (hf : f ≤ 9223372036854775807) (hm : m ≤ 9223372036854775807) (H : AH) : Val tbl 45 [.int .i64 z, .int .i64 f, .int .i64 m] H (.tuple #[.int .i64 (ndAt z f m : Nat), .int .i64 (ndN z f m : Nat)]) H := by
  refine Val.of_all fun Q hQ => ?_
  rw [rn_fun h45, k45]
  have w1 := w64 (x := (z : Int) - f) (by omega) (by omega)
  have c1 : ((z : Int) ≤ f) ↔ z ≤ f := by omega
  by_cases hp : ndP z f m
  · have hp' := hp
    obtain ⟨p1, p2⟩ := hp'
    obtain ⟨t, ht⟩ : ∃ t, t = f + min m (z - f) := ⟨_, rfl⟩
    have n1 : ¬ z ≤ f := by omega
    have n2 : ¬ (t : Int) ≤ f := by omega
    have w3 := w64 (x := (t : Int) - 1) (by omega) (by omega)
    have d1 : ((f : Int)).tdiv 1024 = ((f / 1024 : Nat) : Int) := tdivN (k := 1024)
    have d2 : ((t : Int) - 1).tdiv 1024 = (((t - 1) / 1024 : Nat) : Int) := by
      rw [show (t : Int) - 1 = ((t - 1 : Nat) : Int) by omega]; exact tdivN (k := 1024)
    obtain ⟨x, hx⟩ : ∃ x, x = f / 1024 := ⟨_, rfl⟩
    obtain ⟨y, hy⟩ : ∃ y, y = (t - 1) / 1024 := ⟨_, rfl⟩
    rw [← hx] at d1
    rw [← hy] at d2
    have hxb : x ≤ 1024 := by omega
    have hyb : y ≤ 1024 := by omega
    have wx := w64 (x := (x : Int)) (by omega) (by omega)
    have wy := w64 (x := (y : Int)) (by omega) (by omega)
    have w4 := w64 (x := (x : Int) * 1040) (by omega) (by omega)
    have w5 := w64 (x := 20 + (x : Int) * 1040) (by omega) (by omega)
    have w6 := w64 (x := (y : Int) + 1) (by omega) (by omega)
    have w7 := w64 (x := ((y : Int) + 1) * 1040) (by omega) (by omega)
    have w8 := w64 (x := 20 + ((y : Int) + 1) * 1040) (by omega) (by omega)
    have hv := fun X => v15 (tbl := tbl) h15 (s := (z : Int)) (by omega) (by omega) X
    have hL : LL (z : Int) = (ndL z : Nat) := LL_nat
    rw [hL] at hv
    have hlb : ndL z ≤ 2000000 := by unfold ndL nW; omega
    obtain ⟨e, he⟩ : ∃ e, e = ndE z f m := ⟨_, rfl⟩
    have hmin2 : (if 20 + ((y : Int) + 1) * 1040 < ((ndL z : Nat) : Int) then 20 + ((y : Int) + 1) * 1040 else ((ndL z : Nat) : Int)) = e := by
      rw [he]; unfold ndE; rw [← ht, ← hy]; split <;> omega
    have heb : e ≤ 2000000 := by rw [he]; unfold ndE; omega
    have w9 := w64 (x := (e : Int) - (20 + (x : Int) * 1040)) (by omega) (by omega)
    have hle := nd_le hp
    have q1 : ((ndAt z f m : Nat) : Int) = 20 + (x : Int) * 1040 := by unfold ndAt ndA; rw [if_pos hp, ← hx]; omega
    have q2 : ((ndN z f m : Nat) : Int) = (e : Int) - (20 + (x : Int) * 1040) := by unfold ndN; rw [if_pos hp, ← he]; unfold ndA at *; omega
    rw [q1, q2] at hQ
    by_cases hmm : (m : Int) < (z : Int) - f
    · have ht2 : (f : Int) + m = t := by omega
      have w2 := w64 (x := (t : Int)) (by omega) (by omega)
      simp only [w1, hmm, ht2, w2, c1, n1, n2, w3, d1, d2, wx, wy, w4, w5, w6, w7, w8, ↓(hv _).run, hmin2, w9, go_sem, Nat.reduceEqDiff, Nat.reduceAdd, Nat.reduceLeDiff, Int.reduceEq, Int.reduceLT, Int.reduceLE, Int.reduceAdd, Int.reduceSub, Int.reduceMul, Int.reduceNeg, Int.reduceToNat, Nat.reduceMul]
      exact hQ
    · have ht2 : t = z := by omega
      rw [ht2] at n2 w3 d2
      simp only [w1, hmm, c1, n1, n2, w3, d1, d2, wx, wy, w4, w5, w6, w7, w8, ↓(hv _).run, hmin2, w9, go_sem, Nat.reduceEqDiff, Nat.reduceAdd, Nat.reduceLeDiff, Int.reduceEq, Int.reduceLT, Int.reduceLE, Int.reduceAdd, Int.reduceSub, Int.reduceMul, Int.reduceNeg, Int.reduceToNat, Nat.reduceMul]
      exact hQ
  · have q1 : ndAt z f m = 0 := by unfold ndAt; rw [if_neg hp]
    have q2 : ndN z f m = 0 := by unfold ndN; rw [if_neg hp]
    rw [q1, q2] at hQ
    by_cases hzf : z ≤ f
    · have hmm : ¬ (m : Int) < (z : Int) - f := by omega
      simp only [w1, hmm, c1, hzf, go_sem, Nat.reduceEqDiff, Nat.reduceAdd, Nat.reduceLeDiff, Int.reduceEq, Int.reduceLT, Int.reduceLE, Int.reduceAdd, Int.reduceSub, Int.reduceMul, Int.reduceNeg, Int.reduceToNat, Nat.reduceMul]
      exact hQ
    · have hm0 : m = 0 := by unfold ndP at hp; omega
      have hmm : (m : Int) < (z : Int) - f := by omega
      have ht2 : (f : Int) + m = f := by omega
      have w2 := w64 (x := (f : Int)) (by omega) (by omega)
      have n2 : (f : Int) ≤ f := by omega
      simp only [w1, hmm, ht2, w2, c1, hzf, n2, go_sem, Nat.reduceEqDiff, Nat.reduceAdd, Nat.reduceLeDiff, Int.reduceEq, Int.reduceLT, Int.reduceLE, Int.reduceAdd, Int.reduceSub, Int.reduceMul, Int.reduceNeg, Int.reduceToNat, Nat.reduceMul]
      exact hQ
end Go.Proofs.Ytildhljhbbhmmaa.AM
namespace Go.Proofs.Ytildhljhbbhmmaa.AM
open Go
set_option linter.all false
set_option maxRecDepth 10000
variable {tbl : Tbl} [hT : TMono tbl]

theorem openG_length {a h : List UInt8} {first : Int} {fl : Nat → Bool} {bl : List UInt8} : ∀ {q : Nat} {out : List UInt8}, openG a h first fl bl q = some out → q ≤ blkN 1040 bl.length → out.length + 16 * q = min (1040 * q) bl.length := by
  intro q
  induction q with
  | zero => intro out ho _; simp only [openG, Option.some.injEq] at ho; subst ho; simp
  | succ q ih =>
    intro v ho hq
    obtain ⟨out, h1, h2, rfl⟩ := openG_succ ho
    have := ih h1 (by omega)
    have h3 := blk_len (sz := 1040) (l := bl) (i := q)
    have h4 := h2.1
    rw [List.length_append, bodyL_len]
    unfold blkN at hq
    omega
theorem openG_iff {a h : List UInt8} {first : Int} {fl : Nat → Bool} {bl : List UInt8} : ∀ {q : Nat}, (openG a h first fl bl q).isSome = true ↔ ∀ j, j < q → tagOk a (nonceL (h.drop 8) (first + j)) (extraL h (first + j) (fl j)) (blk 1040 bl j) := by
  intro q
  induction q with
  | zero => simp [openG]
  | succ q ih =>
    constructor
    · intro hs j hj
      obtain ⟨v, hv⟩ := Option.isSome_iff_exists.1 hs
      obtain ⟨out, h1, h2, _⟩ := openG_succ hv
      by_cases he : j = q
      · subst he; exact h2
      · exact ih.1 (by rw [h1]; rfl) j (by omega)
    · intro hall
      obtain ⟨out, ho⟩ := Option.isSome_iff_exists.1 (ih.2 fun j hj => hall j (by omega))
      simp only [openG, ho]
      rw [if_pos (hall q (by omega))]
      rfl
theorem openP_length {a h bl s : List UInt8} {z first : Int} (ho : openP a h z first bl = some s) : s.length + 16 * blkN 1040 bl.length = bl.length := by
  unfold openP at ho
  split at ho
  case isFalse => simp at ho
  rw [openQ_G] at ho
  have := openG_length ho (Nat.le_refl _)
  unfold blkN at *
  omega
/-- What OpenPart answers. -/
def partR (a b c h bl : List UInt8) (z f m : Nat) : Value :=
  if keysW a b c ≠ 0 then .tuple #[.string ⟨#[]⟩, .int .i64 (keysW a b c)] else
  if bl.length ≠ ndN z f m then .tuple #[.string ⟨#[]⟩, .int .i64 19] else
  match openP a h z (f / 1024 : Nat) bl with
  | none => .tuple #[.string ⟨#[]⟩, .int .i64 19]
  | some s => .tuple #[.string (tx ((s.drop (f % 1024)).take m)), .int .i64 0]
structure PartT2 (tbl : Tbl) : Prop where
  h78 : tbl 78 = some (.code m78)
  h86 : tbl 86 = some (.code m86)
  h54 : tbl 54 = some (.code m54)
  h53 : tbl 53 = some (.code m53)
  h79 : tbl 79 = some (.nat natOpen)
  h46 : tbl 46 = some (.code m46)
theorem v46 (S : PartT2 tbl) (a b c h bl : List UInt8) (z f m : Nat) (hz : z ≤ 1048576) (hf : f ≤ 9223372036854775807) (hm : m ≤ 9223372036854775807) (H : AH) :
    Val tbl 46 [keysV a b c, .string (tx h), .string (tx bl), .int .i64 z, .int .i64 f, .int .i64 m] H (partR a b c h bl z f m) H := by
  refine Val.of_all fun Q hQ => ?_
  rw [rn_fun S.h46, k46]
  have hv := fun X => v78 (tbl := tbl) S.h78 a b c X
  have hn := fun X => v53 (tbl := tbl) S.h86 S.h54 S.h53 z f m hz hf hm X
  simp only [keysV] at hv
  unfold partR at hQ
  have ht0 : (⟨#[]⟩ : ByteArray) = tx [] := rfl
  by_cases hk : keysW a b c = 0
  · rw [if_neg (fun h => h hk)] at hQ
    by_cases hl : bl.length = ndN z f m
    · have hp : ndP z f m ∨ bl = [] := by
        by_cases hp : ndP z f m
        · exact .inl hp
        · exact .inr (List.eq_nil_of_length_eq_zero (by rw [hl]; unfold ndN; rw [if_neg hp]))
      have hl1 : ((bl.length : Int) = (ndN z f m : Nat)) = True := eq_true (by omega)
      rw [if_neg (fun h => h hl)] at hQ
      have d1 : ((f : Int)).tdiv 1024 = ((f / 1024 : Nat) : Int) := tdivN (k := 1024)
      obtain ⟨x, hx⟩ : ∃ x, x = f / 1024 := ⟨_, rfl⟩
      have hnn : bl.length ≤ 2000000 := by
        rcases hp with hp | hp
        · rw [hl]; unfold ndN; rw [if_pos hp]
          have := nd_le hp
          unfold ndL nW at this
          omega
        · rw [hp]; simp
      have hfst : (x : Int) ≤ 1000000 ∨ bl = [] := by
        rcases hp with hp | hp
        · have := hp.1; left; omega
        · exact .inr hp
      have hw := fun X => v79 (tbl := tbl) S.h79 a b c h bl (keys32 hk) (size := (z : Int)) (first := (x : Int)) ⟨by omega, by omega⟩ ⟨by omega, hfst⟩ (by omega) X
      simp only [keysV] at hw
      rw [← hx] at d1 hQ
      have wx := w64 (x := (x : Int)) (by omega) (by omega)
      have w1 := w64 (x := (x : Int) * 1024) (by omega) (by omega)
      have w2 := w64 (x := (f : Int) - (x : Int) * 1024) (by omega) (by omega)
      have hfx : (f : Int) - (x : Int) * 1024 = ((f % 1024 : Nat) : Int) := by omega
      cases ho : openP a h z x bl with
      | none =>
        rw [ho] at hQ
        dsimp only at hQ
        simp only [ho, optV] at hw
        simp only [keysV, ↓(hv _).run, ↓(hn _).run, hk, tx_size, hl1, d1, wx, ↓(hw _).run, go_sem, Nat.reduceEqDiff, Nat.reduceAdd, Nat.reduceLeDiff, Int.reduceEq, Int.reduceLT, Int.reduceLE, Int.reduceAdd, Int.reduceSub, Int.reduceMul, Int.reduceNeg, Int.reduceToNat, Nat.reduceMul]
        exact hQ
      | some s =>
        rw [ho] at hQ
        simp only [ho, optV] at hw
        have hsl := openP_length ho
        by_cases hse : s = []
        · subst hse
          simp only [List.drop_nil, List.take_nil] at hQ
          simp only [keysV, ↓(hv _).run, ↓(hn _).run, hk, tx_size, hl1, d1, wx, ↓(hw _).run, ht0, tx_inj, go_sem, Nat.reduceEqDiff, Nat.reduceAdd, Nat.reduceLeDiff, Int.reduceEq, Int.reduceLT, Int.reduceLE, Int.reduceAdd, Int.reduceSub, Int.reduceMul, Int.reduceNeg, Int.reduceToNat, Nat.reduceMul]
          exact hQ
        · obtain ⟨p1, p2⟩ : ndP z f m := by
            rcases hp with hp | hp
            · exact hp
            · rw [hp] at hsl
              have h0 : s.length = 0 := by
                have : ([] : List UInt8).length = 0 := rfl
                omega
              exact absurd (List.eq_nil_of_length_eq_zero h0) hse
          have hge : f % 1024 ≤ s.length := by
            rw [hl] at hsl
            unfold ndN at hsl
            rw [if_pos ⟨p1, p2⟩] at hsl
            have hle := nd_le ⟨p1, p2⟩
            unfold blkN ndE ndA ndL nW at hsl hle
            omega
          obtain ⟨r, hr⟩ : ∃ r, r = f % 1024 := ⟨_, rfl⟩
          rw [← hr] at hfx hge hQ
          dsimp only at hQ
          have wr := w64 (x := (r : Int)) (by omega) (by omega)
          have hr0 : (0 : Int) ≤ r := by omega
          have hri : (r : Int) ≤ s.length := by omega
          have hx1 : (tx s).extract r s.length = tx (s.drop r) := by rw [tx_extract, List.take_length]
          obtain ⟨u, hu⟩ : ∃ u, u = s.drop r := ⟨_, rfl⟩
          have hul : u.length = s.length - r := by rw [hu, List.length_drop]
          rw [← hu] at hx1 hQ
          obtain ⟨k, hk2⟩ : ∃ k, k = min m u.length := ⟨_, rfl⟩
          have hmin : (if (u.length : Int) < m then (u.length : Int) else m) = k := by split <;> omega
          have k0 : (0 : Int) ≤ k := by omega
          have k1 : k ≤ u.length := by omega
          have k1i : (k : Int) ≤ u.length := by omega
          have hx2 : (tx u).extract 0 k = tx (u.take m) := by
            rw [tx_extract, List.drop_zero, hk2]
            by_cases hc : m ≤ u.length
            · rw [Nat.min_eq_left hc]
            · rw [Nat.min_eq_right (by omega), List.take_length, List.take_of_length_le (by omega)]
          clear hu hul
          simp only [keysV, ↓(hv _).run, ↓(hn _).run, hk, tx_size, hl1, d1, wx, ↓(hw _).run, ht0, tx_inj, hse, w1, hfx, wr, hr0, hri, hge, Int.toNat_natCast, hx1, hmin, k0, k1, k1i, hx2, go_sem, Nat.reduceEqDiff, Nat.reduceAdd, Nat.reduceLeDiff, Int.reduceEq, Int.reduceLT, Int.reduceLE, Int.reduceAdd, Int.reduceSub, Int.reduceMul, Int.reduceNeg, Int.reduceToNat, Nat.reduceMul]
          exact hQ
    · rw [if_pos hl] at hQ
      have hl1 : ((bl.length : Int) = (ndN z f m : Nat)) = False := eq_false (by omega)
      simp only [keysV, ↓(hv _).run, ↓(hn _).run, hk, tx_size, hl1, go_sem, Nat.reduceEqDiff, Nat.reduceAdd, Nat.reduceLeDiff, Int.reduceEq, Int.reduceLT, Int.reduceLE, Int.reduceAdd, Int.reduceSub, Int.reduceMul, Int.reduceNeg, Int.reduceToNat, Nat.reduceMul]
      exact hQ
  · rw [if_pos hk] at hQ
    simp only [keysV, ↓(hv _).run, hk, go_sem, Nat.reduceEqDiff, Nat.reduceAdd, Nat.reduceLeDiff, Int.reduceEq, Int.reduceLT, Int.reduceLE, Int.reduceAdd, Int.reduceSub, Int.reduceMul, Int.reduceNeg, Int.reduceToNat, Nat.reduceMul]
    exact hQ
end Go.Proofs.Ytildhljhbbhmmaa.AM
namespace Go.Proofs.Ytildhljhbbhmmaa.AM
open Go
set_option linter.all false
set_option maxRecDepth 10000

theorem blk_before {bl b : List UInt8} {p N j : Nat} (h : 1040 * (j + 1) ≤ p) (hp : p ≤ bl.length) : blk 1040 (bl.take p ++ b ++ bl.drop (p + N)) j = blk 1040 bl j := by
  unfold blk
  rw [List.append_assoc, List.drop_append_of_le_length (by rw [List.length_take]; omega), List.take_append_of_le_length (by rw [List.length_drop, List.length_take]; omega), List.drop_take, List.take_take, Nat.min_eq_left (by omega)]
theorem blk_behind {bl b : List UInt8} {p N j : Nat} (hb : b.length = N) (hp : p + N ≤ bl.length) (h : p + N ≤ 1040 * j) : blk 1040 (bl.take p ++ b ++ bl.drop (p + N)) j = blk 1040 bl j := by
  unfold blk
  have hl : (bl.take p ++ b).length = p + N := by rw [List.length_append, List.length_take, hb]; omega
  rw [List.drop_append, hl, List.drop_of_length_le (by omega), List.nil_append, List.drop_drop, show p + N + (1040 * j - (p + N)) = 1040 * j by omega]
theorem blk_in {bl b : List UInt8} {p N j x : Nat} (hx : p = 1040 * x) (hb : b.length = N) (hp : p + N ≤ bl.length) (hj : x ≤ j) (h : 1040 * (j + 1) ≤ p + N ∨ p + N = bl.length) : blk 1040 (bl.take p ++ b ++ bl.drop (p + N)) j = blk 1040 b (j - x) := by
  unfold blk
  have hl : (bl.take p).length = p := by rw [List.length_take]; omega
  rw [List.append_assoc, List.drop_append, hl, List.drop_of_length_le (by omega), List.nil_append, show 1040 * j - p = 1040 * (j - x) by omega]
  rcases h with h | h
  · rw [List.drop_append_of_le_length (by omega), List.take_append_of_le_length (by rw [List.length_drop]; omega)]
  · rw [List.drop_of_length_le (l := bl) (by omega), List.append_nil]
theorem openP_tags {a h bl v : List UInt8} {z first : Int} (ho : openP a h z first bl = some v) : (h.length = 20 ∧ h.take 8 = markL) ∧ ∀ j, j < blkN 1040 bl.length → tagOk a (nonceL (h.drop 8) (first + j)) (extraL h (first + j) (decide (first + j = PP z - 1))) (blk 1040 bl j) := by
  unfold openP at ho
  split at ho
  case isFalse => simp at ho
  rename_i hh
  refine ⟨hh, ?_⟩
  rw [openQ_G] at ho
  exact openG_iff.1 (by rw [ho]; rfl)
theorem openF_some {a s v : List UInt8} (ho : openF a s = some v) : Good (s.length : Int) ∧ openP a (s.take 20) (sz (s.length : Int)) 0 (s.drop 20) = some v := by
  unfold openF at ho
  split at ho
  · rename_i h; exact ⟨h, ho⟩
  · simp at ho
/-- A part that is opened in its place is opened in the whole, too. -/
theorem part_whole {a n t b v : List UInt8} {f m : Nat} (hn : n.length = 12) (ht : t.length ≤ 1048576) (hp : ndP t.length f m) (hb : b.length = ndN t.length f m) (ho : openP a ((fileL a n t).take 20) t.length (f / 1024 : Nat) b = some v) :
    refB a ((fileL a n t).take (ndAt t.length f m) ++ b ++ (fileL a n t).drop (ndAt t.length f m + ndN t.length f m)) = true := by
  have hsl := fileL_length (a := a) (R := t) hn
  have hop := openF_file (a := a) hn ht
  obtain ⟨s, hs⟩ : ∃ s, s = fileL a n t := ⟨_, rfl⟩
  rw [← hs] at hsl hop ho ⊢
  obtain ⟨hg, hof⟩ := openF_some hop
  obtain ⟨z, hz⟩ : ∃ z, z = t.length := ⟨_, rfl⟩
  rw [← hz] at hp hb ho hsl ⊢
  have hgz := good_of (s := (z : Int)) (n := (s.length : Int)) (by omega) (by omega) (by rw [LL_nat, hsl])
  rw [hgz.2] at hof
  obtain ⟨hh, t1⟩ := openP_tags ho
  obtain ⟨_, t2⟩ := openP_tags hof
  have hle := nd_le hp
  have hAt : ndAt z f m = 20 + 1040 * (f / 1024) := by unfold ndAt ndA; rw [if_pos hp]; omega
  have hN : ndAt z f m + ndN z f m = ndE z f m := by unfold ndAt ndN; rw [if_pos hp, if_pos hp]; omega
  have hL : ndL z = s.length := by unfold ndL; omega
  obtain ⟨x, hx⟩ : ∃ x, x = f / 1024 := ⟨_, rfl⟩
  rw [← hx] at hAt t1
  obtain ⟨N, hNN⟩ : ∃ N, N = ndN z f m := ⟨_, rfl⟩
  rw [← hNN] at hN hb ⊢
  rw [hAt] at hN ⊢
  obtain ⟨bl, hbl⟩ : ∃ bl, bl = s.drop 20 := ⟨_, rfl⟩
  have hbll : bl.length = s.length - 20 := by rw [hbl, List.length_drop]
  have hpn : 1040 * x + N ≤ bl.length := by omega
  have hcut : N = 1040 * (N / 1040) ∨ 1040 * x + N = bl.length := by
    have : ndE z f m = 20 + ((f + min m (z - f) - 1) / 1024 + 1) * 1040 ∨ ndE z f m = ndL z := by unfold ndE; omega
    rcases this with h | h
    · left; omega
    · right; omega
  obtain ⟨s', hs'⟩ : ∃ s', s' = s.take (20 + 1040 * x) ++ b ++ s.drop (20 + 1040 * x + N) := ⟨_, rfl⟩
  rw [← hs']
  have hsl' : s'.length = s.length := by rw [hs', List.length_append, List.length_append, List.length_take, List.length_drop, hb]; omega
  have ht20 : s'.take 20 = s.take 20 := by
    rw [hs', List.append_assoc, List.take_append_of_le_length (by rw [List.length_take]; omega), List.take_take, Nat.min_eq_left (by omega)]
  have hd20 : s'.drop 20 = bl.take (1040 * x) ++ b ++ bl.drop (1040 * x + N) := by
    rw [hs', List.append_assoc, List.drop_append_of_le_length (by rw [List.length_take]; omega), List.append_assoc, hbl, List.drop_take, List.drop_drop, show 20 + 1040 * x - 20 = 1040 * x by omega, show 20 + (1040 * x + N) = 20 + 1040 * x + N by omega]
  have hdl : (s'.drop 20).length = bl.length := by rw [List.length_drop, hsl', hbll]
  have hbN : blkN 1040 bl.length = nW z + 1 := by rw [hbll, hsl]; unfold blkN nW; omega
  rw [← hbl] at t2
  have hall : ∀ j, j < blkN 1040 (s'.drop 20).length → tagOk a (nonceL ((s.take 20).drop 8) ((0 : Int) + j)) (extraL (s.take 20) ((0 : Int) + j) (decide ((0 : Int) + j = PP z - 1))) (blk 1040 (s'.drop 20) j) := by
    intro j hj
    rw [hdl] at hj
    rw [hd20]
    by_cases h1 : j < x
    · rw [blk_before (by omega) (by omega)]; exact t2 j hj
    · by_cases h2 : 1040 * x + N ≤ 1040 * j
      · rw [blk_behind hb hpn h2]; exact t2 j hj
      · rw [blk_in rfl hb hpn (by omega) (by omega)]
        have := t1 (j - x) (by rw [hb]; unfold blkN at *; omega)
        rw [show ((x : Nat) : Int) + ((j - x : Nat) : Int) = (0 : Int) + j by omega] at this
        exact this
  obtain ⟨w, hw⟩ := Option.isSome_iff_exists.1 (openG_iff.2 hall)
  have hfin : openF a s' = some w := by
    unfold openF
    rw [hsl', if_pos hg, hgz.2]
    unfold openP
    rw [ht20, if_pos hh, openQ_G]
    exact hw
  exact (open_iff.1 hfin).1
end Go.Proofs.Ytildhljhbbhmmaa.AM
namespace Go.Proofs.Ytildhljhbbhmmaa.AM
open Go
set_option linter.all false
set_option maxRecDepth 10000
variable {tbl : Tbl} [hT : TMono tbl]

theorem sealR_cases (a b c n t : List UInt8) : (keysW a b c = 0 ∧ n.length = 12 ∧ t.length ≤ 1048576 ∧ sealR a b c n t = .tuple #[.string (tx (fileL a n t)), .int .i64 0]) ∨ ∃ e : Int, e ≠ 0 ∧ sealR a b c n t = .tuple #[.string ⟨#[]⟩, .int .i64 e] := by
  unfold sealR
  by_cases h1 : keysW a b c = 0
  · by_cases h2 : n.length = 12
    · by_cases h3 : 1048576 < t.length
      · exact .inr ⟨8, by decide, by rw [if_neg (fun h => h h1), if_neg (fun h => h h2), if_pos h3]⟩
      · exact .inl ⟨h1, h2, by omega, by rw [if_neg (fun h => h h1), if_neg (fun h => h h2), if_neg h3]⟩
    · exact .inr ⟨6, by decide, by rw [if_neg (fun h => h h1), if_pos h2]⟩
  · exact .inr ⟨_, h1, by rw [if_pos h1]⟩
set_option maxHeartbeats 1000000 in
theorem v10 (T : SealT tbl) (R : RefT tbl) (F : FileT tbl) (P : PartT2 tbl) (h15 : tbl 15 = some (.code m15)) (h45 : tbl 45 = some (.code m45)) (h10 : tbl 10 = some (.code m10)) (a b c n t : List UInt8) (f m : Int) (hf : -9223372036854775808 ≤ f ∧ f ≤ 9223372036854775807) (hm : -9223372036854775808 ≤ m ∧ m ≤ 9223372036854775807) (pl : Int) (hpl : -9223372036854775808 ≤ pl ∧ pl ≤ 9223372036854775807) (y : Int) (hy : 0 ≤ y ∧ y ≤ 255) (H : AH) :
    Val tbl 10 [keysV a b c, .string (tx n), .string (tx t), .int .i64 f, .int .i64 m, .int .i64 pl, .int .u8 y] H (.bool true) H := by
  refine Val.of_all fun Q hQ => ?_
  rw [rn_fun h10, k10]
  have a17 := v17 T
  have a22 := v22 (tbl := tbl) R.h22 t
  have a44 := fun X => v44 F.sl a b c n t X
  rcases sealR_cases a b c n t with ⟨hk, hn, htl, hr⟩ | ⟨e, he, hr⟩
  case inr =>
    rw [hr] at a44
    simp only [keysV] at a44
    simp only [keysV, ↓(a44 _).run, ↓(a17 _).run, he, go_sem, Nat.reduceEqDiff, Nat.reduceAdd, Nat.reduceLeDiff, Int.reduceEq, Int.reduceLT, Int.reduceLE, Int.reduceAdd, Int.reduceSub, Int.reduceMul, Int.reduceNeg, Int.reduceToNat, Nat.reduceMul]
    exact hQ
  rw [hr] at a44
  by_cases ht : t.length ≤ 10000
  case neg =>
    simp only [keysV] at a44
    simp only [keysV, ↓(a44 _).run, ↓(a17 _).run, ↓(a22 _).run, ht, go_sem, Nat.reduceEqDiff, Nat.reduceAdd, Nat.reduceLeDiff, Int.reduceEq, Int.reduceLT, Int.reduceLE, Int.reduceAdd, Int.reduceSub, Int.reduceMul, Int.reduceNeg, Int.reduceToNat, Nat.reduceMul]
    exact hQ
  by_cases hy0 : y = 0
  case pos =>
    simp only [keysV] at a44
    simp only [keysV, ↓(a44 _).run, ↓(a17 _).run, ↓(a22 _).run, ht, hy0, go_sem, Nat.reduceEqDiff, Nat.reduceAdd, Nat.reduceLeDiff, Int.reduceEq, Int.reduceLT, Int.reduceLE, Int.reduceAdd, Int.reduceSub, Int.reduceMul, Int.reduceNeg, Int.reduceToNat, Nat.reduceMul]
    exact hQ
  by_cases hf0 : f < 0
  case pos =>
    simp only [keysV] at a44
    simp only [keysV, ↓(a44 _).run, ↓(a17 _).run, ↓(a22 _).run, ht, hy0, hf0, go_sem, Nat.reduceEqDiff, Nat.reduceAdd, Nat.reduceLeDiff, Int.reduceEq, Int.reduceLT, Int.reduceLE, Int.reduceAdd, Int.reduceSub, Int.reduceMul, Int.reduceNeg, Int.reduceToNat, Nat.reduceMul]
    exact hQ
  by_cases hm0 : m < 0
  case pos =>
    simp only [keysV] at a44
    simp only [keysV, ↓(a44 _).run, ↓(a17 _).run, ↓(a22 _).run, ht, hy0, hf0, hm0, go_sem, Nat.reduceEqDiff, Nat.reduceAdd, Nat.reduceLeDiff, Int.reduceEq, Int.reduceLT, Int.reduceLE, Int.reduceAdd, Int.reduceSub, Int.reduceMul, Int.reduceNeg, Int.reduceToNat, Nat.reduceMul]
    exact hQ
  obtain ⟨f, rfl⟩ : ∃ f' : Nat, f = f' := ⟨f.toNat, by omega⟩
  obtain ⟨m, rfl⟩ : ∃ m' : Nat, m = m' := ⟨m.toNat, by omega⟩
  have ha := keys32 hk
  obtain ⟨s, hs⟩ : ∃ s, s = fileL a n t := ⟨_, rfl⟩
  have hsl : s.length = ndL t.length := by rw [hs, fileL_length hn]; unfold ndL; omega
  have hsb : s.length ≤ 20000 := by rw [hsl]; unfold ndL nW; omega
  have hs20 : 20 ≤ s.length := by rw [hsl]; unfold ndL; omega
  rw [← hs] at a44
  have b45 := fun X => v45 (tbl := tbl) h15 h45 t.length f m (by omega) (by omega) (by omega) X
  have hx20 : (tx s).extract 0 20 = tx (s.take 20) := by rw [tx_extract]; rfl
  have l20 : (20 : Int) ≤ s.length := by omega
  have hts : (⟨#[120]⟩ : ByteArray) = tx [120] := rfl
  have ht0 : (⟨#[]⟩ : ByteArray) = tx [] := rfl
  by_cases hN : ndN t.length f m = 0
  · have hp : ¬ ndP t.length f m := fun hp => by
      have := nd_le hp
      unfold ndN at hN
      rw [if_pos hp] at hN
      omega
    have b46 := fun X => v46 P a b c (s.take 20) [120] t.length f m (by omega) (by omega) (by omega) X
    have hpr : partR a b c (s.take 20) [120] t.length f m = .tuple #[.string ⟨#[]⟩, .int .i64 19] := by
      unfold partR
      rw [if_neg (fun h => h hk), if_pos (by rw [hN]; decide)]
    rw [hpr] at b46
    have hN2 : ((ndN t.length f m : Nat) : Int) = 0 := by omega
    simp only [keysV] at a44 b46
    simp only [keysV, ↓(a44 _).run, ↓(a17 _).run, ↓(a22 _).run, ht, hy0, hf0, hm0, tx_size, ↓(b45 _).run, hN2, hx20, l20, hs20, hts, ↓(b46 _).run, go_sem, Nat.reduceEqDiff, Nat.reduceAdd, Nat.reduceLeDiff, Int.reduceEq, Int.reduceLT, Int.reduceLE, Int.reduceAdd, Int.reduceSub, Int.reduceMul, Int.reduceNeg, Int.reduceToNat, Nat.reduceMul]
    exact hQ
  · have hp : ndP t.length f m := by
      by_cases hp : ndP t.length f m
      · exact hp
      · exact absurd (by unfold ndN; rw [if_neg hp]) hN
    have hle := nd_le hp
    have hA : ndAt t.length f m = ndA f := by unfold ndAt; rw [if_pos hp]
    have hNv : ndN t.length f m = ndE t.length f m - ndA f := by unfold ndN; rw [if_pos hp]
    have hA20 : 20 ≤ ndA f := by unfold ndA; omega
    obtain ⟨A, hAA⟩ : ∃ A, A = ndAt t.length f m := ⟨_, rfl⟩
    obtain ⟨N, hNN⟩ : ∃ N, N = ndN t.length f m := ⟨_, rfl⟩
    have hAN : 20 ≤ A ∧ 17 ≤ N ∧ A + N ≤ s.length := by omega
    have hwhole := fun bb (hbb : bb.length = N) v (ho : openP a (s.take 20) t.length (f / 1024 : Nat) bb = some v) => part_whole (a := a) (n := n) (t := t) (b := bb) (v := v) (f := f) (m := m) hn htl hp (by rw [hbb, hNN]) (by rw [← hs]; exact ho)
    rw [← hs, ← hAA, ← hNN] at hwhole
    have b46 := fun h bb X => v46 P a b c h bb t.length f m (by omega) (by omega) (by omega) X
    have hpR : ∀ h bb, partR a b c h bb t.length f m = if bb.length ≠ N then .tuple #[.string ⟨#[]⟩, .int .i64 19] else
      match openP a h t.length (f / 1024 : Nat) bb with
      | none => .tuple #[.string ⟨#[]⟩, .int .i64 19]
      | some s => .tuple #[.string (tx ((s.drop (f % 1024)).take m)), .int .i64 0] := by
      intro h bb
      unfold partR
      rw [if_neg (fun h => h hk), hNN]
      try (cases openP a h t.length (f / 1024 : Nat) bb <;> rfl)
    rw [← hAA, ← hNN] at b45
    obtain ⟨q, hq, hw, hqm⟩ := place_eq (a := pl) (L := N) (by omega) (by omega) hpl
    have hL0 : ¬ (N : Int) = 0 := by omega
    obtain ⟨u, rfl⟩ : ∃ u : UInt8, y = (u.toNat : Int) := ⟨UInt8.ofNat y.toNat, by
      have : (UInt8.ofNat y.toNat).toNat = y.toNat := by rw [UInt8.toNat_ofNat']; omega
      omega⟩
    -- the part
    obtain ⟨d, hd⟩ : ∃ d, d = (s.take (A + N)).drop A := ⟨_, rfl⟩
    have hdl : d.length = N := by rw [hd, List.length_drop, List.length_take]; omega
    have wAN := w64 (x := (A : Int) + N) (by omega) (by omega)
    have hxd : (tx s).extract A (A + N) = tx d := by rw [tx_extract, hd]
    have hxd2 : (tx s).extract A (A + N - 1) = tx ((s.take (A + N - 1)).drop A) := by rw [tx_extract]
    simp only [keysV] at a44 b46
    have n1 : ((A : Int) + N).toNat = A + N := by omega
    have n2 : (0 : Int) ≤ (A : Int) + N := by omega
    have n3 : A + N ≤ s.length := hAN.2.2
    have n4 : (0 : Int) ≤ (A : Int) := by omega
    have n5 : A ≤ A + N := by omega
    have n6 : N ≤ 140737488355328 := by omega
    obtain ⟨X, hX⟩ : ∃ X, X = H.enter.push ⟨[.string (tx a), .string (tx b), .string (tx c)], 1, false⟩ := ⟨_, rfl⟩
    have hXg : X.get H.next = some ⟨[.string (tx a), .string (tx b), .string (tx c)], 1, false⟩ := by rw [hX]; exact AH.get_push_eq H.enter _
    have hXn : X.next = H.next + 1 := by rw [hX, AH.next_push, nx_enter]
    have hXl : X.low = H.next := by rw [hX, lw_push, lw_enter]
    have hu : (⟨bc d, 1, false⟩ : Blk) = u8r d := rfl
    obtain ⟨d', hd'⟩ : ∃ d', d' = d.set q (gb d q ^^^ u) := ⟨_, rfl⟩
    have hdl' : d'.length = N := by rw [hd', List.length_set, hdl]
    have hat := u8r_at (l := d) (i := q) (by omega)
    have hx8 := xor8 (gb d q) u
    have hps : (q : Int) < (N : Int) := by omega
    have hq1 : q + 1 ≤ N := by omega
    have q0 : (0 : Int) ≤ (q : Int) := by omega
    have hg : (X.push (u8r d)).get X.next = some (u8r d) := AH.get_push_eq X _
    have hgs : ∀ Y : Option Blk, ((X.push (u8r d)).set X.next Y).get X.next = Y := fun Y => AH.get_set_eq _ _ (by rw [AH.next_push]; omega)
    have hgb : (X.push (u8r d)).get H.next = some ⟨[.string (tx a), .string (tx b), .string (tx c)], 1, false⟩ := by rw [AH.get_push_lt X _ (by omega)]; exact hXg
    have hgsb : ∀ Y : Option Blk, ((X.push (u8r d)).set X.next Y).get H.next = some ⟨[.string (tx a), .string (tx b), .string (tx c)], 1, false⟩ := fun Y => by rw [AH.get_set_ne _ _ (by omega)]; exact hgb
    have hltX : X.next < X.next + 1 := by omega
    have hsb' := slcBytes_row (n := N) (c := N) (hgs (some (u8r d'))) hdl'.symm
    have n0 : 0 + N ≤ N := by omega
    -- the answers
    obtain ⟨s', hs'⟩ : ∃ s', s' = s.take A ++ d' ++ s.drop (A + N) := ⟨_, rfl⟩
    have hsl' : s'.length ≤ 1000000 := by rw [hs', List.length_append, List.length_append, List.length_take, List.length_drop, hdl']; omega
    have b43 := fun X => v43 R F.rf F.h26 F.h43 a b c s' ha hsl' X
    obtain ⟨o1, e1, r1, hfin⟩ : ∃ (o1 : List UInt8) (e1 : Int), partR a b c (s.take 20) d' t.length f m = .tuple #[.string (tx o1), .int .i64 e1] ∧ (refB a s' = true ∨ (o1 = [] ∧ e1 = 19)) := by
      rw [hpR, if_neg (fun h => h hdl')]
      cases ho : openP a (s.take 20) t.length (f / 1024 : Nat) d' with
      | none => exact ⟨[], 19, rfl, .inr ⟨rfl, rfl⟩⟩
      | some v => exact ⟨_, _, rfl, .inl (by rw [hs']; exact hwhole d' hdl' v ho)⟩
    obtain ⟨d2, hd2⟩ : ∃ d2, d2 = (s.take (A + N - 1)).drop A := ⟨_, rfl⟩
    have hdl2 : d2.length = N - 1 := by rw [hd2, List.length_drop, List.length_take]; omega
    have r2 : partR a b c (s.take 20) d2 t.length f m = .tuple #[.string ⟨#[]⟩, .int .i64 19] := by rw [hpR, if_pos (by omega)]
    obtain ⟨h3, hh3⟩ : ∃ h3, h3 = [120] ++ (s.take 20).drop 1 := ⟨_, rfl⟩
    have r3 : partR a b c h3 d t.length f m = .tuple #[.string ⟨#[]⟩, .int .i64 19] := by
      rw [hpR, if_neg (fun h => h hdl)]
      have : openP a h3 t.length (f / 1024 : Nat) d = none := by
        unfold openP
        rw [if_neg]
        rintro ⟨_, hx⟩
        rw [hh3] at hx
        have := congrArg List.head? hx
        simp [markL] at this
      rw [this]
    have c1 := fun X => b46 (s.take 20) d' X
    have c2 := fun X => b46 (s.take 20) d2 X
    have c3 := fun X => b46 h3 d X
    rw [r1] at c1
    rw [r2] at c2
    rw [r3] at c3
    simp only [keysV] at b43
    have wm1 := w64 (x := (A : Int) + N - 1) (by omega) (by omega)
    have m1 : ((A : Int) + N - 1).toNat = A + N - 1 := by omega
    have m2 : (0 : Int) ≤ (A : Int) + N - 1 := by omega
    have m3 : A + N - 1 ≤ s.length := by omega
    have m4 : A ≤ A + N - 1 := by omega
    have hxd2' : (tx s).extract A (A + N - 1) = tx d2 := by rw [hxd2, hd2]
    have hx1 : (tx s).extract 1 20 = tx ((s.take 20).drop 1) := by rw [tx_extract]
    have hl19 : ((s.take 20).drop 1).length = 19 := by rw [List.length_drop, List.length_take]; omega
    have hxA : (tx s).extract 0 A = tx (s.take A) := by rw [tx_extract]; rfl
    have hxE : (tx s).extract (A + N) s.length = tx (s.drop (A + N)) := by rw [tx_extract, List.take_length]
    have hAl : (s.take A).length = A := by rw [List.length_take]; omega
    have hAl2 : (s.drop (A + N)).length = s.length - (A + N) := by rw [List.length_drop]
    have p1 : A ≤ s.length := by omega
    have p2 : A + N ≤ 9223372036854775807 := by omega
    have p3 : A + N + (s.length - (A + N)) ≤ 9223372036854775807 := by omega
    have hcat : tx (s.take A ++ d' ++ s.drop (A + N)) = tx s' := by rw [hs']
    have hcat3 : tx (120 :: (s.take 20).drop 1) = tx h3 := by rw [hh3]; rfl
    clear hd hd2 hs hs' hh3
    simp only [keysV, ↓(a44 _).run, ↓(a17 _).run, ↓(a22 _).run, ht, hy0, hf0, hm0, tx_size, ↓(b45 _).run, hL0, wAN, n1, n2, n3, n4, n5, n6, Int.toNat_natCast, hxd, hdl, ← hX, byteCells_eq, tx_data, hu, hw, hqm, hXg,
      q0, hps, hq1, hltX, hg, hat, hx8, u8r_len, u8r_ro, u8r_es, u8r_set, ← hd', hgs, hgsb, hgb, hsb', idxSP_slc, stc_eq, stB_some, splice_one, addA, Nat.zero_add, hx20, l20, hs20, hdl', ↓(c1 _).run, wm1, m1, m2, m3, m4, hxd2', ↓(c2 _).run, hx1, hl19, hts, tx_cat, hcat3, ↓(c3 _).run, hxA, hxE, hAl, hAl2, p1, p2, p3, hcat, List.length_append, List.length_cons, List.length_nil, ↓(b43 _).run, ht0, tx_inj, go_sem, Nat.reduceEqDiff, Nat.reduceAdd, Nat.reduceLeDiff, Int.reduceEq, Int.reduceLT, Int.reduceLE, Int.reduceAdd, Int.reduceSub, Int.reduceMul, Int.reduceNeg, Int.reduceToNat, Nat.reduceMul]
    have hback : ¬ ((X.push (u8r d)).set X.next (some (u8r d'))).low < H.next := by rw [lw_set, lw_push]; omega
    cases hB : refB a s' with
    | true =>
      simp only [ht0, tx_inj, go_sem, Nat.reduceEqDiff, Nat.reduceAdd, Nat.reduceLeDiff, Int.reduceEq, Int.reduceLT, Int.reduceLE, Int.reduceAdd, Int.reduceSub, Int.reduceMul, Int.reduceNeg, Int.reduceToNat, Nat.reduceMul]
      rw [back_p3 hback rfl]
      exact hQ
    | false =>
      rw [hB] at hfin
      obtain ⟨ho, he⟩ : o1 = [] ∧ e1 = 19 := by rcases hfin with h | h; exact absurd h (by decide); exact h
      simp only [ho, he, ht0, tx_inj, go_sem, Nat.reduceEqDiff, Nat.reduceAdd, Nat.reduceLeDiff, Int.reduceEq, Int.reduceLT, Int.reduceLE, Int.reduceAdd, Int.reduceSub, Int.reduceMul, Int.reduceNeg, Int.reduceToNat, Nat.reduceMul]
      rw [back_p3 hback rfl]
      exact hQ
end Go.Proofs.Ytildhljhbbhmmaa.AM
/- A function that is told: slices.Grow at bytes. -/
namespace Go.Proofs.Ytildhljhbbhmmaa.AM
open Go Go.RowKit
set_option linter.all false
set_option maxRecDepth 10000

def natGrow : CallH → List Value → AH → Option (Value × AH) := fun _ vs H =>
  match vs with
  | [.slice none 0 0, .int .i64 n] => if 1 ≤ n ∧ n ≤ 1000000000 then some (.slice (some ⟨H.next, 0, none⟩) 0 0, H.push ⟨[], 1, false⟩) else none
  | _ => none
end Go.Proofs.Ytildhljhbbhmmaa.AM
/- Compiled functions. WRITTEN BY A PROGRAM (mk.py). -/
namespace Go.Proofs.Ytildhljhbbhmmaa.AM
open Go
set_option maxRecDepth 100000
set_option linter.all false
def k47 : MCode := (.seq (.ops [⟨(some 2), none, false, (.mov (.const (.slice none 0 0)))⟩]) (.seq (.ops [⟨(some 3), none, false, (.mov (.const (.int .i64 0)))⟩]) (.seq (.seq (.ops [⟨(some 9), none, false, (.mov (.tmp 0))⟩, ⟨(some 10), none, false, (.len (.tmp 9))⟩, ⟨(some 11), none, false, (.mov (.const (.int .i64 0)))⟩]) (.block 0 (.loop (.seq (.ops [⟨(some 12), none, false, (.bin .int .lss (.tmp 11) (.tmp 10))⟩]) (.seq (.cond (.tmp 12) .skip (.exit 0)) (.seq (.block 1 (.seq (.ops [⟨(some 13), none, false, (.idxS 1 (.tmp 9) (.tmp 11))⟩, ⟨(some 14), none, false, (.load false 1 (.tmp 13))⟩, ⟨(some 5), none, false, (.mov (.tmp 14))⟩]) (.seq (.ops [⟨(some 15), none, false, (.mov (.tmp 3))⟩, ⟨(some 16), none, false, (.mov (.tmp 5))⟩, ⟨(some 17), none, false, (.len (.tmp 16))⟩, ⟨(some 18), none, false, (.bin .int .add (.tmp 15) (.tmp 17))⟩, ⟨(some 3), none, false, (.mov (.tmp 18))⟩]) (.seq (.ops [⟨(some 19), none, false, (.mov (.tmp 3))⟩, ⟨(some 20), none, false, (.bin .int .lss (.tmp 19) (.const (.int .i64 0)))⟩]) (.cond (.tmp 20) (.ops [⟨(some 21), none, false, (.mkIface 9 (.const (.string ⟨#[108, 101, 110, 32, 111, 117, 116, 32, 111, 102, 32, 114, 97, 110, 103, 101]⟩)))⟩, ⟨none, none, false, .mkMap⟩]) .skip))))) (.ops [⟨(some 22), none, false, (.bin .int .add (.tmp 11) (.const (.int .i64 1)))⟩, ⟨(some 11), none, false, (.mov (.tmp 22))⟩]))))))) (.seq (.ops [⟨(some 23), none, false, (.mov (.tmp 3))⟩, ⟨(some 24), none, false, (.call false (.func 80) [(.const (.slice none 0 0)), (.tmp 23)])⟩, ⟨(some 6), none, false, (.mov (.tmp 24))⟩]) (.seq (.seq (.ops [⟨(some 25), none, false, (.mov (.tmp 0))⟩, ⟨(some 26), none, false, (.len (.tmp 25))⟩, ⟨(some 27), none, false, (.mov (.const (.int .i64 0)))⟩]) (.block 2 (.loop (.seq (.ops [⟨(some 28), none, false, (.bin .int .lss (.tmp 27) (.tmp 26))⟩]) (.seq (.cond (.tmp 28) .skip (.exit 2)) (.seq (.block 3 (.seq (.ops [⟨(some 29), none, false, (.idxS 1 (.tmp 25) (.tmp 27))⟩, ⟨(some 30), none, false, (.load false 1 (.tmp 29))⟩, ⟨(some 8), none, false, (.mov (.tmp 30))⟩]) (.ops [⟨(some 31), none, false, (.mov (.tmp 6))⟩, ⟨(some 32), none, false, (.mov (.tmp 8))⟩, ⟨(some 33), none, false, (.append 1 1 (.tmp 31) (.tmp 32))⟩, ⟨(some 6), none, false, (.mov (.tmp 33))⟩]))) (.ops [⟨(some 34), none, false, (.bin .int .add (.tmp 27) (.const (.int .i64 1)))⟩, ⟨(some 27), none, false, (.mov (.tmp 34))⟩]))))))) (.seq (.ops [⟨(some 35), none, false, (.mov (.tmp 6))⟩, ⟨(some 2), none, false, (.mov (.tmp 35))⟩]) .ret))))))
def m47 : MFun := ⟨k47, [(.tmp 2)]⟩
def k11 : MCode := (.seq (.ops [⟨(some 6), none, false, (.box 1 (.tmp 0))⟩, ⟨(some 12), none, false, (.mov (.const (.bool false)))⟩]) (.seq (.ops [⟨(some 25), none, false, (.load true 3 (.tmp 6))⟩, ⟨(some 26), none, false, (.mov (.tmp 1))⟩, ⟨(some 27), none, false, (.mov (.tmp 2))⟩, ⟨(some 28), none, false, (.call false (.func 44) [(.tmp 25), (.tmp 26), (.tmp 27)])⟩, ⟨(some 24), none, false, (.mov (.tmp 28))⟩, ⟨(some 29), none, false, (.extract (.tmp 24) 0)⟩, ⟨(some 30), none, false, (.extract (.tmp 24) 1)⟩, ⟨(some 13), none, false, (.mov (.tmp 29))⟩, ⟨(some 14), none, false, (.mov (.tmp 30))⟩]) (.seq (.seq (.ops [⟨(some 31), none, false, (.call false (.func 17) [])⟩, ⟨(some 32), none, false, (.un .not (.tmp 31))⟩, ⟨(some 33), none, false, (.mov (.tmp 32))⟩, ⟨(some 34), (some (33, false)), false, (.mov (.tmp 14))⟩, ⟨(some 35), (some (33, false)), false, (.bin .int .neq (.tmp 34) (.const (.int .i64 0)))⟩, ⟨(some 36), none, false, (.pick (.tmp 33) (.const (.bool true)) (.tmp 35))⟩, ⟨(some 37), none, false, (.mov (.tmp 36))⟩, ⟨(some 38), (some (37, false)), false, (.mov (.tmp 2))⟩, ⟨(some 39), (some (37, false)), false, (.call false (.func 22) [(.tmp 38)])⟩, ⟨(some 40), (some (37, false)), false, (.un .not (.tmp 39))⟩, ⟨(some 41), none, false, (.pick (.tmp 37) (.const (.bool true)) (.tmp 40))⟩, ⟨(some 42), none, false, (.mov (.tmp 41))⟩, ⟨(some 43), (some (42, false)), false, (.mov (.tmp 5))⟩, ⟨(some 44), (some (42, false)), false, (.bin .int .eql (.tmp 43) (.const (.int .u8 0)))⟩, ⟨(some 45), none, false, (.pick (.tmp 42) (.const (.bool true)) (.tmp 44))⟩]) (.cond (.tmp 45) (.seq (.ops [⟨(some 46), none, false, (.call false (.func 17) [])⟩, ⟨(some 12), none, false, (.mov (.tmp 46))⟩]) .ret) .skip)) (.seq (.ops [⟨(some 47), none, false, (.mov (.tmp 13))⟩, ⟨(some 48), none, false, (.toBytes (.tmp 47))⟩, ⟨(some 15), none, false, (.mov (.tmp 48))⟩]) (.seq (.ops [⟨(some 49), none, false, (.mov (.tmp 4))⟩, ⟨(some 50), none, false, (.mov (.tmp 15))⟩, ⟨(some 51), none, false, (.len (.tmp 50))⟩, ⟨(some 52), none, false, (.bin .int .rem (.tmp 49) (.tmp 51))⟩, ⟨(some 53), none, false, (.mov (.tmp 15))⟩, ⟨(some 54), none, false, (.len (.tmp 53))⟩, ⟨(some 55), none, false, (.bin .int .add (.tmp 52) (.tmp 54))⟩, ⟨(some 56), none, false, (.mov (.tmp 15))⟩, ⟨(some 57), none, false, (.len (.tmp 56))⟩, ⟨(some 58), none, false, (.bin .int .rem (.tmp 55) (.tmp 57))⟩, ⟨(some 4), none, false, (.mov (.tmp 58))⟩]) (.seq (.seq (.ops [⟨(some 59), none, false, (.mov (.tmp 3))⟩, ⟨(some 60), none, false, (.conv .u64 (.tmp 59))⟩, ⟨(some 61), none, false, (.bin .int .rem (.tmp 60) (.const (.int .u64 4)))⟩]) (.block 0 (.seq (.ops [⟨(some 76), none, false, (.bin .int .eql (.tmp 61) (.const (.int .u64 0)))⟩, ⟨(some 75), none, false, (.mov (.tmp 76))⟩]) (.cond (.tmp 75) (.ops [⟨(some 77), none, false, (.mov (.tmp 15))⟩, ⟨(some 78), none, false, (.mov (.tmp 4))⟩, ⟨(some 79), none, false, (.idxS 1 (.tmp 77) (.tmp 78))⟩, ⟨(some 80), none, false, (.load false 1 (.tmp 79))⟩, ⟨(some 81), none, false, (.mov (.tmp 5))⟩, ⟨(some 82), none, false, (.bin .int .xor (.tmp 80) (.tmp 81))⟩, ⟨(some 83), none, false, (.idxS 1 (.tmp 77) (.tmp 78))⟩, ⟨none, none, false, (.store 1 (.tmp 83) (.tmp 82))⟩]) (.seq (.ops [⟨(some 85), none, false, (.bin .int .eql (.tmp 61) (.const (.int .u64 1)))⟩, ⟨(some 84), none, false, (.mov (.tmp 85))⟩]) (.cond (.tmp 84) (.ops [⟨(some 86), none, false, (.mov (.tmp 15))⟩, ⟨(some 87), none, false, (.mov (.tmp 4))⟩, ⟨(some 88), none, false, (.sliceS 1 (.tmp 86) none (some (.tmp 87)))⟩, ⟨(some 15), none, false, (.mov (.tmp 88))⟩]) (.seq (.ops [⟨(some 90), none, false, (.bin .int .eql (.tmp 61) (.const (.int .u64 2)))⟩, ⟨(some 89), none, false, (.mov (.tmp 90))⟩]) (.cond (.tmp 89) (.seq (.ops [⟨(some 91), none, false, (.mov (.tmp 15))⟩, ⟨(some 92), none, false, (.len (.tmp 91))⟩, ⟨(some 93), none, false, (.bin .int .sub (.tmp 92) (.const (.int .i64 20)))⟩, ⟨(some 94), none, false, (.bin .int .quo (.tmp 93) (.const (.int .i64 1040)))⟩, ⟨(some 16), none, false, (.mov (.tmp 94))⟩]) (.seq (.seq (.ops [⟨(some 95), none, false, (.mov (.tmp 16))⟩, ⟨(some 96), none, false, (.bin .int .lss (.tmp 95) (.const (.int .i64 2)))⟩]) (.cond (.tmp 96) (.seq (.ops [⟨(some 12), none, false, (.mov (.const (.bool true)))⟩]) .ret) .skip)) (.seq (.ops [⟨(some 97), none, false, (.mov (.tmp 4))⟩, ⟨(some 98), none, false, (.mov (.tmp 16))⟩, ⟨(some 99), none, false, (.bin .int .sub (.tmp 98) (.const (.int .i64 1)))⟩, ⟨(some 100), none, false, (.bin .int .rem (.tmp 97) (.tmp 99))⟩, ⟨(some 101), none, false, (.bin .int .mul (.tmp 100) (.const (.int .i64 1040)))⟩, ⟨(some 102), none, false, (.bin .int .add (.const (.int .i64 20)) (.tmp 101))⟩, ⟨(some 17), none, false, (.mov (.tmp 102))⟩]) (.seq (.ops [⟨(some 103), none, false, (.mov (.tmp 17))⟩, ⟨(some 104), none, false, (.bin .int .add (.tmp 103) (.const (.int .i64 1024)))⟩, ⟨(some 105), none, false, (.bin .int .add (.tmp 104) (.const (.int .i64 16)))⟩, ⟨(some 18), none, false, (.mov (.tmp 105))⟩]) (.opsD [⟨(some 106), none, false, (.mov (.tmp 15))⟩, ⟨(some 107), none, false, (.mov (.tmp 17))⟩, ⟨(some 108), none, false, (.sliceS 1 (.tmp 106) none (some (.tmp 107)))⟩, ⟨(some 109), none, false, (.mov (.tmp 15))⟩, ⟨(some 110), none, false, (.mov (.tmp 18))⟩, ⟨(some 111), none, false, (.mov (.tmp 18))⟩, ⟨(some 112), none, false, (.bin .int .add (.tmp 111) (.const (.int .i64 1024)))⟩, ⟨(some 113), none, false, (.bin .int .add (.tmp 112) (.const (.int .i64 16)))⟩, ⟨(some 114), none, false, (.sliceS 1 (.tmp 109) (some (.tmp 110)) (some (.tmp 113)))⟩, ⟨(some 115), none, false, (.mov (.tmp 15))⟩, ⟨(some 116), none, false, (.mov (.tmp 17))⟩, ⟨(some 117), none, false, (.mov (.tmp 18))⟩, ⟨(some 118), none, false, (.sliceS 1 (.tmp 115) (some (.tmp 116)) (some (.tmp 117)))⟩, ⟨(some 119), none, false, (.mov (.tmp 15))⟩, ⟨(some 120), none, false, (.mov (.tmp 18))⟩, ⟨(some 121), none, false, (.bin .int .add (.tmp 120) (.const (.int .i64 1024)))⟩, ⟨(some 122), none, false, (.bin .int .add (.tmp 121) (.const (.int .i64 16)))⟩, ⟨(some 123), none, false, (.sliceS 1 (.tmp 119) (some (.tmp 122)) none)⟩, ⟨(some 124), none, false, (.buildSlice [(.slice none 0 0), (.slice none 0 0), (.slice none 0 0), (.slice none 0 0)] 1 4 [(0, (1, (.tmp 108))), (1, (1, (.tmp 114))), (2, (1, (.tmp 118))), (3, (1, (.tmp 123)))])⟩, ⟨(some 125), none, false, (.call false (.func 47) [(.tmp 124)])⟩, ⟨(some 15), none, false, (.mov (.tmp 125))⟩]))))) (.seq (.ops [⟨(some 62), none, false, (.mov (.tmp 15))⟩, ⟨(some 63), none, false, (.len (.tmp 62))⟩, ⟨(some 64), none, false, (.bin .int .sub (.tmp 63) (.const (.int .i64 20)))⟩, ⟨(some 65), none, false, (.bin .int .sub (.tmp 64) (.const (.int .i64 1)))⟩, ⟨(some 66), none, false, (.bin .int .quo (.tmp 65) (.const (.int .i64 1040)))⟩, ⟨(some 19), none, false, (.mov (.tmp 66))⟩]) (.ops [⟨(some 67), none, false, (.mov (.tmp 15))⟩, ⟨(some 68), none, false, (.mov (.tmp 4))⟩, ⟨(some 69), none, false, (.mov (.tmp 19))⟩, ⟨(some 70), none, false, (.bin .int .add (.tmp 69) (.const (.int .i64 1)))⟩, ⟨(some 71), none, false, (.bin .int .rem (.tmp 68) (.tmp 70))⟩, ⟨(some 72), none, false, (.bin .int .mul (.tmp 71) (.const (.int .i64 1040)))⟩, ⟨(some 73), none, false, (.bin .int .add (.const (.int .i64 20)) (.tmp 72))⟩, ⟨(some 74), none, false, (.sliceS 1 (.tmp 67) none (some (.tmp 73)))⟩, ⟨(some 15), none, false, (.mov (.tmp 74))⟩])))))))))) (.seq (.ops [⟨(some 127), none, false, (.load true 3 (.tmp 6))⟩, ⟨(some 128), none, false, (.mov (.tmp 15))⟩, ⟨(some 129), none, false, (.toStr (.tmp 128))⟩, ⟨(some 130), none, false, (.call false (.func 48) [(.tmp 127), (.tmp 129)])⟩, ⟨(some 126), none, false, (.mov (.tmp 130))⟩, ⟨(some 131), none, false, (.extract (.tmp 126) 0)⟩, ⟨(some 132), none, false, (.extract (.tmp 126) 1)⟩, ⟨(some 20), none, false, (.mov (.tmp 131))⟩, ⟨(some 21), none, false, (.mov (.tmp 132))⟩]) (.seq (.ops [⟨(some 134), none, false, (.load true 3 (.tmp 6))⟩, ⟨(some 135), none, false, (.mov (.tmp 15))⟩, ⟨(some 136), none, false, (.toStr (.tmp 135))⟩, ⟨(some 137), none, false, (.call false (.func 43) [(.tmp 134), (.tmp 136)])⟩, ⟨(some 133), none, false, (.mov (.tmp 137))⟩, ⟨(some 138), none, false, (.extract (.tmp 133) 0)⟩, ⟨(some 139), none, false, (.extract (.tmp 133) 1)⟩, ⟨(some 22), none, false, (.mov (.tmp 138))⟩, ⟨(some 23), none, false, (.mov (.tmp 139))⟩]) (.seq (.ops [⟨(some 140), none, false, (.mov (.tmp 20))⟩, ⟨(some 141), none, false, (.mov (.tmp 21))⟩, ⟨(some 142), none, false, (.mov (.tmp 22))⟩, ⟨(some 143), none, false, (.mov (.tmp 23))⟩, ⟨(some 144), none, false, (.call false (.func 27) [(.tmp 140), (.tmp 141), (.tmp 142), (.tmp 143)])⟩, ⟨(some 12), none, false, (.mov (.tmp 144))⟩]) .ret)))))))))
def m11 : MFun := ⟨k11, [(.tmp 12)]⟩
def k12 : MCode := (.seq (.ops [⟨(some 5), none, false, (.box 1 (.tmp 0))⟩, ⟨(some 10), none, false, (.mov (.const (.bool false)))⟩]) (.seq (.ops [⟨(some 36), none, false, (.mov (.tmp 2))⟩, ⟨(some 37), none, false, (.call false (.func 49) [(.tmp 36), (.const (.string ⟨#[]⟩))])⟩, ⟨(some 11), none, false, (.mov (.tmp 37))⟩]) (.seq (.ops [⟨(some 39), none, false, (.load true 3 (.tmp 5))⟩, ⟨(some 40), none, false, (.mov (.tmp 1))⟩, ⟨(some 41), none, false, (.mov (.tmp 11))⟩, ⟨(some 42), none, false, (.call false (.func 44) [(.tmp 39), (.tmp 40), (.tmp 41)])⟩, ⟨(some 38), none, false, (.mov (.tmp 42))⟩, ⟨(some 43), none, false, (.extract (.tmp 38) 0)⟩, ⟨(some 44), none, false, (.extract (.tmp 38) 1)⟩, ⟨(some 12), none, false, (.mov (.tmp 43))⟩, ⟨(some 13), none, false, (.mov (.tmp 44))⟩]) (.seq (.ops [⟨(some 45), none, false, (.load true 3 (.tmp 5))⟩, ⟨(some 46), none, false, (.call false (.func 40) [(.tmp 45)])⟩, ⟨(some 47), none, false, (.mov (.tmp 1))⟩, ⟨(some 48), none, false, (.lenStr (.tmp 47))⟩, ⟨(some 49), none, false, (.bin .int .neq (.tmp 48) (.const (.int .i64 12)))⟩, ⟨(some 50), none, false, (.call false (.func 21) [(.tmp 49), (.const (.int .i64 6))])⟩, ⟨(some 51), none, false, (.mov (.tmp 11))⟩, ⟨(some 52), none, false, (.lenStr (.tmp 51))⟩, ⟨(some 53), none, false, (.bin .int .gtr (.tmp 52) (.const (.int .i64 1048576)))⟩, ⟨(some 54), none, false, (.call false (.func 21) [(.tmp 53), (.const (.int .i64 8))])⟩, ⟨(some 55), none, false, (.buildSlice [(.int .i64 0), (.int .i64 0), (.int .i64 0)] 1 3 [(0, (1, (.tmp 46))), (1, (1, (.tmp 50))), (2, (1, (.tmp 54)))])⟩, ⟨(some 56), none, false, (.call false (.func 19) [(.tmp 55)])⟩, ⟨(some 14), none, false, (.mov (.tmp 56))⟩]) (.seq (.seq (.ops [⟨(some 57), none, false, (.call false (.func 17) [])⟩, ⟨(some 58), none, false, (.un .not (.tmp 57))⟩, ⟨(some 59), none, false, (.mov (.tmp 58))⟩, ⟨(some 60), (some (59, false)), false, (.mov (.tmp 14))⟩, ⟨(some 61), (some (59, false)), false, (.bin .int .neq (.tmp 60) (.const (.int .i64 0)))⟩, ⟨(some 62), none, false, (.pick (.tmp 59) (.const (.bool true)) (.tmp 61))⟩]) (.cond (.tmp 62) (.seq (.ops [⟨(some 63), none, false, (.call false (.func 17) [])⟩, ⟨(some 64), none, false, (.mov (.tmp 63))⟩, ⟨(some 65), (some (64, true)), false, (.mov (.tmp 12))⟩, ⟨(some 66), (some (64, true)), false, (.bin .str .eql (.tmp 65) (.const (.string ⟨#[]⟩)))⟩, ⟨(some 67), none, false, (.pick (.tmp 64) (.tmp 66) (.const (.bool false)))⟩, ⟨(some 68), none, false, (.mov (.tmp 67))⟩, ⟨(some 69), (some (68, true)), false, (.mov (.tmp 13))⟩, ⟨(some 70), (some (68, true)), false, (.mov (.tmp 14))⟩, ⟨(some 71), (some (68, true)), false, (.bin .int .eql (.tmp 69) (.tmp 70))⟩, ⟨(some 72), none, false, (.pick (.tmp 68) (.tmp 71) (.const (.bool false)))⟩, ⟨(some 10), none, false, (.mov (.tmp 72))⟩]) .ret) .skip)) (.seq (.seq (.ops [⟨(some 73), none, false, (.mov (.tmp 11))⟩, ⟨(some 74), none, false, (.call false (.func 22) [(.tmp 73)])⟩, ⟨(some 75), none, false, (.un .not (.tmp 74))⟩]) (.cond (.tmp 75) (.seq (.ops [⟨(some 76), none, false, (.mov (.tmp 13))⟩, ⟨(some 77), none, false, (.bin .int .eql (.tmp 76) (.const (.int .i64 0)))⟩, ⟨(some 10), none, false, (.mov (.tmp 77))⟩]) .ret) .skip)) (.seq (.seq (.ops [⟨(some 78), none, false, (.mov (.tmp 13))⟩, ⟨(some 79), none, false, (.bin .int .neq (.tmp 78) (.const (.int .i64 0)))⟩, ⟨(some 80), none, false, (.mov (.tmp 79))⟩, ⟨(some 81), (some (80, false)), false, (.mov (.tmp 12))⟩, ⟨(some 82), (some (80, false)), false, (.load true 3 (.tmp 5))⟩, ⟨(some 83), (some (80, false)), false, (.mov (.tmp 1))⟩, ⟨(some 84), (some (80, false)), false, (.mov (.tmp 11))⟩, ⟨(some 85), (some (80, false)), false, (.call false (.func 41) [(.tmp 82), (.tmp 83), (.tmp 84)])⟩, ⟨(some 86), (some (80, false)), false, (.bin .str .neq (.tmp 81) (.tmp 85))⟩, ⟨(some 87), none, false, (.pick (.tmp 80) (.const (.bool true)) (.tmp 86))⟩]) (.cond (.tmp 87) (.seq (.ops [⟨(some 10), none, false, (.mov (.const (.bool false)))⟩]) .ret) .skip)) (.seq (.seq (.ops [⟨(some 89), none, false, (.load true 3 (.tmp 5))⟩, ⟨(some 90), none, false, (.mov (.tmp 12))⟩, ⟨(some 91), none, false, (.call false (.func 48) [(.tmp 89), (.tmp 90)])⟩, ⟨(some 88), none, false, (.mov (.tmp 91))⟩, ⟨(some 92), none, false, (.extract (.tmp 88) 0)⟩, ⟨(some 93), none, false, (.extract (.tmp 88) 1)⟩, ⟨(some 15), none, false, (.mov (.tmp 92))⟩, ⟨(some 16), none, false, (.mov (.tmp 93))⟩]) (.seq (.ops [⟨(some 94), none, false, (.mov (.tmp 15))⟩, ⟨(some 95), none, false, (.mov (.tmp 11))⟩, ⟨(some 96), none, false, (.bin .str .neq (.tmp 94) (.tmp 95))⟩, ⟨(some 97), none, false, (.mov (.tmp 96))⟩, ⟨(some 98), (some (97, false)), false, (.mov (.tmp 16))⟩, ⟨(some 99), (some (97, false)), false, (.bin .int .neq (.tmp 98) (.const (.int .i64 0)))⟩, ⟨(some 100), none, false, (.pick (.tmp 97) (.const (.bool true)) (.tmp 99))⟩]) (.cond (.tmp 100) (.seq (.ops [⟨(some 10), none, false, (.mov (.const (.bool false)))⟩]) .ret) .skip))) (.seq (.ops [⟨(some 102), none, false, (.load true 3 (.tmp 5))⟩, ⟨(some 103), none, false, (.mov (.tmp 1))⟩, ⟨(some 104), none, false, (.call false (.func 50) [(.tmp 102), (.tmp 103)])⟩, ⟨(some 101), none, false, (.mov (.tmp 104))⟩, ⟨(some 105), none, false, (.extract (.tmp 101) 0)⟩, ⟨(some 106), none, false, (.extract (.tmp 101) 1)⟩, ⟨(some 17), none, false, (.mov (.tmp 105))⟩, ⟨(some 13), none, false, (.mov (.tmp 106))⟩]) (.seq (.seq (.ops [⟨(some 107), none, false, (.mov (.tmp 13))⟩, ⟨(some 108), none, false, (.bin .int .neq (.tmp 107) (.const (.int .i64 0)))⟩]) (.cond (.tmp 108) (.seq (.ops [⟨(some 10), none, false, (.mov (.const (.bool false)))⟩]) .ret) .skip)) (.seq (.ops [⟨(some 18), none, false, (.mov (.const (.string ⟨#[]⟩)))⟩, ⟨(some 19), none, false, (.mov (.const (.int .i64 0)))⟩]) (.seq (.seq (.ops [⟨(some 109), none, false, (.mov (.tmp 2))⟩, ⟨(some 110), none, false, (.len (.tmp 109))⟩, ⟨(some 111), none, false, (.mov (.const (.int .i64 0)))⟩]) (.block 0 (.loop (.seq (.ops [⟨(some 112), none, false, (.bin .int .lss (.tmp 111) (.tmp 110))⟩]) (.seq (.cond (.tmp 112) .skip (.exit 0)) (.seq (.block 1 (.seq (.ops [⟨(some 113), none, false, (.idxS 1 (.tmp 109) (.tmp 111))⟩, ⟨(some 114), none, false, (.load false 1 (.tmp 113))⟩, ⟨(some 21), none, false, (.mov (.tmp 114))⟩]) (.seq (.ops [⟨(some 116), none, false, (.mov (.tmp 17))⟩, ⟨(some 117), none, false, (.mov (.tmp 21))⟩, ⟨(some 118), none, false, (.call false (.func 51) [(.tmp 116), (.tmp 117)])⟩, ⟨(some 115), none, false, (.mov (.tmp 118))⟩, ⟨(some 119), none, false, (.extract (.tmp 115) 0)⟩, ⟨(some 120), none, false, (.extract (.tmp 115) 1)⟩, ⟨(some 22), none, false, (.mov (.tmp 119))⟩, ⟨(some 23), none, false, (.mov (.tmp 120))⟩]) (.seq (.ops [⟨(some 121), none, false, (.mov (.tmp 18))⟩, ⟨(some 122), none, false, (.mov (.tmp 22))⟩, ⟨(some 123), none, false, (.bin .str .add (.tmp 121) (.tmp 122))⟩, ⟨(some 18), none, false, (.mov (.tmp 123))⟩]) (.seq (.ops [⟨(some 124), none, false, (.mov (.tmp 19))⟩, ⟨(some 125), none, false, (.mov (.tmp 21))⟩, ⟨(some 126), none, false, (.lenStr (.tmp 125))⟩, ⟨(some 127), none, false, (.bin .int .add (.tmp 124) (.tmp 126))⟩, ⟨(some 19), none, false, (.mov (.tmp 127))⟩]) (.seq (.ops [⟨(some 128), none, false, (.mov (.tmp 19))⟩, ⟨(some 129), none, false, (.bin .int .sub (.tmp 128) (.const (.int .i64 1)))⟩, ⟨(some 130), none, false, (.max (.const (.int .i64 0)) [(.tmp 129)])⟩, ⟨(some 131), none, false, (.bin .int .quo (.tmp 130) (.const (.int .i64 1024)))⟩, ⟨(some 132), none, false, (.bin .int .mul (.tmp 131) (.const (.int .i64 1040)))⟩, ⟨(some 133), none, false, (.bin .int .add (.const (.int .i64 20)) (.tmp 132))⟩, ⟨(some 24), none, false, (.mov (.tmp 133))⟩]) (.seq (.ops [⟨(some 134), none, false, (.mov (.tmp 23))⟩, ⟨(some 135), none, false, (.bin .int .neq (.tmp 134) (.const (.int .i64 0)))⟩, ⟨(some 136), none, false, (.mov (.tmp 135))⟩, ⟨(some 137), (some (136, false)), false, (.mov (.tmp 18))⟩, ⟨(some 138), (some (136, false)), false, (.lenStr (.tmp 137))⟩, ⟨(some 139), (some (136, false)), false, (.mov (.tmp 24))⟩, ⟨(some 140), (some (136, false)), false, (.bin .int .neq (.tmp 138) (.tmp 139))⟩, ⟨(some 141), none, false, (.pick (.tmp 136) (.const (.bool true)) (.tmp 140))⟩, ⟨(some 142), none, false, (.mov (.tmp 141))⟩, ⟨(some 143), (some (142, false)), false, (.mov (.tmp 18))⟩, ⟨(some 144), (some (142, false)), false, (.mov (.tmp 12))⟩, ⟨(some 145), (some (142, false)), false, (.mov (.tmp 24))⟩, ⟨(some 146), (some (142, false)), false, (.sliceStr (.tmp 144) none (some (.tmp 145)))⟩, ⟨(some 147), (some (142, false)), false, (.bin .str .neq (.tmp 143) (.tmp 146))⟩, ⟨(some 148), none, false, (.pick (.tmp 142) (.const (.bool true)) (.tmp 147))⟩]) (.cond (.tmp 148) (.seq (.ops [⟨(some 10), none, false, (.mov (.const (.bool false)))⟩]) .ret) .skip)))))))) (.ops [⟨(some 149), none, false, (.bin .int .add (.tmp 111) (.const (.int .i64 1)))⟩, ⟨(some 111), none, false, (.mov (.tmp 149))⟩]))))))) (.seq (.ops [⟨(some 151), none, false, (.mov (.tmp 17))⟩, ⟨(some 152), none, false, (.call false (.func 52) [(.tmp 151)])⟩, ⟨(some 150), none, false, (.mov (.tmp 152))⟩, ⟨(some 153), none, false, (.extract (.tmp 150) 0)⟩, ⟨(some 154), none, false, (.extract (.tmp 150) 1)⟩, ⟨(some 25), none, false, (.mov (.tmp 153))⟩, ⟨(some 26), none, false, (.mov (.tmp 154))⟩]) (.seq (.seq (.ops [⟨(some 155), none, false, (.mov (.tmp 18))⟩, ⟨(some 156), none, false, (.mov (.tmp 25))⟩, ⟨(some 157), none, false, (.bin .str .add (.tmp 155) (.tmp 156))⟩, ⟨(some 158), none, false, (.mov (.tmp 12))⟩, ⟨(some 159), none, false, (.bin .str .neq (.tmp 157) (.tmp 158))⟩, ⟨(some 160), none, false, (.mov (.tmp 159))⟩, ⟨(some 161), (some (160, false)), false, (.mov (.tmp 26))⟩, ⟨(some 162), (some (160, false)), false, (.bin .int .neq (.tmp 161) (.const (.int .i64 0)))⟩, ⟨(some 163), none, false, (.pick (.tmp 160) (.const (.bool true)) (.tmp 162))⟩]) (.cond (.tmp 163) (.seq (.ops [⟨(some 10), none, false, (.mov (.const (.bool false)))⟩]) .ret) .skip)) (.seq (.ops [⟨(some 165), none, false, (.mov (.tmp 11))⟩, ⟨(some 166), none, false, (.lenStr (.tmp 165))⟩, ⟨(some 167), none, false, (.mov (.tmp 3))⟩, ⟨(some 168), none, false, (.mov (.tmp 4))⟩, ⟨(some 169), none, false, (.call false (.func 53) [(.tmp 166), (.tmp 167), (.tmp 168)])⟩, ⟨(some 164), none, false, (.mov (.tmp 169))⟩, ⟨(some 170), none, false, (.extract (.tmp 164) 0)⟩, ⟨(some 171), none, false, (.extract (.tmp 164) 1)⟩, ⟨(some 172), none, false, (.extract (.tmp 164) 2)⟩, ⟨(some 27), none, false, (.mov (.tmp 170))⟩, ⟨(some 28), none, false, (.mov (.tmp 171))⟩, ⟨(some 29), none, false, (.mov (.tmp 172))⟩]) (.seq (.ops [⟨(some 173), none, false, (.mov (.tmp 3))⟩, ⟨(some 174), none, false, (.bin .int .lss (.tmp 173) (.const (.int .i64 0)))⟩, ⟨(some 175), none, false, (.mov (.tmp 174))⟩, ⟨(some 176), (some (175, false)), false, (.mov (.tmp 4))⟩, ⟨(some 177), (some (175, false)), false, (.bin .int .lss (.tmp 176) (.const (.int .i64 0)))⟩, ⟨(some 178), none, false, (.pick (.tmp 175) (.const (.bool true)) (.tmp 177))⟩, ⟨(some 179), none, false, (.call false (.func 21) [(.tmp 178), (.const (.int .i64 7))])⟩, ⟨(some 30), none, false, (.mov (.tmp 179))⟩]) (.seq (.seq (.ops [⟨(some 180), none, false, (.mov (.tmp 30))⟩, ⟨(some 181), none, false, (.bin .int .neq (.tmp 180) (.const (.int .i64 0)))⟩]) (.cond (.tmp 181) (.seq (.ops [⟨(some 182), none, false, (.mov (.tmp 27))⟩, ⟨(some 183), none, false, (.bin .int .eql (.tmp 182) (.const (.int .i64 0)))⟩, ⟨(some 184), none, false, (.mov (.tmp 183))⟩, ⟨(some 185), (some (184, true)), false, (.mov (.tmp 28))⟩, ⟨(some 186), (some (184, true)), false, (.bin .int .eql (.tmp 185) (.const (.int .i64 0)))⟩, ⟨(some 187), none, false, (.pick (.tmp 184) (.tmp 186) (.const (.bool false)))⟩, ⟨(some 188), none, false, (.mov (.tmp 187))⟩, ⟨(some 189), (some (188, true)), false, (.mov (.tmp 29))⟩, ⟨(some 190), (some (188, true)), false, (.mov (.tmp 30))⟩, ⟨(some 191), (some (188, true)), false, (.bin .int .eql (.tmp 189) (.tmp 190))⟩, ⟨(some 192), none, false, (.pick (.tmp 188) (.tmp 191) (.const (.bool false)))⟩, ⟨(some 10), none, false, (.mov (.tmp 192))⟩]) .ret) .skip)) (.seq (.ops [⟨(some 194), none, false, (.mov (.tmp 11))⟩, ⟨(some 195), none, false, (.lenStr (.tmp 194))⟩, ⟨(some 196), none, false, (.mov (.tmp 3))⟩, ⟨(some 197), none, false, (.mov (.tmp 4))⟩, ⟨(some 198), none, false, (.call false (.func 45) [(.tmp 195), (.tmp 196), (.tmp 197)])⟩, ⟨(some 193), none, false, (.mov (.tmp 198))⟩, ⟨(some 199), none, false, (.extract (.tmp 193) 0)⟩, ⟨(some 200), none, false, (.extract (.tmp 193) 1)⟩, ⟨(some 31), none, false, (.mov (.tmp 199))⟩, ⟨(some 32), none, false, (.mov (.tmp 200))⟩]) (.seq (.seq (.ops [⟨(some 201), none, false, (.mov (.tmp 29))⟩, ⟨(some 202), none, false, (.bin .int .neq (.tmp 201) (.const (.int .i64 0)))⟩, ⟨(some 203), none, false, (.mov (.tmp 202))⟩, ⟨(some 204), (some (203, false)), false, (.mov (.tmp 27))⟩, ⟨(some 205), (some (203, false)), false, (.mov (.tmp 31))⟩, ⟨(some 206), (some (203, false)), false, (.bin .int .neq (.tmp 204) (.tmp 205))⟩, ⟨(some 207), none, false, (.pick (.tmp 203) (.const (.bool true)) (.tmp 206))⟩, ⟨(some 208), none, false, (.mov (.tmp 207))⟩, ⟨(some 209), (some (208, false)), false, (.mov (.tmp 28))⟩, ⟨(some 210), (some (208, false)), false, (.mov (.tmp 32))⟩, ⟨(some 211), (some (208, false)), false, (.bin .int .neq (.tmp 209) (.tmp 210))⟩, ⟨(some 212), none, false, (.pick (.tmp 208) (.const (.bool true)) (.tmp 211))⟩]) (.cond (.tmp 212) (.seq (.ops [⟨(some 10), none, false, (.mov (.const (.bool false)))⟩]) .ret) .skip)) (.seq (.ops [⟨(some 33), none, false, (.mov (.const (.string ⟨#[]⟩)))⟩]) (.seq (.seq (.ops [⟨(some 213), none, false, (.mov (.tmp 3))⟩, ⟨(some 214), none, false, (.mov (.tmp 11))⟩, ⟨(some 215), none, false, (.lenStr (.tmp 214))⟩, ⟨(some 216), none, false, (.bin .int .lss (.tmp 213) (.tmp 215))⟩]) (.cond (.tmp 216) (.ops [⟨(some 217), none, false, (.mov (.tmp 11))⟩, ⟨(some 218), none, false, (.mov (.tmp 3))⟩, ⟨(some 219), none, false, (.mov (.tmp 3))⟩, ⟨(some 220), none, false, (.mov (.tmp 4))⟩, ⟨(some 221), none, false, (.mov (.tmp 11))⟩, ⟨(some 222), none, false, (.lenStr (.tmp 221))⟩, ⟨(some 223), none, false, (.mov (.tmp 3))⟩, ⟨(some 224), none, false, (.bin .int .sub (.tmp 222) (.tmp 223))⟩, ⟨(some 225), none, false, (.min (.tmp 220) [(.tmp 224)])⟩, ⟨(some 226), none, false, (.bin .int .add (.tmp 219) (.tmp 225))⟩, ⟨(some 227), none, false, (.sliceStr (.tmp 217) (some (.tmp 218)) (some (.tmp 226)))⟩, ⟨(some 33), none, false, (.mov (.tmp 227))⟩]) .skip)) (.seq (.opsD [⟨(some 229), none, false, (.load true 3 (.tmp 5))⟩, ⟨(some 230), none, false, (.mov (.tmp 12))⟩, ⟨(some 231), none, false, (.sliceStr (.tmp 230) none (some (.const (.int .i64 20))))⟩, ⟨(some 232), none, false, (.mov (.tmp 12))⟩, ⟨(some 233), none, false, (.mov (.tmp 27))⟩, ⟨(some 234), none, false, (.mov (.tmp 27))⟩, ⟨(some 235), none, false, (.mov (.tmp 28))⟩, ⟨(some 236), none, false, (.bin .int .add (.tmp 234) (.tmp 235))⟩, ⟨(some 237), none, false, (.sliceStr (.tmp 232) (some (.tmp 233)) (some (.tmp 236)))⟩, ⟨(some 238), none, false, (.mov (.tmp 11))⟩, ⟨(some 239), none, false, (.lenStr (.tmp 238))⟩, ⟨(some 240), none, false, (.mov (.tmp 3))⟩, ⟨(some 241), none, false, (.mov (.tmp 4))⟩, ⟨(some 242), none, false, (.call false (.func 46) [(.tmp 229), (.tmp 231), (.tmp 237), (.tmp 239), (.tmp 240), (.tmp 241)])⟩, ⟨(some 228), none, false, (.mov (.tmp 242))⟩, ⟨(some 243), none, false, (.extract (.tmp 228) 0)⟩, ⟨(some 244), none, false, (.extract (.tmp 228) 1)⟩, ⟨(some 34), none, false, (.mov (.tmp 243))⟩, ⟨(some 35), none, false, (.mov (.tmp 244))⟩]) (.seq (.ops [⟨(some 245), none, false, (.mov (.tmp 34))⟩, ⟨(some 246), none, false, (.mov (.tmp 33))⟩, ⟨(some 247), none, false, (.bin .str .eql (.tmp 245) (.tmp 246))⟩, ⟨(some 248), none, false, (.mov (.tmp 247))⟩, ⟨(some 249), (some (248, true)), false, (.mov (.tmp 35))⟩, ⟨(some 250), (some (248, true)), false, (.bin .int .eql (.tmp 249) (.const (.int .i64 0)))⟩, ⟨(some 251), none, false, (.pick (.tmp 248) (.tmp 250) (.const (.bool false)))⟩, ⟨(some 10), none, false, (.mov (.tmp 251))⟩]) .ret)))))))))))))))))))))))
def m12 : MFun := ⟨k12, [(.tmp 10)]⟩
theorem c12 : compFn Try.prog Try.f12 = some m12 := by kernel_rfl
end Go.Proofs.Ytildhljhbbhmmaa.AM
namespace Go.Proofs.Ytildhljhbbhmmaa.AM
open Go
set_option linter.all false
set_option maxRecDepth 10000
variable {tbl : Tbl} [hT : TMono tbl]

theorem v80 (h80 : tbl 80 = some (.nat natGrow)) {n : Nat} (h0 : 1 ≤ n) (h1 : n ≤ 1000000000) (H : AH) : Val tbl 80 [.slice none 0 0, .int .i64 n] H (.slice (some ⟨H.next, 0, none⟩) 0 0) (H.push ⟨[], 1, false⟩) := by
  refine ⟨1, ?_⟩
  simp only [evF, h80, natGrow]
  rw [if_pos ⟨by omega, by omega⟩]
/-- A slice of bytes of one's own. -/
def Own0 (base : Nat) (H : AH) (v : Value) (l : List UInt8) : Prop := ∃ b, v = .slice (some ⟨b, 0, none⟩) l.length l.length ∧ H.get b = some (u8r l) ∧ base ≤ b
theorem Own0.append {base : Nat} {H : AH} {v : Value} {l : List UInt8} (h : Own0 base H v l) (hb : base ≤ H.next) (new : List UInt8) (hs : l.length + new.length ≤ 140737488355328) :
    ∃ s' H', appended H 1 1 v new.length (bc new) = some (s', H') ∧ Own0 base H' s' (l ++ new) ∧ (∀ id, id < base → H'.get id = H.get id) ∧ H.next ≤ H'.next ∧ (∀ m, m ≤ base → m ≤ H.low → m ≤ H'.low) := by
  obtain ⟨b, rfl, h1, h2⟩ := h
  have hlt := AH.get_lt h1
  have hbl : (bc new).length = new.length := by simp [bc]
  cases new with
  | nil =>
    refine ⟨.slice (some ⟨b, 0, none⟩) l.length l.length, H.set b (some (u8r l)), ?_, ⟨b, by simp, by rw [AH.get_set_eq _ _ hlt]; simp, h2⟩, fun id hid => AH.get_set_ne H _ (by omega), by rw [AH.next_set]; omega, fun m hm hl => ?_⟩
    · simp only [appended, h1]
      have hst : stU H (addA ⟨b, 0, none⟩ (l.length * 1)) (bc []) = some (H.set b (some (u8r l))) := by
        unfold stU
        have e : (addA ⟨b, 0, none⟩ (l.length * 1)).block = b := rfl
        rw [e, h1]
        simp only
        rw [if_pos ⟨rfl, by rw [u8r_len]; simp [bc, addA]⟩]
        rfl
      rw [if_pos ⟨rfl, rfl⟩, if_pos (by simp), hst]
      simp only [List.length_nil, Nat.add_zero]
    · show m ≤ min H.low b
      omega
  | cons x new =>
    refine ⟨.slice (some ⟨H.next, 0, none⟩) (l.length + (x :: new).length) (l.length + (x :: new).length), (H.set b none).push ⟨bc l ++ bc (x :: new), 1, false⟩, ?_, ⟨H.next, by rw [List.length_append], ?_, hb⟩, fun id hid => ?_, ?_, fun m hm hl => ?_⟩
    · simp only [appended, h1]
      rw [if_pos ⟨rfl, rfl⟩, if_neg (by simp), ldc_all (es := 1) (n := l.length) h1 (by rw [bc_len]; omega)]
      simp only
      rw [if_pos (by omega)]
    · rw [← AH.next_set H b none, AH.get_push_eq]
      simp [u8r, bc]
    · rw [AH.get_push_lt _ _ (by rw [AH.next_set]; omega)]
      exact AH.get_set_ne H none (by omega)
    · rw [AH.next_push, AH.next_set]; omega
    · show m ≤ min H.low b
      omega
/-- A slice of bytes; an empty one may lie nowhere. -/
def Sb (H : AH) (v : Value) (l : List UInt8) : Prop := ∃ a c, v = .slice (some a) l.length c ∧ (ldc H a l.length = some (bc l) ∨ l = [])
theorem Sb.added {H : AH} {v : Value} {l : List UInt8} (h : Sb H v l) : AM.added H 1 v = some (l.length, bc l) := by
  obtain ⟨a, c, rfl, h1⟩ := h
  rw [added_slc, Nat.mul_one]
  rcases h1 with h1 | rfl
  · rw [h1]; rfl
  · refine orZ_zero fun x hx => ?_
    cases hl : ldc H a ([] : List UInt8).length with
    | none => rw [hl] at hx; simp at hx
    | some l =>
      have := ldc_len hl
      rw [hl] at hx
      simp only [Option.map_some, Option.some.injEq] at hx
      rw [← hx, List.eq_nil_of_length_eq_zero this]
      rfl
theorem Sb.keep {H H' : AH} {v : Value} {l : List UInt8} (h : Sb H v l) (hk : ∀ id, id < H.next → H'.get id = H.get id) : Sb H' v l := by
  obtain ⟨a, c, rfl, h1⟩ := h
  refine ⟨a, c, rfl, ?_⟩
  rcases h1 with h1 | h1
  · left
    have := ldc_lt h1
    rw [ldc_eq, hk _ this, ← ldc_eq]
    exact h1
  · exact .inr h1
theorem Sl.kept {H H' : AH} {es n : Nat} {v : Value} {l : List Value} (h : Sl H es v n l) (hk : ∀ id, id < H.next → H'.get id = H.get id) : Sl H' es v n l := by
  rcases h with h | ⟨a, c, rfl, h⟩
  · exact .inl h
  · exact .inr ⟨a, c, rfl, by rw [ldc_eq, hk _ (ldc_lt h), ← ldc_eq]; exact h⟩
def catB (ls : List (List UInt8)) (i : Nat) : List UInt8 := (ls.take i).flatten
theorem catB_succ {ls : List (List UInt8)} {i : Nat} (h : i < ls.length) : catB ls (i + 1) = catB ls i ++ ls[i] := by
  rw [catB, catB, List.take_succ, List.flatten_append, List.getElem?_eq_getElem h]
  simp
theorem catB_all {ls : List (List UInt8)} : catB ls ls.length = ls.flatten := by rw [catB, List.take_length]
theorem catB_le {ls : List (List UInt8)} {i : Nat} : (catB ls i).length ≤ ls.flatten.length := by
  have : ls.flatten = catB ls i ++ (ls.drop i).flatten := by rw [catB, ← List.flatten_append, List.take_append_drop]
  rw [this, List.length_append]; omega
theorem v47 (h47 : tbl 47 = some (.code m47)) (h80 : tbl 80 = some (.nat natGrow)) {v : Value} {vs : List Value} {ls : List (List UInt8)} {H : AH} (hv : Sl H 1 v ls.length vs) (hb : ∀ i (h : i < ls.length), ∃ w, vs[i]? = some w ∧ Sb H w ls[i]) (h0 : 1 ≤ ls.flatten.length) (h1 : ls.flatten.length ≤ 1000000) (h2 : ls.length ≤ 1000) :
    Val tbl 47 [v] H (mkS H ls.flatten.length) (mkH H 1 ls.flatten.length (bc ls.flatten)) := by
  refine Val.of_all fun Q hQ => ?_
  rw [rn_fun h47, k47]
  obtain ⟨ad, cp, rfl⟩ := hv.shape
  have hvE : Sl H.enter 1 (.slice ad ls.length cp) ls.length vs := hv
  simp only [go_sem, Nat.reduceEqDiff, Nat.reduceAdd, Nat.reduceLeDiff, Int.reduceEq, Int.reduceLT, Int.reduceLE, Int.reduceAdd, Int.reduceSub, Int.reduceMul, Int.reduceNeg, Int.reduceToNat, Nat.reduceMul]
  refine rn_loop (tbl := tbl) (fun m f H' => H' = H.enter ∧ ∃ i : Nat, m = ls.length - i ∧ i ≤ ls.length ∧ f 0 = .slice ad ls.length cp ∧ f 3 = .int .i64 (catB ls i).length ∧ f 9 = .slice ad ls.length cp ∧ f 10 = .int .i64 ls.length ∧ f 11 = .int .i64 i) ?_ (n := ls.length)
    ⟨rfl, 0, by omega, by omega, by simp only [go_sem, Nat.reduceEqDiff, Nat.reduceAdd, Nat.reduceLeDiff, Int.reduceEq, Int.reduceLT, Int.reduceLE, Int.reduceAdd, Int.reduceSub, Int.reduceMul, Int.reduceNeg, Int.reduceToNat, Nat.reduceMul], by simp only [go_sem, Nat.reduceEqDiff, Nat.reduceAdd, Nat.reduceLeDiff, Int.reduceEq, Int.reduceLT, Int.reduceLE, Int.reduceAdd, Int.reduceSub, Int.reduceMul, Int.reduceNeg, Int.reduceToNat, Nat.reduceMul] <;> rfl, by simp only [go_sem, Nat.reduceEqDiff, Nat.reduceAdd, Nat.reduceLeDiff, Int.reduceEq, Int.reduceLT, Int.reduceLE, Int.reduceAdd, Int.reduceSub, Int.reduceMul, Int.reduceNeg, Int.reduceToNat, Nat.reduceMul], by simp only [go_sem, Nat.reduceEqDiff, Nat.reduceAdd, Nat.reduceLeDiff, Int.reduceEq, Int.reduceLT, Int.reduceLE, Int.reduceAdd, Int.reduceSub, Int.reduceMul, Int.reduceNeg, Int.reduceToNat, Nat.reduceMul], by simp only [go_sem, Nat.reduceEqDiff, Nat.reduceAdd, Nat.reduceLeDiff, Int.reduceEq, Int.reduceLT, Int.reduceLE, Int.reduceAdd, Int.reduceSub, Int.reduceMul, Int.reduceNeg, Int.reduceToNat, Nat.reduceMul] <;> rfl⟩
  rintro m f H' ⟨rfl, i, rfl, hi, f0, f3, f9, f10, f11⟩
  by_cases hlt : (i : Int) < (ls.length : Int)
  · have hi2 : i < ls.length := by omega
    obtain ⟨w, hw, hsb⟩ := hb i hi2
    obtain ⟨a, c, rfl, hld⟩ := hsb
    clear hld
    have hcs := catB_succ hi2
    have hle := catB_le (ls := ls) (i := i + 1)
    have w1 := w64 (x := (i : Int) + 1) (by omega) (by omega)
    have w2 := w64 (x := ((catB ls i).length : Int) + (ls[i].length : Int)) (by rw [hcs, List.length_append] at hle; omega) (by rw [hcs, List.length_append] at hle; omega)
    have n1 : ¬ ((catB ls i).length : Int) + (ls[i].length : Int) < 0 := by omega
    simp only [f0, f3, f9, f10, f11, hlt, go_sem, Nat.reduceEqDiff, Nat.reduceAdd, Nat.reduceLeDiff, Int.reduceEq, Int.reduceLT, Int.reduceLE, Int.reduceAdd, Int.reduceSub, Int.reduceMul, Int.reduceNeg, Int.reduceToNat, Nat.reduceMul]
    refine hv.at_ hi2 fun p hp1 hp2 => ?_
    have hvl : i < vs.length := by rw [hv.len]; omega
    rw [Nat.mul_one, take_one hvl] at hp2
    have hwe : vs[i] = .slice (some a) ls[i].length c := by rw [List.getElem?_eq_getElem hvl] at hw; exact Option.some.inj hw
    rw [hwe] at hp2
    simp only [f0, f3, f9, f10, f11, hp2, w1, w2, n1, go_sem, Nat.reduceEqDiff, Nat.reduceAdd, Nat.reduceLeDiff, Int.reduceEq, Int.reduceLT, Int.reduceLE, Int.reduceAdd, Int.reduceSub, Int.reduceMul, Int.reduceNeg, Int.reduceToNat, Nat.reduceMul]
    exact ⟨ls.length - (i + 1), by omega, rfl, i + 1, by omega, by omega, by simp only [f0, go_sem, Nat.reduceEqDiff, Nat.reduceAdd, Nat.reduceLeDiff, Int.reduceEq, Int.reduceLT, Int.reduceLE, Int.reduceAdd, Int.reduceSub, Int.reduceMul, Int.reduceNeg, Int.reduceToNat, Nat.reduceMul], by simp only [go_sem, Nat.reduceEqDiff, Nat.reduceAdd, Nat.reduceLeDiff, Int.reduceEq, Int.reduceLT, Int.reduceLE, Int.reduceAdd, Int.reduceSub, Int.reduceMul, Int.reduceNeg, Int.reduceToNat, Nat.reduceMul]; rw [hcs, List.length_append]; simp, by simp only [f9, go_sem, Nat.reduceEqDiff, Nat.reduceAdd, Nat.reduceLeDiff, Int.reduceEq, Int.reduceLT, Int.reduceLE, Int.reduceAdd, Int.reduceSub, Int.reduceMul, Int.reduceNeg, Int.reduceToNat, Nat.reduceMul], by simp only [f10, go_sem, Nat.reduceEqDiff, Nat.reduceAdd, Nat.reduceLeDiff, Int.reduceEq, Int.reduceLT, Int.reduceLE, Int.reduceAdd, Int.reduceSub, Int.reduceMul, Int.reduceNeg, Int.reduceToNat, Nat.reduceMul], by simp only [go_sem, Nat.reduceEqDiff, Nat.reduceAdd, Nat.reduceLeDiff, Int.reduceEq, Int.reduceLT, Int.reduceLE, Int.reduceAdd, Int.reduceSub, Int.reduceMul, Int.reduceNeg, Int.reduceToNat, Nat.reduceMul] <;> rfl⟩
  · have hie : i = ls.length := by omega
    rw [hie, catB_all] at f3
    have hg := v80 h80 h0 (by omega) H.enter
    simp only [f0, f3, f9, f10, f11, hlt, ↓hg.run, go_sem, Nat.reduceEqDiff, Nat.reduceAdd, Nat.reduceLeDiff, Int.reduceEq, Int.reduceLT, Int.reduceLE, Int.reduceAdd, Int.reduceSub, Int.reduceMul, Int.reduceNeg, Int.reduceToNat, Nat.reduceMul]
    refine rn_loop (tbl := tbl) (fun m f H' => ∃ (i : Nat) (v' : Value), m = ls.length - i ∧ i ≤ ls.length ∧ f 6 = v' ∧ f 25 = .slice ad ls.length cp ∧ f 26 = .int .i64 ls.length ∧ f 27 = .int .i64 i ∧ Own0 H.next H' v' (catB ls i) ∧ (∀ id, id < H.next → H'.get id = H.get id) ∧ H.next ≤ H'.next ∧ H.next ≤ H'.low) ?_ (n := ls.length)
      ⟨0, _, by omega, by omega, by simp only [go_sem, Nat.reduceEqDiff, Nat.reduceAdd, Nat.reduceLeDiff, Int.reduceEq, Int.reduceLT, Int.reduceLE, Int.reduceAdd, Int.reduceSub, Int.reduceMul, Int.reduceNeg, Int.reduceToNat, Nat.reduceMul] <;> rfl, by simp only [f0, go_sem, Nat.reduceEqDiff, Nat.reduceAdd, Nat.reduceLeDiff, Int.reduceEq, Int.reduceLT, Int.reduceLE, Int.reduceAdd, Int.reduceSub, Int.reduceMul, Int.reduceNeg, Int.reduceToNat, Nat.reduceMul], by simp only [go_sem, Nat.reduceEqDiff, Nat.reduceAdd, Nat.reduceLeDiff, Int.reduceEq, Int.reduceLT, Int.reduceLE, Int.reduceAdd, Int.reduceSub, Int.reduceMul, Int.reduceNeg, Int.reduceToNat, Nat.reduceMul] <;> rfl, by simp only [go_sem, Nat.reduceEqDiff, Nat.reduceAdd, Nat.reduceLeDiff, Int.reduceEq, Int.reduceLT, Int.reduceLE, Int.reduceAdd, Int.reduceSub, Int.reduceMul, Int.reduceNeg, Int.reduceToNat, Nat.reduceMul] <;> rfl, ⟨H.next, rfl, AH.get_push_eq H.enter _, Nat.le_refl _⟩, fun id hid => AH.get_push_lt H.enter _ hid, by rw [AH.next_push, nx_enter]; omega, by rw [lw_push, lw_enter]; omega⟩
    rintro m f H' ⟨i, v', rfl, hi, f6, f25, f26, f27, ho, hk, n1, l1⟩
    by_cases hlt : (i : Int) < (ls.length : Int)
    · have hi2 : i < ls.length := by omega
      obtain ⟨w, hw, hsb⟩ := hb i hi2
      have hcs := catB_succ hi2
      have hle := catB_le (ls := ls) (i := i + 1)
      have w1 := w64 (x := (i : Int) + 1) (by omega) (by omega)
      have hadd := (hsb.keep hk).added
      obtain ⟨s', H2, ha, ho2, hk2, n2, l2⟩ := ho.append n1 ls[i] (by rw [hcs, List.length_append] at hle; omega)
      rw [← hcs] at ho2
      simp only [f6, f25, f26, f27, hlt, go_sem, Nat.reduceEqDiff, Nat.reduceAdd, Nat.reduceLeDiff, Int.reduceEq, Int.reduceLT, Int.reduceLE, Int.reduceAdd, Int.reduceSub, Int.reduceMul, Int.reduceNeg, Int.reduceToNat, Nat.reduceMul]
      refine (hv.kept hk).at_ hi2 fun p hp1 hp2 => ?_
      have hvl : i < vs.length := by rw [hv.len]; omega
      rw [Nat.mul_one, take_one hvl] at hp2
      have hwe : vs[i] = w := by rw [List.getElem?_eq_getElem hvl] at hw; exact Option.some.inj hw
      rw [hwe] at hp2
      simp only [f6, f25, f26, f27, hp2, w1, hadd, ha, go_sem, Nat.reduceEqDiff, Nat.reduceAdd, Nat.reduceLeDiff, Int.reduceEq, Int.reduceLT, Int.reduceLE, Int.reduceAdd, Int.reduceSub, Int.reduceMul, Int.reduceNeg, Int.reduceToNat, Nat.reduceMul]
      exact ⟨ls.length - (i + 1), by omega, i + 1, s', by omega, by omega, by simp only [go_sem, Nat.reduceEqDiff, Nat.reduceAdd, Nat.reduceLeDiff, Int.reduceEq, Int.reduceLT, Int.reduceLE, Int.reduceAdd, Int.reduceSub, Int.reduceMul, Int.reduceNeg, Int.reduceToNat, Nat.reduceMul], by simp only [f25, go_sem, Nat.reduceEqDiff, Nat.reduceAdd, Nat.reduceLeDiff, Int.reduceEq, Int.reduceLT, Int.reduceLE, Int.reduceAdd, Int.reduceSub, Int.reduceMul, Int.reduceNeg, Int.reduceToNat, Nat.reduceMul], by simp only [f26, go_sem, Nat.reduceEqDiff, Nat.reduceAdd, Nat.reduceLeDiff, Int.reduceEq, Int.reduceLT, Int.reduceLE, Int.reduceAdd, Int.reduceSub, Int.reduceMul, Int.reduceNeg, Int.reduceToNat, Nat.reduceMul], by simp only [go_sem, Nat.reduceEqDiff, Nat.reduceAdd, Nat.reduceLeDiff, Int.reduceEq, Int.reduceLT, Int.reduceLE, Int.reduceAdd, Int.reduceSub, Int.reduceMul, Int.reduceNeg, Int.reduceToNat, Nat.reduceMul] <;> rfl, ho2, fun id hid => (hk2 id hid).trans (hk id hid), by omega, l2 _ (Nat.le_refl _) l1⟩
    · have hie : i = ls.length := by omega
      rw [hie, catB_all] at ho
      obtain ⟨bk, rfl, g1, g2⟩ := ho
      simp only [f6, f25, f26, f27, hlt, go_sem, Nat.reduceEqDiff, Nat.reduceAdd, Nat.reduceLeDiff, Int.reduceEq, Int.reduceLT, Int.reduceLE, Int.reduceAdd, Int.reduceSub, Int.reduceMul, Int.reduceNeg, Int.reduceToNat, Nat.reduceMul]
      rw [back_own (base := H.next) (es := 1) (n := ls.flatten.length) (l := bc ls.flatten) (.inr ⟨bk, rfl, g1, by rw [bc_len, Nat.mul_one], g2, h0⟩) (Nat.le_refl _) l1 (bc_p1 _)]
      exact hQ
end Go.Proofs.Ytildhljhbbhmmaa.AM
namespace Go.Proofs.Ytildhljhbbhmmaa.AM
open Go
set_option linter.all false
set_option maxRecDepth 10000
variable {tbl : Tbl} [hT : TMono tbl]

theorem slcAt_in {H : AH} {k n c lo hi : Nat} {l : List UInt8} (hk : H.get k = some (u8r l)) (h0 : 0 < lo) (h1 : lo < c) (h2 : hi ≤ c) : slcAt H 1 (.slice (some ⟨k, 0, none⟩) n c) lo hi = some (.slice (some ⟨k, lo, none⟩) (hi - lo) (c - lo)) := by
  simp only [slcAt, hk, u8r_es, if_true]
  rw [if_pos h2, if_neg (by omega), if_pos h1]
  simp [addA]
theorem slcAt_end {H : AH} {k n c : Nat} {l : List UInt8} (hk : H.get k = some (u8r l)) (h0 : 0 < c) (hd : H.get 0 = none) : slcAt H 1 (.slice (some ⟨k, 0, none⟩) n c) c c = some (.slice (some ⟨0, 0, none⟩) 0 0) := by
  simp only [slcAt, hk, u8r_es, if_true]
  rw [if_pos (Nat.le_refl _), if_neg (by omega), if_neg (by omega), if_pos hd]
theorem ldc_in {H : AH} {k lo hi : Nat} {l : List UInt8} (hk : H.get k = some (u8r l)) (h1 : lo ≤ hi) (h2 : hi ≤ l.length) : ldc H ⟨k, lo, none⟩ (hi - lo) = some (bc ((l.take hi).drop lo)) := by
  rw [ldc_eq, hk, ldcB_some, u8r_len, if_pos (by show lo + (hi - lo) ≤ l.length; omega)]
  simp only [u8r, bc, ← List.map_drop, ← List.map_take, List.drop_take]
theorem Sb_in {H : AH} {k lo hi c : Nat} {l : List UInt8} (hk : H.get k = some (u8r l)) (h1 : lo ≤ hi) (h2 : hi ≤ l.length) : Sb H (.slice (some ⟨k, lo, none⟩) (hi - lo) c) ((l.take hi).drop lo) := by
  have hl : ((l.take hi).drop lo).length = hi - lo := by rw [List.length_drop, List.length_take]; omega
  exact ⟨_, c, by rw [hl], .inl (by rw [hl]; exact ldc_in hk h1 h2)⟩
/-- How the two of them open a text. -/
theorem open_tail (R : RefT tbl) (F : FileT tbl) (a b c : List UInt8) (hk : keysW a b c = 0) (w : List UInt8) (hw : w.length ≤ 1000000) : ∃ (o : List UInt8) (e : Int), (∀ X, Val tbl 48 [.agg #[.string (tx a), .string (tx b), .string (tx c)], .string (tx w)] X (.tuple #[.string (tx o), .int .i64 e]) X) ∧ (∀ X, Val tbl 43 [.agg #[.string (tx a), .string (tx b), .string (tx c)], .string (tx w)] X (.tuple #[.string (tx (refT a w)), .bool (refB a w)]) X) ∧ (∀ X, Val tbl 27 [.string (tx o), .int .i64 e, .string (tx (refT a w)), .bool (refB a w)] X (.bool true) X) := by
  have h48 := fun X => v48 F.op a b c w X
  have h43 := fun X => v43 R F.rf F.h26 F.h43 a b c w (keys32 hk) hw X
  simp only [keysV, openR, hk, ne_eq, not_true, if_false] at h48 h43
  cases ho : openF a w with
  | none =>
    refine ⟨[], 19, fun X => ?_, h43, fun X => ?_⟩
    · have := h48 X; rw [ho] at this; exact this
    · have := v27 (tbl := tbl) F.h27 [] (refT a w) 19 (refB a w) X
      rw [open_none.1 ho] at this ⊢
      simpa using this
  | some v =>
    obtain ⟨g1, g2⟩ := open_iff.1 ho
    refine ⟨v, 0, fun X => ?_, h43, fun X => ?_⟩
    · have := h48 X; rw [ho] at this; exact this
    · have := v27 (tbl := tbl) F.h27 v (refT a w) 0 (refB a w) X
      rw [g1, g2] at this ⊢
      simpa using this
theorem kind4 (x : Int) : ∃ K : Int, (IntKind.wrap .u64 x).tmod 4 = K ∧ (K = 0 ∨ K = 1 ∨ K = 2 ∨ K = 3) := by
  refine ⟨_, rfl, ?_⟩
  have h := IntKind.wrap_u64 x
  rw [h, Int.tmod_eq_emod_of_nonneg (by omega)]
  omega
set_option maxHeartbeats 1000000 in
theorem v11 (T : SealT tbl) (R : RefT tbl) (F : FileT tbl) (h47 : tbl 47 = some (.code m47)) (h80 : tbl 80 = some (.nat natGrow)) (h11 : tbl 11 = some (.code m11)) (a b c n t : List UInt8) (kd pl : Int) (hpl : -9223372036854775808 ≤ pl ∧ pl ≤ 9223372036854775807) (y : Int) (hy : 0 ≤ y ∧ y ≤ 255) (H : AH) (hH : H.get 0 = none) (hH0 : 0 < H.next) :
    Val tbl 11 [keysV a b c, .string (tx n), .string (tx t), .int .i64 kd, .int .i64 pl, .int .u8 y] H (.bool true) H := by
  refine Val.of_all fun Q hQ => ?_
  rw [rn_fun h11, k11]
  have a17 := v17 T
  have a22 := v22 (tbl := tbl) R.h22 t
  have a44 := fun X => v44 F.sl a b c n t X
  rcases sealR_cases a b c n t with ⟨hk, hn, htl, hr⟩ | ⟨e, he, hr⟩
  case inr =>
    rw [hr] at a44
    simp only [keysV] at a44
    simp only [keysV, ↓(a44 _).run, ↓(a17 _).run, he, go_sem, Nat.reduceEqDiff, Nat.reduceAdd, Nat.reduceLeDiff, Int.reduceEq, Int.reduceLT, Int.reduceLE, Int.reduceAdd, Int.reduceSub, Int.reduceMul, Int.reduceNeg, Int.reduceToNat, Nat.reduceMul]
    exact hQ
  rw [hr] at a44
  by_cases ht : t.length ≤ 10000
  case neg =>
    simp only [keysV] at a44
    simp only [keysV, ↓(a44 _).run, ↓(a17 _).run, ↓(a22 _).run, ht, go_sem, Nat.reduceEqDiff, Nat.reduceAdd, Nat.reduceLeDiff, Int.reduceEq, Int.reduceLT, Int.reduceLE, Int.reduceAdd, Int.reduceSub, Int.reduceMul, Int.reduceNeg, Int.reduceToNat, Nat.reduceMul]
    exact hQ
  by_cases hy0 : y = 0
  case pos =>
    simp only [keysV] at a44
    simp only [keysV, ↓(a44 _).run, ↓(a17 _).run, ↓(a22 _).run, ht, hy0, go_sem, Nat.reduceEqDiff, Nat.reduceAdd, Nat.reduceLeDiff, Int.reduceEq, Int.reduceLT, Int.reduceLE, Int.reduceAdd, Int.reduceSub, Int.reduceMul, Int.reduceNeg, Int.reduceToNat, Nat.reduceMul]
    exact hQ
  obtain ⟨s, hs⟩ : ∃ s, s = fileL a n t := ⟨_, rfl⟩
  have hsl : s.length = ndL t.length := by rw [hs, fileL_length hn]; unfold ndL; omega
  have hsb : s.length ≤ 20000 ∧ 36 ≤ s.length := by rw [hsl]; unfold ndL nW; omega
  rw [← hs] at a44
  clear hs hsl
  obtain ⟨L, hL⟩ : ∃ L, L = s.length := ⟨_, rfl⟩
  obtain ⟨q, hq, hw, hqm⟩ := place_eq (a := pl) (L := L) (by omega) (by omega) hpl
  have hL0 : ¬ (L : Int) = 0 := by omega
  have hlim : L ≤ 140737488355328 := by omega
  obtain ⟨u, rfl⟩ : ∃ u : UInt8, y = (u.toNat : Int) := ⟨UInt8.ofNat y.toNat, by
    have : (UInt8.ofNat y.toNat).toNat = y.toNat := by rw [UInt8.toNat_ofNat']; omega
    omega⟩
  obtain ⟨X, hX⟩ : ∃ X, X = H.enter.push ⟨[.string (tx a), .string (tx b), .string (tx c)], 1, false⟩ := ⟨_, rfl⟩
  have hXg : X.get H.next = some ⟨[.string (tx a), .string (tx b), .string (tx c)], 1, false⟩ := by rw [hX]; exact AH.get_push_eq H.enter _
  have hXn : X.next = H.next + 1 := by rw [hX, AH.next_push, nx_enter]
  have hXl : X.low = H.next := by rw [hX, lw_push, lw_enter]
  have hX0 : X.get 0 = none := by rw [hX, AH.get_push_lt H.enter _ hH0]; exact hH
  have hu : (⟨bc s, 1, false⟩ : Blk) = u8r s := rfl
  have hg : (X.push (u8r s)).get X.next = some (u8r s) := AH.get_push_eq X _
  have hgs : ∀ Y : Option Blk, ((X.push (u8r s)).set X.next Y).get X.next = Y := fun Y => AH.get_set_eq _ _ (by rw [AH.next_push]; omega)
  have hgb : (X.push (u8r s)).get H.next = some ⟨[.string (tx a), .string (tx b), .string (tx c)], 1, false⟩ := by rw [AH.get_push_lt X _ (by omega)]; exact hXg
  have hgsb : ∀ Y : Option Blk, ((X.push (u8r s)).set X.next Y).get H.next = some ⟨[.string (tx a), .string (tx b), .string (tx c)], 1, false⟩ := fun Y => by rw [AH.get_set_ne _ _ (by omega)]; exact hgb
  have hltX : X.next < X.next + 1 := by omega
  obtain ⟨K, hK, hKc⟩ := kind4 kd
  have q0 : (0 : Int) ≤ q := by omega
  have hps : (q : Int) < (L : Int) := by omega
  have hq1 : q + 1 ≤ L := by omega
  have hqL : q ≤ L := by omega
  have htl2 := fun w hw => open_tail (tbl := tbl) R F a b c hk w hw
  rcases hKc with rfl | rfl | rfl | rfl
  · -- one byte
    obtain ⟨d', hd'⟩ : ∃ d', d' = s.set q (gb s q ^^^ u) := ⟨_, rfl⟩
    have hdl' : d'.length = L := by rw [hd', List.length_set, hL]
    have hat := u8r_at (l := s) (i := q) (by omega)
    have hx8 := xor8 (gb s q) u
    have hsb' := slcBytes_row (n := L) (c := L) (hgs (some (u8r d'))) hdl'.symm
    obtain ⟨o, e, t1, t2, t3⟩ := htl2 d' (by omega)
    simp only [keysV] at a44
    simp only [keysV, ↓(a44 _).run, ↓(a17 _).run, ↓(a22 _).run, ht, hy0, tx_size, ← hL, hL0, hlim, byteCells_eq, tx_data, hu, ← hX, hXg, hw, hqm, hK,
      q0, hps, hq1, hltX, hg, hat, hx8, u8r_len, u8r_ro, u8r_es, u8r_set, ← hd', hgs, hgsb, hgb, hsb', idxSP_slc, stc_eq, stB_some, splice_one, addA, Nat.zero_add, Int.toNat_natCast, ↓(t1 _).run, ↓(t2 _).run, ↓(t3 _).run, go_sem, Nat.reduceEqDiff, Nat.reduceAdd, Nat.reduceLeDiff, Int.reduceEq, Int.reduceLT, Int.reduceLE, Int.reduceAdd, Int.reduceSub, Int.reduceMul, Int.reduceNeg, Int.reduceToNat, Nat.reduceMul]
    rw [back_p3 (by rw [lw_set, lw_push]; omega) rfl]
    exact hQ
  · -- cut
    have hsl2 := slcAt_pre (n := L) (c := L) (h := q) hg (by omega)
    have hsb' := slcBytes_take (n := q) (c := L) hg (by omega)
    obtain ⟨o, e, t1, t2, t3⟩ := htl2 (s.take q) (by rw [List.length_take]; omega)
    simp only [keysV] at a44
    simp only [keysV, ↓(a44 _).run, ↓(a17 _).run, ↓(a22 _).run, ht, hy0, tx_size, ← hL, hL0, hlim, byteCells_eq, tx_data, hu, ← hX, hXg, hw, hqm, hK,
      q0, hqL, hsl2, hgb, hsb', Int.toNat_natCast, ↓(t1 _).run, ↓(t2 _).run, ↓(t3 _).run, go_sem, Nat.reduceEqDiff, Nat.reduceAdd, Nat.reduceLeDiff, Int.reduceEq, Int.reduceLT, Int.reduceLE, Int.reduceAdd, Int.reduceSub, Int.reduceMul, Int.reduceNeg, Int.reduceToNat, Nat.reduceMul]
    rw [back_p3 (by rw [lw_push]; omega) rfl]
    exact hQ
  · -- two blocks
    obtain ⟨k, hkk⟩ : ∃ k, k = (L - 20) / 1040 := ⟨_, rfl⟩
    have w1 := w64 (x := (L : Int) - 20) (by omega) (by omega)
    have d1 : ((L : Int) - 20).tdiv 1040 = (k : Int) := by
      rw [show (L : Int) - 20 = ((L - 20 : Nat) : Int) by omega, hkk]; exact tdivN (k := 1040)
    have w3 := w64 (x := (k : Int)) (by omega) (by omega)
    simp only [keysV] at a44
    by_cases hk2 : (k : Int) < 2
    · simp only [keysV, ↓(a44 _).run, ↓(a17 _).run, ↓(a22 _).run, ht, hy0, tx_size, ← hL, hL0, hlim, byteCells_eq, tx_data, hu, ← hX, hXg, hw, hqm, hK, w1, d1, w3, hk2, go_sem, Nat.reduceEqDiff, Nat.reduceAdd, Nat.reduceLeDiff, Int.reduceEq, Int.reduceLT, Int.reduceLE, Int.reduceAdd, Int.reduceSub, Int.reduceMul, Int.reduceNeg, Int.reduceToNat, Nat.reduceMul]
      rw [back_p3 (by rw [lw_push]; omega) rfl]
      exact hQ
    · have w4 := w64 (x := (k : Int) - 1) (by omega) (by omega)
      have hk0 : ¬ (k : Int) - 1 = 0 := by omega
      obtain ⟨r, hr2⟩ : ∃ r, r = q % (k - 1) := ⟨_, rfl⟩
      have m1 : ((q : Int)).tmod ((k : Int) - 1) = r := by
        rw [Int.tmod_eq_emod_of_nonneg (by omega), hr2, Int.natCast_emod, show ((k - 1 : Nat) : Int) = (k : Int) - 1 by omega]
      have hrk : r < k - 1 := by rw [hr2]; exact Nat.mod_lt q (by omega)
      have w5 := w64 (x := (r : Int) * 1040) (by omega) (by omega)
      obtain ⟨i, hi⟩ : ∃ i, i = 20 + r * 1040 := ⟨_, rfl⟩
      obtain ⟨j, hj⟩ : ∃ j, j = i + 1040 := ⟨_, rfl⟩
      obtain ⟨g, hgg⟩ : ∃ g, g = j + 1040 := ⟨_, rfl⟩
      have e1 : 20 + (r : Int) * 1040 = (i : Int) := by omega
      have w6 := w64 (x := (i : Int)) (by omega) (by omega)
      have w7 := w64 (x := (i : Int) + 1024) (by omega) (by omega)
      have e2 : (i : Int) + 1024 + 16 = (j : Int) := by omega
      have w8 := w64 (x := (j : Int)) (by omega) (by omega)
      have w9 := w64 (x := (j : Int) + 1024) (by omega) (by omega)
      have e3 : (j : Int) + 1024 + 16 = (g : Int) := by omega
      have w10 := w64 (x := (g : Int)) (by omega) (by omega)
      have i0 : (0 : Int) ≤ i := by omega
      have j0 : (0 : Int) ≤ j := by omega
      have g0 : (0 : Int) ≤ g := by omega
      have iL : i ≤ L := by omega
      have jL : j ≤ L := by omega
      have gL : g ≤ L := by omega
      have ij : i ≤ j := by omega
      have jg : j ≤ g := by omega
      have LL : L ≤ L := Nat.le_refl _
      have s1 := slcAt_pre (n := L) (c := L) (h := i) hg (by omega)
      have s2 := slcAt_in (n := L) (c := L) (lo := j) (hi := g) hg (by omega) (by omega) (by omega)
      have s3 := slcAt_in (n := L) (c := L) (lo := i) (hi := j) hg (by omega) (by omega) (by omega)
      obtain ⟨a4, n4, c4, s4, hv4⟩ : ∃ a4 n4 c4, slcAt (X.push (u8r s)) 1 (.slice (some ⟨X.next, 0, none⟩) L L) g L = some (.slice (some a4) n4 c4) ∧ ∀ Z : AH, Z.get X.next = some (u8r s) → Sb Z (.slice (some a4) n4 c4) ((s.take L).drop g) := by
        by_cases hgL : g < L
        · exact ⟨_, _, _, slcAt_in hg (by omega) hgL (by omega), fun Z hZ => Sb_in hZ (by omega) (by omega)⟩
        · have hge : g = L := by omega
          have hd0 : (X.push (u8r s)).get 0 = none := by rw [AH.get_push_lt X _ (by omega)]; exact hX0
          refine ⟨⟨0, 0, none⟩, 0, 0, ?_, fun Z hZ => ?_⟩
          · rw [hge]; exact slcAt_end hg (by omega) hd0
          · have : (s.take L).drop g = [] := by rw [hge, hL, List.take_length, List.drop_length]
            rw [this]
            exact ⟨_, 0, rfl, .inr rfl⟩
      obtain ⟨Y, hY⟩ : ∃ Y, Y = (X.push (u8r s)).push ⟨[.slice (some ⟨X.next, 0, none⟩) i L, .slice (some ⟨X.next, j, none⟩) (g - j) (L - j), .slice (some ⟨X.next, i, none⟩) (j - i) (L - i), .slice (some a4) n4 c4], 1, false⟩ := ⟨_, rfl⟩
      have hYg : Y.get X.next = some (u8r s) := by rw [hY, AH.get_push_lt _ _ (by rw [AH.next_push]; omega)]; exact hg
      have hYb : Y.get H.next = some ⟨[.string (tx a), .string (tx b), .string (tx c)], 1, false⟩ := by rw [hY, AH.get_push_lt _ _ (by rw [AH.next_push]; omega)]; exact hgb
      have hYr : Y.get (X.next + 1) = some ⟨[.slice (some ⟨X.next, 0, none⟩) i L, .slice (some ⟨X.next, j, none⟩) (g - j) (L - j), .slice (some ⟨X.next, i, none⟩) (j - i) (L - i), .slice (some a4) n4 c4], 1, false⟩ := by
        have := AH.get_push_eq (X.push (u8r s)) ⟨[.slice (some ⟨X.next, 0, none⟩) i L, .slice (some ⟨X.next, j, none⟩) (g - j) (L - j), .slice (some ⟨X.next, i, none⟩) (j - i) (L - i), .slice (some a4) n4 c4], 1, false⟩
        rw [AH.next_push, ← hY] at this
        exact this
      have hYn : Y.next = X.next + 1 + 1 := by rw [hY, AH.next_push, AH.next_push]
      have hYl : Y.low = H.next := by rw [hY, lw_push, lw_push, hXl]
      obtain ⟨ls, hls⟩ : ∃ ls, ls = [(s.take i).drop 0, (s.take g).drop j, (s.take j).drop i, (s.take L).drop g] := ⟨_, rfl⟩
      have hlsl : ls.length = 4 := by rw [hls]; rfl
      have hWl : ls.flatten.length = L := by
        rw [hls]
        simp only [List.flatten_cons, List.flatten_nil, List.append_nil, List.length_append, List.length_drop, List.length_take]
        omega
      have h47v := v47 h47 h80 (H := Y) (v := .slice (some ⟨X.next + 1, 0, none⟩) 4 4) (vs := [.slice (some ⟨X.next, 0, none⟩) i L, .slice (some ⟨X.next, j, none⟩) (g - j) (L - j), .slice (some ⟨X.next, i, none⟩) (j - i) (L - i), .slice (some a4) n4 c4]) (ls := ls)
        (by rw [hlsl]; refine .inr ⟨_, _, rfl, ?_⟩; rw [ldc_eq, hYr]; rfl)
        (fun m hm => by
          rw [hlsl] at hm
          subst hls
          match m, hm with
          | 0, _ => exact ⟨_, rfl, Sb_in (lo := 0) (hi := i) (c := L) hYg (by omega) (by omega)⟩
          | 1, _ => exact ⟨_, rfl, Sb_in (c := L - j) hYg (by omega) (by omega)⟩
          | 2, _ => exact ⟨_, rfl, Sb_in (c := L - i) hYg (by omega) (by omega)⟩
          | 3, _ => exact ⟨_, rfl, hv4 Y hYg⟩)
        (by omega) (by omega) (by omega)
      obtain ⟨W, hW⟩ : ∃ W, W = ls.flatten := ⟨_, rfl⟩
      rw [← hW] at h47v hWl
      have em : mkS Y W.length = .slice (some ⟨Y.next, 0, none⟩) L L := by unfold mkS; rw [if_neg (by omega), hWl]
      have eh : mkH Y 1 W.length (bc W) = Y.push (u8r W) := by unfold mkH; rw [if_neg (by omega)]; rfl
      rw [em, eh] at h47v
      have hsb' := slcBytes_row (n := L) (c := L) (AH.get_push_eq Y (u8r W)) hWl.symm
      have hZb : (Y.push (u8r W)).get H.next = some ⟨[.string (tx a), .string (tx b), .string (tx c)], 1, false⟩ := by rw [AH.get_push_lt _ _ (by omega)]; exact hYb
      obtain ⟨o, e, t1, t2, t3⟩ := htl2 W (by omega)
      simp only [keysV, ↓(a44 _).run, ↓(a17 _).run, ↓(a22 _).run, ht, hy0, tx_size, ← hL, hL0, hlim, byteCells_eq, tx_data, hu, ← hX, hXg, hw, hqm, hK, w1, d1, w3, hk2,
        w4, hk0, m1, w5, e1, w6, w7, e2, w8, w9, e3, w10, i0, j0, g0, iL, jL, gL, ij, jg, LL, s1, s2, s3, s4, Int.toNat_natCast, ← hY, ↓h47v.run, hZb, hsb', ↓(t1 _).run, ↓(t2 _).run, ↓(t3 _).run, go_sem, Nat.reduceEqDiff, Nat.reduceAdd, Nat.reduceLeDiff, Int.reduceEq, Int.reduceLT, Int.reduceLE, Int.reduceAdd, Int.reduceSub, Int.reduceMul, Int.reduceNeg, Int.reduceToNat, Nat.reduceMul]
      rw [back_p3 (by rw [lw_push]; omega) rfl]
      exact hQ
  · -- blocks at the end
    obtain ⟨k, hkk⟩ : ∃ k, k = (L - 21) / 1040 := ⟨_, rfl⟩
    have w1 := w64 (x := (L : Int) - 20) (by omega) (by omega)
    have w2 := w64 (x := (L : Int) - 20 - 1) (by omega) (by omega)
    have d1 : ((L : Int) - 20 - 1).tdiv 1040 = (k : Int) := by
      rw [show (L : Int) - 20 - 1 = ((L - 21 : Nat) : Int) by omega, hkk]; exact tdivN (k := 1040)
    have w3 := w64 (x := (k : Int)) (by omega) (by omega)
    have w4 := w64 (x := (k : Int) + 1) (by omega) (by omega)
    have hk0 : ¬ (k : Int) + 1 = 0 := by omega
    obtain ⟨r, hr2⟩ : ∃ r, r = q % (k + 1) := ⟨_, rfl⟩
    have m1 : ((q : Int)).tmod ((k : Int) + 1) = r := by
      rw [Int.tmod_eq_emod_of_nonneg (by omega), hr2, Int.natCast_emod]; rfl
    have hrk : r ≤ k := by
      have := Nat.mod_lt q (show k + 1 > 0 by omega)
      omega
    have w5 := w64 (x := (r : Int) * 1040) (by omega) (by omega)
    obtain ⟨p, hp⟩ : ∃ p, p = 20 + r * 1040 := ⟨_, rfl⟩
    have w6 := w64 (x := 20 + (r : Int) * 1040) (by omega) (by omega)
    have hpi : 20 + (r : Int) * 1040 = (p : Int) := by omega
    have hpL : p ≤ L := by omega
    have p0 : (0 : Int) ≤ p := by omega
    rw [hpi] at w6
    have hsl2 := slcAt_pre (n := L) (c := L) (h := p) hg (by omega)
    have hsb' := slcBytes_take (n := p) (c := L) hg (by omega)
    obtain ⟨o, e, t1, t2, t3⟩ := htl2 (s.take p) (by rw [List.length_take]; omega)
    simp only [keysV] at a44
    simp only [keysV, ↓(a44 _).run, ↓(a17 _).run, ↓(a22 _).run, ht, hy0, tx_size, ← hL, hL0, hlim, byteCells_eq, tx_data, hu, ← hX, hXg, hw, hqm, hK,
      w1, w2, d1, w3, w4, hk0, m1, w5, hpi, w6, p0, hpL, hsl2, hgb, hsb', Int.toNat_natCast, ↓(t1 _).run, ↓(t2 _).run, ↓(t3 _).run, go_sem, Nat.reduceEqDiff, Nat.reduceAdd, Nat.reduceLeDiff, Int.reduceEq, Int.reduceLT, Int.reduceLE, Int.reduceAdd, Int.reduceSub, Int.reduceMul, Int.reduceNeg, Int.reduceToNat, Nat.reduceMul]
    rw [back_p3 (by rw [lw_push]; omega) rfl]
    exact hQ
end Go.Proofs.Ytildhljhbbhmmaa.AM
namespace Go.Proofs.Ytildhljhbbhmmaa.AM
open Go
set_option linter.all false
set_option maxRecDepth 10000

theorem blk_drop {sz : Nat} {R : List UInt8} {p q : Nat} : blk sz (R.drop (sz * p)) q = blk sz R (p + q) := by
  unfold blk
  rw [List.drop_drop, Nat.mul_add]
theorem sealQ_split {a h R : List UInt8} {p : Nat} : ∀ q, sealQ a h 0 R (p + q) = sealQ a h 0 R p ++ sealQ a h p (R.drop (1024 * p)) q := by
  intro q
  induction q with
  | zero => simp [sealQ]
  | succ q ih =>
    rw [← Nat.add_assoc, sealQ, ih, sealQ, blk_drop, List.append_assoc]
    rw [show (0 : Int) + ((p + q : Nat) : Int) = (p : Int) + (q : Int) by omega]
/-- One more piece. -/
theorem write_step {a h R x : List UInt8} : nW R.length + nW (R.drop (1024 * nW R.length) ++ x).length = nW (R ++ x).length ∧
    sealQ a h 0 (R ++ x) (nW (R ++ x).length) = sealQ a h 0 R (nW R.length) ++ sealQ a h (nW R.length : Nat) (R.drop (1024 * nW R.length) ++ x) (nW (R.drop (1024 * nW R.length) ++ x).length) ∧
    (R.drop (1024 * nW R.length) ++ x).drop (1024 * nW (R.drop (1024 * nW R.length) ++ x).length) = (R ++ x).drop (1024 * nW (R ++ x).length) := by
  have hm : 1024 * nW R.length ≤ R.length := by unfold nW; omega
  have h1 : nW R.length + nW (R.drop (1024 * nW R.length) ++ x).length = nW (R ++ x).length := by
    rw [List.length_append, List.length_append, List.length_drop]
    unfold nW at *
    omega
  have hd : (R ++ x).drop (1024 * nW R.length) = R.drop (1024 * nW R.length) ++ x := List.drop_append_of_le_length hm
  refine ⟨h1, ?_, ?_⟩
  · rw [← h1, sealQ_split, hd, sealQ_append hm]
  · rw [← hd, List.drop_drop, ← Nat.mul_add, hd, h1]
theorem nW_mono {x y : Nat} (h : x ≤ y) : nW x ≤ nW y := by unfold nW; omega
theorem file_take {a n R x : List UInt8} (hn : n.length = 12) : (fileL a n (R ++ x)).take (20 + 1040 * nW R.length) = headL n ++ sealQ a (headL n) 0 R (nW R.length) := by
  have hm : 1024 * nW R.length ≤ R.length := by unfold nW; omega
  have hm2 : 1024 * nW (R ++ x).length ≤ (R ++ x).length := by unfold nW; omega
  have hle : nW R.length ≤ nW (R ++ x).length := nW_mono (by rw [List.length_append]; omega)
  have hl := headL_len hn
  have hf := sealQ_full (a := a) (h := headL n) (part := 0) hm2
  have hr := sealQ_full (a := a) (h := headL n) (part := 0) hm
  rw [fileL_eq, List.append_assoc, List.take_append, hl, List.take_of_length_le (by omega), show 20 + 1040 * nW R.length - 20 = 1040 * nW R.length by omega]
  rw [List.take_append_of_le_length (by rw [hf]; omega), sealQ_take hle hm2, sealQ_append hm]
/-- The blocks of a sealed file. -/
theorem file_blk {a n t : List UInt8} (hn : n.length = 12) {i : Nat} (hi : i ≤ nW t.length) : blk 1040 ((fileL a n t).drop 20) i = sealL a (nonceL ((headL n).drop 8) i) (extraL (headL n) i (decide (i = nW t.length))) (blk 1024 t i) := by
  obtain ⟨_, e2⟩ := fileL_head (a := a) (R := t) hn
  have hm : 1024 * nW t.length ≤ t.length := by unfold nW; omega
  have hr : t.length ≤ 1024 * (nW t.length + 1) := by unfold nW; omega
  have hfull := sealQ_full (a := a) (h := headL n) (part := 0) hm
  rw [e2]
  by_cases he : i = nW t.length
  · rw [decide_eq_true he, he, blk_last]
    unfold blk
    rw [List.drop_left' hfull, List.take_of_length_le]
    rw [sealL_len, List.length_drop]; omega
  · rw [decide_eq_false he]
    have e1 : ∀ x, blk 1040 (sealQ a (headL n) 0 t (nW t.length) ++ x) i = ((sealQ a (headL n) 0 t (nW t.length)).take (1040 * (i + 1))).drop (1040 * i) := by
      intro x
      unfold blk
      rw [List.drop_append_of_le_length (by omega), List.take_append_of_le_length (by rw [List.length_drop]; omega), List.drop_take, show 1040 * (i + 1) - 1040 * i = 1040 by omega]
    rw [e1, sealQ_take (by omega) hm, sealQ, List.drop_left' (sealQ_full (by omega)), Int.zero_add]
theorem openG_blocks {a h : List UInt8} {first : Int} {fl : Nat → Bool} {b R : List UInt8} : ∀ {q}, (∀ j, j < q → blk 1040 b j = sealL a (nonceL (h.drop 8) (first + j)) (extraL h (first + j) (fl j)) (blk 1024 R j)) → openG a h first fl b q = some (R.take (1024 * q)) := by
  intro q
  induction q with
  | zero => intro _; simp [openG]
  | succ q ih =>
    intro hb
    have ht := tagOk_seal (k := a) (n := nonceL (h.drop 8) (first + q)) (e := extraL h (first + q) (fl q)) (t := blk 1024 R q)
    simp only [openG, ih fun j hj => hb j (by omega), hb q (by omega), ht.1, ht.2, if_true]
    rw [take_blk]
/-- The middle of a sealed file is opened. -/
theorem open_mid {a n t : List UInt8} {f m : Nat} (hn : n.length = 12) (ht : t.length ≤ 1048576) (hp : ndP t.length f m) :
    openP a ((fileL a n t).take 20) t.length (f / 1024 : Nat) (((fileL a n t).take (ndAt t.length f m + ndN t.length f m)).drop (ndAt t.length f m)) = some ((t.drop (1024 * (f / 1024))).take (1024 * blkN 1040 (ndN t.length f m))) := by
  have hsl := fileL_length (a := a) (R := t) hn
  obtain ⟨e1, e2⟩ := fileL_head (a := a) (R := t) hn
  obtain ⟨g1, g2⟩ := head_mark hn
  have hfb := fun i hi => file_blk (a := a) (n := n) (t := t) hn (i := i) hi
  obtain ⟨s, hs⟩ : ∃ s, s = fileL a n t := ⟨_, rfl⟩
  rw [← hs] at hsl e1 hfb ⊢
  have hle := nd_le hp
  have hA : ndAt t.length f m = 20 + 1040 * (f / 1024) := by unfold ndAt ndA; rw [if_pos hp]; omega
  have hN : ndAt t.length f m + ndN t.length f m = ndE t.length f m := by unfold ndAt ndN; rw [if_pos hp, if_pos hp]; omega
  have hL : ndL t.length = s.length := by unfold ndL; omega
  obtain ⟨p1, p2⟩ := hp
  obtain ⟨x, hx⟩ : ∃ x, x = f / 1024 := ⟨_, rfl⟩
  obtain ⟨N, hNN⟩ : ∃ N, N = ndN t.length f m := ⟨_, rfl⟩
  rw [← hx] at hA ⊢
  rw [← hNN] at hN ⊢
  rw [hA] at hN ⊢
  have hcut : N = 1040 * (N / 1040) ∨ 20 + 1040 * x + N = s.length := by
    have : ndE t.length f m = 20 + ((f + min m (t.length - f) - 1) / 1024 + 1) * 1040 ∨ ndE t.length f m = ndL t.length := by unfold ndE; omega
    rcases this with h | h
    · left; omega
    · right; omega
  obtain ⟨b, hb⟩ : ∃ b, b = (s.take (20 + 1040 * x + N)).drop (20 + 1040 * x) := ⟨_, rfl⟩
  have hbl : b.length = N := by rw [hb, List.length_drop, List.length_take]; omega
  rw [← hb]
  have hblk : ∀ j, j < blkN 1040 N → blk 1040 b j = blk 1040 (s.drop 20) (x + j) := by
    intro j hj
    have e : b = ((s.drop 20).drop (1040 * x)).take N := by
      rw [hb, List.drop_take, List.drop_drop, show 20 + 1040 * x + N - (20 + 1040 * x) = N by omega]
    rw [e, ← blk_drop]
    unfold blk
    rw [List.drop_take, List.take_take]
    rcases hcut with h | h
    · rw [Nat.min_eq_left]
      unfold blkN at hj
      omega
    · by_cases h2 : 1040 ≤ N - 1040 * j
      · rw [Nat.min_eq_left h2]
      · rw [Nat.min_eq_right (by omega), List.take_of_length_le (by simp only [List.length_drop]; omega), List.take_of_length_le (by simp only [List.length_drop]; omega)]
  unfold openP
  rw [e1, if_pos ⟨g2, g1⟩, openQ_G, hbl]
  refine openG_blocks fun j hj => ?_
  have hxj : x + j ≤ nW t.length := by
    unfold blkN at hj
    unfold nW at hsl ⊢
    omega
  rw [hblk j hj, hfb (x + j) hxj, ← blk_drop, PP_nat]
  rw [show ((x + j : Nat) : Int) = (x : Int) + (j : Int) by omega]
  have : (decide ((x : Int) + (j : Int) = ((nW t.length + 1 : Nat) : Int) - 1)) = decide (x + j = nW t.length) := by
    by_cases h : x + j = nW t.length
    · rw [decide_eq_true h, decide_eq_true (by omega)]
    · rw [decide_eq_false h, decide_eq_false (by omega)]
  rw [this]
theorem part_text {t : List UInt8} {f m : Nat} (hp : ndP t.length f m) : (((t.drop (1024 * (f / 1024))).take (1024 * blkN 1040 (ndN t.length f m))).drop (f % 1024)).take m = (t.take (f + min m (t.length - f))).drop f := by
  have hle := nd_le hp
  have hA : ndA f = 20 + 1040 * (f / 1024) := by unfold ndA; omega
  have hN : ndN t.length f m = ndE t.length f m - ndA f := by unfold ndN; rw [if_pos hp]
  obtain ⟨p1, p2⟩ := hp
  have hc : min m (t.length - f) ≤ 1024 * blkN 1040 (ndN t.length f m) - f % 1024 := by
    rw [hN]
    unfold blkN ndE ndL nW at *
    omega
  obtain ⟨c, hcc⟩ : ∃ c, c = 1024 * blkN 1040 (ndN t.length f m) := ⟨_, rfl⟩
  rw [← hcc] at hc ⊢
  rw [List.drop_take, List.drop_drop, List.take_take, show 1024 * (f / 1024) + f % 1024 = f by omega, List.drop_take, show f + min m (t.length - f) - f = min m (t.length - f) by omega]
  have hdl : (t.drop f).length = t.length - f := by rw [List.length_drop]
  by_cases h1 : m ≤ t.length - f
  · rw [show min m (c - f % 1024) = m by omega, Nat.min_eq_left h1]
  · rw [List.take_of_length_le (l := t.drop f) (by rw [hdl]; omega), List.take_of_length_le (l := t.drop f) (by rw [hdl]; omega)]
end Go.Proofs.Ytildhljhbbhmmaa.AM
namespace Go.Proofs.Ytildhljhbbhmmaa.AM
open Go
set_option linter.all false
set_option maxRecDepth 10000
variable {tbl : Tbl} [hT : TMono tbl]

theorem v19_3 (h19 : tbl 19 = some (.code m19)) (X : AH) (a b c : Int) : Val tbl 19 [.slice (some ⟨X.next, 0, none⟩) 3 3] (X.push ⟨[.int .i64 a, .int .i64 b, .int .i64 c], 1, false⟩) (.int .i64 (firstL [a, b, c])) (X.push ⟨[.int .i64 a, .int .i64 b, .int .i64 c], 1, false⟩) :=
  v19 h19 _ _ [a, b, c] (rowS (X := X) (l := [a, b, c]) (by show 0 < 3; omega)) (by show 3 < 1000000000; omega)
/-- Texts in a row. -/
def txs (ps : List (List UInt8)) : List Value := ps.map fun x => .string (tx x)
theorem join_v (h49 : tbl 49 = some (.nat natJoin)) {X : AH} {ad : Option Addr} {cp : Nat} {ps : List (List UInt8)} (hv : Sl X 1 (.slice ad ps.length cp) ps.length (txs ps)) (hc : ps.length ≤ cp) (hl : ps.flatten.length ≤ 1048576) (hn : ps.length ≤ 1048576) :
    Val tbl 49 [.slice ad ps.length cp, .string ⟨#[]⟩] X (.string (tx ps.flatten)) X := by
  by_cases h0 : ps.length = 0
  · have : ps = [] := List.eq_nil_of_length_eq_zero h0
    subst this
    refine ⟨1, ?_⟩
    simp only [evF, h49, natJoin]
    rfl
  · rcases hv with ⟨_, _, _, h, _⟩ | ⟨p, c, he, hld⟩
    · exact absurd h h0
    · simp only [Value.slice.injEq] at he
      obtain ⟨rfl, _, rfl⟩ := he
      rw [Nat.mul_one] at hld
      exact v49 h49 hld (by omega) hc (by omega) (by omega)
/-- What has come out behind i pieces. -/
def outI (a n : List UInt8) (i : Nat) (R : List UInt8) : List UInt8 := if i = 0 then [] else headL n ++ sealQ a (headL n) 0 R (nW R.length)
theorem outI_step {a n : List UInt8} {i : Nat} {R x : List UInt8} (h0 : i = 0 → R = []) : outI a n i R ++ slW a (headL n) (decide (0 < i)) (nW R.length : Nat) (R.drop (1024 * nW R.length) ++ x) = outI a n (i + 1) (R ++ x) := by
  obtain ⟨w1, w2, w3⟩ := write_step (a := a) (h := headL n) (R := R) (x := x)
  unfold outI slW
  rw [if_neg (show ¬ i + 1 = 0 by omega), w2]
  by_cases hi : i = 0
  · have hR := h0 hi
    subst hR
    have hq : sealQ a (headL n) 0 [] (nW ([] : List UInt8).length) = [] := rfl
    rw [if_pos hi, decide_eq_false (by omega), hq, List.nil_append, List.nil_append, if_neg (by decide)]
  · rw [if_neg hi, decide_eq_true (by omega)]
    simp only [if_true, List.nil_append, List.append_assoc]
theorem outI_end {a n : List UInt8} {i : Nat} {R : List UInt8} (h0 : i = 0 → R = []) : outI a n i R ++ slE a (headL n) (decide (0 < i)) (nW R.length : Nat) (R.drop (1024 * nW R.length)) = fileL a n R := by
  unfold outI slE
  by_cases hi : i = 0
  · have hR := h0 hi
    subst hR
    have hq : sealQ a (headL n) 0 [] (nW ([] : List UInt8).length) = [] := rfl
    rw [if_pos hi, decide_eq_false (by omega), fileL_eq, headL_drop, blk_last, hq, List.append_nil, List.nil_append, if_neg (by decide)]
  · rw [if_neg hi, decide_eq_true (by omega), fileL_eq, headL_drop, blk_last]
    simp only [if_true, List.nil_append]
theorem outI_len {a n : List UInt8} (hn : n.length = 12) {i : Nat} {R : List UInt8} (hi : 0 < i) : (outI a n i R).length = 20 + 1040 * nW R.length := by
  unfold outI
  rw [if_neg (by omega), List.length_append, headL_len hn, sealQ_full (by unfold nW; omega)]
end Go.Proofs.Ytildhljhbbhmmaa.AM
namespace Go.Proofs.Ytildhljhbbhmmaa.AM
open Go
set_option linter.all false
set_option maxRecDepth 10000
variable {tbl : Tbl} [hT : TMono tbl]

set_option maxHeartbeats 1000000 in
theorem v12 (T : SealT tbl) (R : RefT tbl) (F : FileT tbl) (P : PartT2 tbl) (h15 : tbl 15 = some (.code m15)) (h45 : tbl 45 = some (.code m45)) (h12 : tbl 12 = some (.code m12)) (a b c n : List UInt8) (ps : List (List UInt8)) {ad : Option Addr} {cp : Nat} (f m : Int) (hf : -9223372036854775808 ≤ f ∧ f ≤ 9223372036854775807) (hm : -9223372036854775808 ≤ m ∧ m ≤ 9223372036854775807) (H : AH)
    (hv : Sl H 1 (.slice ad ps.length cp) ps.length (txs ps)) (hc : ps.length ≤ cp) (hl : ps.flatten.length ≤ 1048576) (hpl : ps.length ≤ 1048576) :
    Val tbl 12 [keysV a b c, .string (tx n), .slice ad ps.length cp, .int .i64 f, .int .i64 m] H (.bool true) H := by
  refine Val.of_all fun Q hQ => ?_
  rw [rn_fun h12, k12]
  have a17 := v17 T
  have a40 := fun X => v40 (tbl := tbl) F.h40 a b c X
  have a21 := v21b (tbl := tbl) R.h21
  obtain ⟨t, htt⟩ : ∃ t, t = ps.flatten := ⟨_, rfl⟩
  have htl : t.length ≤ 1048576 := by rw [htt]; exact hl
  have a22 := v22 (tbl := tbl) R.h22 t
  obtain ⟨X, hX⟩ : ∃ X, X = H.enter.push ⟨[.string (tx a), .string (tx b), .string (tx c)], 1, false⟩ := ⟨_, rfl⟩
  have hXg : X.get H.next = some ⟨[.string (tx a), .string (tx b), .string (tx c)], 1, false⟩ := by rw [hX]; exact AH.get_push_eq H.enter _
  have hXn : X.next = H.next + 1 := by rw [hX, AH.next_push, nx_enter]
  have hXl : X.low = H.next := by rw [hX, lw_push, lw_enter]
  have hXk : ∀ id, id < H.next → X.get id = H.get id := fun id hid => by rw [hX]; exact AH.get_push_lt H.enter _ hid
  have hvX : Sl X 1 (.slice ad ps.length cp) ps.length (txs ps) := hv.kept hXk
  have a49 := join_v T.h49 hvX hc hl hpl
  rw [← htt] at a49
  have a44 := fun X => v44 F.sl a b c n t X
  simp only [keysV] at a40 a44
  obtain ⟨W, hW⟩ : ∃ W, W = firstL [keysW a b c, if ¬ n.length = 12 then 6 else 0, if (1048576 : Int) < t.length then 8 else 0] := ⟨_, rfl⟩
  have hW' : firstL [keysW a b c, if (!decide (n.length = 12)) = true then 6 else 0, if (1048576 : Int) < t.length then 8 else 0] = W := by
    rw [hW]
    have : ((!decide (n.length = 12)) = true) ↔ ¬ n.length = 12 := by rw [Bool.not_eq_true', decide_eq_false_iff_not]
    simp only [this]
  have e12 : ((n.length : Int) = 12) ↔ n.length = 12 := by omega
  have hbig : ¬ (1048576 : Int) < t.length := by omega
  have hsr : sealR a b c n t = if W = 0 then .tuple #[.string (tx (fileL a n t)), .int .i64 0] else .tuple #[.string ⟨#[]⟩, .int .i64 W] := by
    rw [hW]
    unfold sealR
    rw [if_neg (show ¬ 1048576 < t.length by omega), if_neg hbig]
    by_cases h1 : keysW a b c = 0
    · by_cases h2 : n.length = 12
      · simp only [h1, h2, firstL, ne_eq, not_true, if_false, if_true]
      · simp only [h1, h2, firstL, ne_eq, not_true, not_false_eq_true, if_false, if_true]; rfl
    · simp only [h1, firstL, ne_eq, not_false_eq_true, if_true, if_false]
  rw [hsr] at a44
  have ht0 : (⟨#[]⟩ : ByteArray) = tx [] := rfl
  have b193 := fun x y z => v19_3 (tbl := tbl) R.h19 X x y z
  by_cases hW0 : W = 0
  case neg =>
    rw [if_neg hW0] at a44
    simp only [keysV, ← hX, ↓a49.run, ↓(a44 _).run, hXg, ↓(a40 _).run, tx_size, e12, ↓(a21 _ _ _).run, ↓(b193 _ _ _).run, ↓(a17 _).run, go_sem, Nat.reduceEqDiff, Nat.reduceAdd, Nat.reduceLeDiff, Int.reduceEq, Int.reduceLT, Int.reduceLE, Int.reduceAdd, Int.reduceSub, Int.reduceMul, Int.reduceNeg, Int.reduceToNat, Nat.reduceMul]
    simp only [hW', hW0, ↓(a17 _).run, ht0, tx_inj, go_sem, Nat.reduceEqDiff, Nat.reduceAdd, Nat.reduceLeDiff, Int.reduceEq, Int.reduceLT, Int.reduceLE, Int.reduceAdd, Int.reduceSub, Int.reduceMul, Int.reduceNeg, Int.reduceToNat, Nat.reduceMul]
    rw [back_p3 (by simp only [lw_push]; omega) rfl]
    exact hQ
  rw [if_pos hW0] at a44
  have hkb : keysW a b c = 0 ∧ n.length = 12 := by
    rw [hW] at hW0
    by_cases h1 : keysW a b c = 0
    · by_cases h2 : n.length = 12
      · exact ⟨h1, h2⟩
      · simp only [h1, h2, firstL, not_false_eq_true, if_true] at hW0; simp at hW0
    · simp only [firstL, if_neg h1] at hW0; exact absurd hW0 h1
  obtain ⟨hk, hn⟩ := hkb
  by_cases ht : t.length ≤ 10000
  case neg =>
    simp only [keysV, ← hX, ↓a49.run, ↓(a44 _).run, hXg, ↓(a40 _).run, tx_size, e12, ↓(a21 _ _ _).run, ↓(b193 _ _ _).run, ↓(a17 _).run, go_sem, Nat.reduceEqDiff, Nat.reduceAdd, Nat.reduceLeDiff, Int.reduceEq, Int.reduceLT, Int.reduceLE, Int.reduceAdd, Int.reduceSub, Int.reduceMul, Int.reduceNeg, Int.reduceToNat, Nat.reduceMul]
    simp only [hW', hW0, ↓(a17 _).run, ↓(a22 _).run, ht, go_sem, Nat.reduceEqDiff, Nat.reduceAdd, Nat.reduceLeDiff, Int.reduceEq, Int.reduceLT, Int.reduceLE, Int.reduceAdd, Int.reduceSub, Int.reduceMul, Int.reduceNeg, Int.reduceToNat, Nat.reduceMul]
    rw [back_p3 (by simp only [lw_push]; omega) rfl]
    exact hQ
  have ha := keys32 hk
  obtain ⟨s, hs⟩ : ∃ s, s = fileL a n t := ⟨_, rfl⟩
  have hsl : s.length = ndL t.length := by rw [hs, fileL_length hn]; unfold ndL; omega
  have a41 := fun X => v41 R F.rf a b c n t ha hn htl X
  have a48 := fun X => v48 F.op a b c s X
  have hop : openF a s = some t := by rw [hs]; exact openF_file hn htl
  simp only [openR, hk, ne_eq, not_true, if_false, hop, opV] at a48
  have a50 := fun X => v50 F.sl.h78 F.sl.h50 a b c n hk hn X
  rw [← hs] at a44 a41
  simp only [keysV] at a41 a48 a50
  have q3 : ¬ H.next = X.next := by omega
  simp only [keysV, ← hX, ↓a49.run, ↓(a44 _).run, hXg, ↓(a40 _).run, tx_size, e12, ↓(a21 _ _ _).run, ↓(b193 _ _ _).run, ↓(a17 _).run, go_sem, Nat.reduceEqDiff, Nat.reduceAdd, Nat.reduceLeDiff, Int.reduceEq, Int.reduceLT, Int.reduceLE, Int.reduceAdd, Int.reduceSub, Int.reduceMul, Int.reduceNeg, Int.reduceToNat, Nat.reduceMul]
  simp only [hW', hW0, ↓(a17 _).run, ↓(a22 _).run, ht, q3, hXg, tx_inj, ↓(a41 _).run, ↓(a48 _).run, ↓(a50 _).run, go_sem, Nat.reduceEqDiff, Nat.reduceAdd, Nat.reduceLeDiff, Int.reduceEq, Int.reduceLT, Int.reduceLE, Int.reduceAdd, Int.reduceSub, Int.reduceMul, Int.reduceNeg, Int.reduceToNat, Nat.reduceMul]
  refine rn_loop (tbl := tbl) (fun mm g H' => ∃ i : Nat, mm = ps.length - i ∧ i ≤ ps.length ∧ H'.get (X.next + 1) = some (slB a b c (headL n) (decide (0 < i)) false ((catB ps i).drop (1024 * nW (catB ps i).length)) (nW (catB ps i).length : Nat) ((catB ps i).length : Int)) ∧ H'.get H.next = some ⟨[.string (tx a), .string (tx b), .string (tx c)], 1, false⟩ ∧ (∀ id, id < H.next → H'.get id = H.get id) ∧ H'.next = X.next + 1 + 1 ∧ H.next ≤ H'.low ∧
      g 3 = .int .i64 f ∧ g 4 = .int .i64 m ∧ g 5 = .pointer (some ⟨H.next, 0, none⟩) ∧ g 11 = .string (tx t) ∧ g 12 = .string (tx s) ∧ g 17 = .pointer (some ⟨X.next + 1, 0, none⟩) ∧ g 18 = .string (tx (outI a n i (catB ps i))) ∧ g 19 = .int .i64 (catB ps i).length ∧ g 109 = .slice ad ps.length cp ∧ g 110 = .int .i64 ps.length ∧ g 111 = .int .i64 i) ?_ (n := ps.length)
    ⟨0, by omega, by omega, ?_, ?_, ?_, ?_, ?_, by simp only [go_sem, Nat.reduceEqDiff, Nat.reduceAdd, Nat.reduceLeDiff, Int.reduceEq, Int.reduceLT, Int.reduceLE, Int.reduceAdd, Int.reduceSub, Int.reduceMul, Int.reduceNeg, Int.reduceToNat, Nat.reduceMul], by simp only [go_sem, Nat.reduceEqDiff, Nat.reduceAdd, Nat.reduceLeDiff, Int.reduceEq, Int.reduceLT, Int.reduceLE, Int.reduceAdd, Int.reduceSub, Int.reduceMul, Int.reduceNeg, Int.reduceToNat, Nat.reduceMul], by simp only [go_sem, Nat.reduceEqDiff, Nat.reduceAdd, Nat.reduceLeDiff, Int.reduceEq, Int.reduceLT, Int.reduceLE, Int.reduceAdd, Int.reduceSub, Int.reduceMul, Int.reduceNeg, Int.reduceToNat, Nat.reduceMul], by simp only [go_sem, Nat.reduceEqDiff, Nat.reduceAdd, Nat.reduceLeDiff, Int.reduceEq, Int.reduceLT, Int.reduceLE, Int.reduceAdd, Int.reduceSub, Int.reduceMul, Int.reduceNeg, Int.reduceToNat, Nat.reduceMul], by simp only [go_sem, Nat.reduceEqDiff, Nat.reduceAdd, Nat.reduceLeDiff, Int.reduceEq, Int.reduceLT, Int.reduceLE, Int.reduceAdd, Int.reduceSub, Int.reduceMul, Int.reduceNeg, Int.reduceToNat, Nat.reduceMul], by simp only [go_sem, Nat.reduceEqDiff, Nat.reduceAdd, Nat.reduceLeDiff, Int.reduceEq, Int.reduceLT, Int.reduceLE, Int.reduceAdd, Int.reduceSub, Int.reduceMul, Int.reduceNeg, Int.reduceToNat, Nat.reduceMul], by simp only [go_sem, Nat.reduceEqDiff, Nat.reduceAdd, Nat.reduceLeDiff, Int.reduceEq, Int.reduceLT, Int.reduceLE, Int.reduceAdd, Int.reduceSub, Int.reduceMul, Int.reduceNeg, Int.reduceToNat, Nat.reduceMul] <;> rfl, by simp only [go_sem, Nat.reduceEqDiff, Nat.reduceAdd, Nat.reduceLeDiff, Int.reduceEq, Int.reduceLT, Int.reduceLE, Int.reduceAdd, Int.reduceSub, Int.reduceMul, Int.reduceNeg, Int.reduceToNat, Nat.reduceMul] <;> rfl, by simp only [go_sem, Nat.reduceEqDiff, Nat.reduceAdd, Nat.reduceLeDiff, Int.reduceEq, Int.reduceLT, Int.reduceLE, Int.reduceAdd, Int.reduceSub, Int.reduceMul, Int.reduceNeg, Int.reduceToNat, Nat.reduceMul], by simp only [go_sem, Nat.reduceEqDiff, Nat.reduceAdd, Nat.reduceLeDiff, Int.reduceEq, Int.reduceLT, Int.reduceLE, Int.reduceAdd, Int.reduceSub, Int.reduceMul, Int.reduceNeg, Int.reduceToNat, Nat.reduceMul], by simp only [go_sem, Nat.reduceEqDiff, Nat.reduceAdd, Nat.reduceLeDiff, Int.reduceEq, Int.reduceLT, Int.reduceLE, Int.reduceAdd, Int.reduceSub, Int.reduceMul, Int.reduceNeg, Int.reduceToNat, Nat.reduceMul] <;> rfl⟩
  case refine_2 => rw [← AH.next_push X ⟨[.int .i64 (keysW a b c), .int .i64 (if (!decide (n.length = 12)) = true then 6 else 0), .int .i64 (if (1048576 : Int) < t.length then 8 else 0)], 1, false⟩, AH.get_push_eq]
                   have e0 : catB ps 0 = [] := rfl
                   have e1 : decide (0 < 0) = false := by decide
                   have e2 : nW ([] : List UInt8).length = 0 := by decide
                   rw [e0, e1, e2]; rfl
  case refine_3 => rw [AH.get_push_lt _ _ (by rw [AH.next_push]; omega), AH.get_push_lt _ _ (by omega)]; exact hXg
  case refine_4 => intro id hid; rw [AH.get_push_lt _ _ (by rw [AH.next_push]; omega), AH.get_push_lt _ _ (by omega)]; exact hXk id hid
  case refine_5 => rw [AH.next_push, AH.next_push]
  case refine_6 => rw [lw_push, lw_push]; omega
  rintro mm g H' ⟨i, rfl, hi, G1, G2, G3, G4, G5, g3, g4, g5, g11, g12, g17, g18, g19, g109, g110, g111⟩
  obtain ⟨Rr, hRr⟩ : ∃ Rr, Rr = catB ps i := ⟨_, rfl⟩
  have hRl : Rr.length ≤ t.length := by rw [hRr, htt]; exact catB_le
  have hR0 : i = 0 → Rr = [] := by intro h; rw [hRr, h]; rfl
  rw [← hRr] at G1 g18 g19
  have hvH : Sl H' 1 (.slice ad ps.length cp) ps.length (txs ps) := hv.kept G3
  by_cases hlt : (i : Int) < (ps.length : Int)
  · have hi2 : i < ps.length := by omega
    have hcs := catB_succ hi2
    have hle := catB_le (ls := ps) (i := i + 1)
    rw [← hRr] at hcs
    rw [← htt, hcs] at hle
    obtain ⟨p, hp⟩ : ∃ p, p = ps[i] := ⟨_, rfl⟩
    rw [← hp] at hcs hle
    have hpl2 : Rr.length + p.length ≤ 10000 := by rw [List.length_append] at hle; omega
    have hnw : nW Rr.length ≤ 1024 := by unfold nW; omega
    have b51 := v51 (tbl := tbl) F.sl.h51 G1 rfl rfl ha (headL_len hn) ⟨by omega, by omega⟩ ⟨by omega, by omega⟩ p (by omega) (by rw [List.length_drop]; omega)
    obtain ⟨s1, s2, s3⟩ := write_step (a := a) (h := headL n) (R := Rr) (x := p)
    have hstep := outI_step (a := a) (n := n) (x := p) hR0
    rw [s3] at b51
    have hpt : ((nW Rr.length : Nat) : Int) + ((nW (Rr.drop (1024 * nW Rr.length) ++ p).length : Nat) : Int) = ((nW (Rr ++ p).length : Nat) : Int) := by omega
    have hft : ((Rr.length : Int) + (p.length : Int)) = ((Rr ++ p).length : Int) := by rw [List.length_append]; omega
    rw [hpt, hft] at b51
    have hOl := outI_len (a := a) (n := n) hn (i := i + 1) (R := Rr ++ p) (by omega)
    obtain ⟨xx, hxx⟩ : ∃ xx, t = (Rr ++ p) ++ xx := ⟨(ps.drop (i + 1)).flatten, by rw [htt, hcs.symm]; show ps.flatten = catB ps (i + 1) ++ _; rw [catB, ← List.flatten_append, List.take_append_drop]⟩
    have hft2 : s.take (20 + 1040 * nW (Rr ++ p).length) = outI a n (i + 1) (Rr ++ p) := by
      rw [hs, hxx, file_take hn]; unfold outI; rw [if_neg (by omega)]
    obtain ⟨O, hO⟩ : ∃ O, O = outI a n i Rr := ⟨_, rfl⟩
    obtain ⟨Wp, hWp⟩ : ∃ Wp, Wp = slW a (headL n) (decide (0 < i)) (nW Rr.length : Nat) (Rr.drop (1024 * nW Rr.length) ++ p) := ⟨_, rfl⟩
    obtain ⟨O', hO'⟩ : ∃ O', O' = outI a n (i + 1) (Rr ++ p) := ⟨_, rfl⟩
    rw [← hO, ← hWp, ← hO'] at hstep
    rw [← hO'] at hOl hft2
    rw [← hWp] at b51
    rw [← hO] at g18
    obtain ⟨w', hw'⟩ : ∃ w', w' = nW (Rr ++ p).length := ⟨_, rfl⟩
    obtain ⟨N', hN'⟩ : ∃ N', N' = (Rr ++ p).length := ⟨_, rfl⟩
    have hwN : w' = (N' - 1) / 1024 := by rw [hw', hN']; rfl
    have hNl : N' ≤ 10000 := by rw [hN', List.length_append]; exact hpl2
    rw [← hw'] at hOl hft2
    have hsum : O.length + Wp.length = 20 + 1040 * w' := by rw [← hOl, ← hstep, List.length_append]
    have z1 : O.length + Wp.length ≤ 9223372036854775807 := by omega
    have z2 : (Rr.length : Int) + (p.length : Int) = (N' : Int) := by rw [hN', List.length_append]; omega
    have u1 := w64 (x := (N' : Int)) (by omega) (by omega)
    have u2 := w64 (x := (N' : Int) - 1) (by omega) (by omega)
    have u3 : (if (0 : Int) < (N' : Int) - 1 then (N' : Int) - 1 else 0) = ((N' - 1 : Nat) : Int) := by split <;> omega
    have u4 : (((N' - 1 : Nat) : Int)).tdiv 1024 = (w' : Int) := by rw [hwN]; exact tdivN (k := 1024)
    have u5 := w64 (x := (w' : Int)) (by omega) (by omega)
    have u6 := w64 (x := (w' : Int) * 1040) (by omega) (by omega)
    have u7 := w64 (x := 20 + (w' : Int) * 1040) (by omega) (by omega)
    have u8 : 20 + (w' : Int) * 1040 = ((20 + 1040 * w' : Nat) : Int) := by omega
    have u9 := w64 (x := ((20 + 1040 * w' : Nat) : Int)) (by omega) (by omega)
    have hsw : 20 + 1040 * w' ≤ s.length := by
      have : O'.length ≤ s.length := by rw [← hft2, List.length_take]; omega
      omega
    obtain ⟨sv, hsv⟩ : ∃ sv, sv = 20 + 1040 * w' := ⟨_, rfl⟩
    rw [← hsv] at hsum hft2 u8 u9 hsw hOl
    have hxs : (tx s).extract 0 sv = tx O' := by rw [tx_extract, List.drop_zero, hft2]
    have sv0 : (0 : Int) ≤ sv := by omega
    have u10 := w64 (x := (i : Int) + 1) (by omega) (by omega)
    simp only [g3, g4, g5, g11, g12, g17, g18, g19, g109, g110, g111, hlt, go_sem, Nat.reduceEqDiff, Nat.reduceAdd, Nat.reduceLeDiff, Int.reduceEq, Int.reduceLT, Int.reduceLE, Int.reduceAdd, Int.reduceSub, Int.reduceMul, Int.reduceNeg, Int.reduceToNat, Nat.reduceMul]
    refine hvH.at_ hi2 fun ap hp1 hp2 => ?_
    have hvl : i < (txs ps).length := by simp [txs]; exact hi2
    rw [Nat.mul_one, take_one hvl] at hp2
    have hwe : (txs ps)[i] = .string (tx p) := by simp [txs, hp]
    rw [hwe] at hp2
    have z3 : sv ≤ 9223372036854775807 := by omega
    simp only [g3, g4, g5, g11, g12, g17, g18, g19, g109, g110, g111, hp2, ↓b51.run, tx_size, z1, z2, tx_cat, hstep, hOl, u1, u2, u3, u4, u5, u6, u7, u8, u9, u10, sv0, hsw, hxs, hsum, z3, Int.toNat_natCast, go_sem, Nat.reduceEqDiff, Nat.reduceAdd, Nat.reduceLeDiff, Int.reduceEq, Int.reduceLT, Int.reduceLE, Int.reduceAdd, Int.reduceSub, Int.reduceMul, Int.reduceNeg, Int.reduceToNat, Nat.reduceMul]
    have hd1 : decide (0 < i + 1) = true := decide_eq_true (by omega)
    have hd2 : tx O' = tx (outI a n (i + 1) (catB ps (i + 1))) := by rw [hcs, hO']
    have hd3 : ((N' : Nat) : Int) = ((catB ps (i + 1)).length : Int) := by rw [hcs, hN']
    refine ⟨ps.length - (i + 1), by omega, i + 1, by omega, by omega, ?_, ?_, ?_, ?_, ?_, by simp only [g3, go_sem, Nat.reduceEqDiff, Nat.reduceAdd, Nat.reduceLeDiff, Int.reduceEq, Int.reduceLT, Int.reduceLE, Int.reduceAdd, Int.reduceSub, Int.reduceMul, Int.reduceNeg, Int.reduceToNat, Nat.reduceMul], by simp only [g4, go_sem, Nat.reduceEqDiff, Nat.reduceAdd, Nat.reduceLeDiff, Int.reduceEq, Int.reduceLT, Int.reduceLE, Int.reduceAdd, Int.reduceSub, Int.reduceMul, Int.reduceNeg, Int.reduceToNat, Nat.reduceMul], by simp only [g5, go_sem, Nat.reduceEqDiff, Nat.reduceAdd, Nat.reduceLeDiff, Int.reduceEq, Int.reduceLT, Int.reduceLE, Int.reduceAdd, Int.reduceSub, Int.reduceMul, Int.reduceNeg, Int.reduceToNat, Nat.reduceMul], by simp only [g11, go_sem, Nat.reduceEqDiff, Nat.reduceAdd, Nat.reduceLeDiff, Int.reduceEq, Int.reduceLT, Int.reduceLE, Int.reduceAdd, Int.reduceSub, Int.reduceMul, Int.reduceNeg, Int.reduceToNat, Nat.reduceMul], by simp only [g12, go_sem, Nat.reduceEqDiff, Nat.reduceAdd, Nat.reduceLeDiff, Int.reduceEq, Int.reduceLT, Int.reduceLE, Int.reduceAdd, Int.reduceSub, Int.reduceMul, Int.reduceNeg, Int.reduceToNat, Nat.reduceMul], by simp only [g17, go_sem, Nat.reduceEqDiff, Nat.reduceAdd, Nat.reduceLeDiff, Int.reduceEq, Int.reduceLT, Int.reduceLE, Int.reduceAdd, Int.reduceSub, Int.reduceMul, Int.reduceNeg, Int.reduceToNat, Nat.reduceMul], by rw [← hd2]; simp only [go_sem, Nat.reduceEqDiff, Nat.reduceAdd, Nat.reduceLeDiff, Int.reduceEq, Int.reduceLT, Int.reduceLE, Int.reduceAdd, Int.reduceSub, Int.reduceMul, Int.reduceNeg, Int.reduceToNat, Nat.reduceMul], by rw [← hd3]; simp only [go_sem, Nat.reduceEqDiff, Nat.reduceAdd, Nat.reduceLeDiff, Int.reduceEq, Int.reduceLT, Int.reduceLE, Int.reduceAdd, Int.reduceSub, Int.reduceMul, Int.reduceNeg, Int.reduceToNat, Nat.reduceMul], by simp only [g109, go_sem, Nat.reduceEqDiff, Nat.reduceAdd, Nat.reduceLeDiff, Int.reduceEq, Int.reduceLT, Int.reduceLE, Int.reduceAdd, Int.reduceSub, Int.reduceMul, Int.reduceNeg, Int.reduceToNat, Nat.reduceMul], by simp only [g110, go_sem, Nat.reduceEqDiff, Nat.reduceAdd, Nat.reduceLeDiff, Int.reduceEq, Int.reduceLT, Int.reduceLE, Int.reduceAdd, Int.reduceSub, Int.reduceMul, Int.reduceNeg, Int.reduceToNat, Nat.reduceMul], by simp only [go_sem, Nat.reduceEqDiff, Nat.reduceAdd, Nat.reduceLeDiff, Int.reduceEq, Int.reduceLT, Int.reduceLE, Int.reduceAdd, Int.reduceSub, Int.reduceMul, Int.reduceNeg, Int.reduceToNat, Nat.reduceMul] <;> rfl⟩
    · rw [AH.get_set_eq _ _ (by omega), hcs, hd1]; rfl
    · rw [AH.get_set_ne _ _ (by omega)]; exact G2
    · intro id hid; rw [AH.get_set_ne _ _ (by omega)]; exact G3 id hid
    · rw [AH.next_set]; exact G4
    · rw [lw_set]; omega
  · have hie : i = ps.length := by omega
    have hRt : Rr = t := by rw [hRr, hie, catB_all, htt]
    have hb52 := v52 (tbl := tbl) F.sl.h52 G1 rfl rfl ha (headL_len hn) (show 0 ≤ ((nW Rr.length : Nat) : Int) ∧ ((nW Rr.length : Nat) : Int) ≤ 1000000000 by unfold nW; omega) (by rw [List.length_drop]; omega)
    have hend := outI_end (a := a) (n := n) hR0
    rw [hRt, ← hs] at hend
    rw [hRt] at hb52 g18
    obtain ⟨O, hO⟩ : ∃ O, O = outI a n i t := ⟨_, rfl⟩
    obtain ⟨Ep, hEp⟩ : ∃ Ep, Ep = slE a (headL n) (decide (0 < i)) (nW t.length : Nat) (t.drop (1024 * nW t.length)) := ⟨_, rfl⟩
    rw [← hO, ← hEp] at hend
    rw [← hO] at g18
    rw [← hEp] at hb52
    have hsl2 : s.length ≤ 20000 := by rw [hsl]; unfold ndL nW; omega
    have hsum : O.length + Ep.length ≤ 9223372036854775807 := by have := congrArg List.length hend; rw [List.length_append] at this; omega
    obtain ⟨Z, hZ⟩ : ∃ Z, Z = H'.set (X.next + 1) (some { slB a b c (headL n) (decide (0 < i)) false (t.drop (1024 * nW t.length)) (nW t.length : Nat) (t.length : Int) with cells := slV (tx a) (tx b) (tx c) (tx (headL n)) true true (tx (t.drop (1024 * nW t.length))) (nW t.length : Nat) (t.length : Int) }) := ⟨_, rfl⟩
    have hZb : Z.get H.next = some ⟨[.string (tx a), .string (tx b), .string (tx c)], 1, false⟩ := by rw [hZ, AH.get_set_ne _ _ (by omega)]; exact G2
    have hZl : H.next ≤ Z.low := by rw [hZ, lw_set]; omega
    rw [← hZ] at hb52
    simp only [g3, g4, g5, g11, g12, g17, g18, g19, g109, g110, g111, hlt, ↓hb52.run, tx_size, tx_cat, hsum, hend, tx_inj, go_sem, Nat.reduceEqDiff, Nat.reduceAdd, Nat.reduceLeDiff, Int.reduceEq, Int.reduceLT, Int.reduceLE, Int.reduceAdd, Int.reduceSub, Int.reduceMul, Int.reduceNeg, Int.reduceToNat, Nat.reduceMul]
    have hnl : ¬ Z.low < H.next := by omega
    by_cases hf0 : f < 0
    · have b53 := v53_bad (tbl := tbl) P.h86 P.h54 P.h53 (t.length : Int) f m (by omega) Z
      simp only [g3, g4, g5, g11, g12, ↓b53.run, hf0, ↓(a21 _ _ _).run, go_sem, Nat.reduceEqDiff, Nat.reduceAdd, Nat.reduceLeDiff, Int.reduceEq, Int.reduceLT, Int.reduceLE, Int.reduceAdd, Int.reduceSub, Int.reduceMul, Int.reduceNeg, Int.reduceToNat, Nat.reduceMul]
      rw [back_p3 hnl rfl]
      exact hQ
    · by_cases hm0 : m < 0
      · have b53 := v53_bad (tbl := tbl) P.h86 P.h54 P.h53 (t.length : Int) f m (by omega) Z
        simp only [g3, g4, g5, g11, g12, ↓b53.run, hf0, hm0, ↓(a21 _ _ _).run, go_sem, Nat.reduceEqDiff, Nat.reduceAdd, Nat.reduceLeDiff, Int.reduceEq, Int.reduceLT, Int.reduceLE, Int.reduceAdd, Int.reduceSub, Int.reduceMul, Int.reduceNeg, Int.reduceToNat, Nat.reduceMul]
        rw [back_p3 hnl rfl]
        exact hQ
      · obtain ⟨f, rfl⟩ : ∃ f' : Nat, f = f' := ⟨f.toNat, by omega⟩
        obtain ⟨m, rfl⟩ : ∃ m' : Nat, m = m' := ⟨m.toNat, by omega⟩
        have b53 := v53 (tbl := tbl) P.h86 P.h54 P.h53 t.length f m (by omega) (by omega) (by omega) Z
        have b45 := v45 (tbl := tbl) h15 h45 t.length f m (by omega) (by omega) (by omega) Z
        obtain ⟨A, hA⟩ : ∃ A, A = ndAt t.length f m := ⟨_, rfl⟩
        obtain ⟨N, hN⟩ : ∃ N, N = ndN t.length f m := ⟨_, rfl⟩
        have hAN : A + N ≤ s.length := by
          rw [hA, hN]; unfold ndAt ndN
          by_cases hp : ndP t.length f m
          · have := nd_le hp
            rw [if_pos hp, if_pos hp]; omega
          · rw [if_neg hp, if_neg hp]; omega
        obtain ⟨d, hd⟩ : ∃ d, d = (s.take (A + N)).drop A := ⟨_, rfl⟩
        have hdl : d.length = N := by rw [hd, List.length_drop, List.length_take]; omega
        obtain ⟨pv, hpv⟩ : ∃ pv, pv = if f < t.length then (t.take (f + min m (t.length - f))).drop f else [] := ⟨_, rfl⟩
        have hpart : partR a b c (s.take 20) d t.length f m = .tuple #[.string (tx pv), .int .i64 0] := by
          unfold partR
          rw [if_neg (fun h => h hk), if_neg (fun h => h (by rw [hdl, hN]))]
          by_cases hp : ndP t.length f m
          · have hom := open_mid (a := a) (n := n) (t := t) hn htl hp
            rw [← hs, ← hA, ← hN, ← hd] at hom
            rw [hom]
            simp only
            rw [hN, part_text hp, hpv, if_pos hp.1]
          · have hN0 : N = 0 := by rw [hN]; unfold ndN; rw [if_neg hp]
            have hd0 : d = [] := List.eq_nil_of_length_eq_zero (by omega)
            obtain ⟨k1, k2⟩ := fileL_head (a := a) (R := t) hn
            obtain ⟨k3, k4⟩ := head_mark hn
            have : openP a (s.take 20) t.length (f / 1024 : Nat) d = some [] := by
              unfold openP
              rw [hs, k1, if_pos ⟨k4, k3⟩, hd0]
              rfl
            rw [this, hpv]
            simp only [List.drop_nil, List.take_nil]
            by_cases hfz : f < t.length
            · have hm0' : m = 0 := by unfold ndP at hp; omega
              rw [if_pos hfz, hm0', Nat.zero_min, Nat.add_zero, List.drop_of_length_le (by rw [List.length_take]; omega)]
            · rw [if_neg hfz]
        have b46 := fun Y => v46 P a b c (s.take 20) d t.length f m (by omega) (by omega) (by omega) Y
        rw [hpart] at b46
        simp only [keysV] at b46
        rw [← hA, ← hN] at b53 b45
        have hx20 : (tx s).extract 0 20 = tx (s.take 20) := by rw [tx_extract]; rfl
        have l20 : (20 : Int) ≤ s.length := by rw [hsl]; unfold ndL; omega
        have l20n : (20 : Nat) ≤ s.length := by omega
        have wAN := w64 (x := (A : Int) + N) (by omega) (by omega)
        have n1 : ((A : Int) + N).toNat = A + N := by omega
        have n2 : (0 : Int) ≤ (A : Int) + N := by omega
        have n4 : (0 : Int) ≤ (A : Int) := by omega
        have n5 : A ≤ A + N := by omega
        have hxd : (tx s).extract A (A + N) = tx d := by rw [tx_extract, hd]
        by_cases hfz : f < t.length
        · have c1 : ((f : Int) < t.length) = True := eq_true (by omega)
          rw [if_pos hfz] at hpv
          obtain ⟨k, hk2⟩ : ∃ k, k = min m (t.length - f) := ⟨_, rfl⟩
          rw [← hk2] at hpv
          have w1 := w64 (x := (t.length : Int) - f) (by omega) (by omega)
          have hmin : (if (t.length : Int) - f < m then (t.length : Int) - f else m) = k := by split <;> omega
          have w2 := w64 (x := (f : Int) + k) (by omega) (by omega)
          have m1 : ((f : Int) + k).toNat = f + k := by omega
          have m2 : (0 : Int) ≤ (f : Int) + k := by omega
          have m3 : f + k ≤ t.length := by omega
          have m4 : (0 : Int) ≤ (f : Int) := by omega
          have m5 : f ≤ f + k := by omega
          have hxp : (tx t).extract f (f + k) = tx pv := by rw [tx_extract, hpv]
          simp only [g3, g4, g5, g11, g12, ↓b53.run, hf0, hm0, ↓(a21 _ _ _).run, tx_size, ↓b45.run, c1, w1, hmin, w2, m1, m2, m3, m4, m5, hxp, Int.toNat_natCast, hZb, hx20, l20, l20n, wAN, n1, n2, n4, n5, hAN, hxd, ↓(b46 _).run, tx_inj, go_sem, Nat.reduceEqDiff, Nat.reduceAdd, Nat.reduceLeDiff, Int.reduceEq, Int.reduceLT, Int.reduceLE, Int.reduceAdd, Int.reduceSub, Int.reduceMul, Int.reduceNeg, Int.reduceToNat, Nat.reduceMul]
          rw [back_p3 hnl rfl]
          exact hQ
        · have c1 : ((f : Int) < t.length) = False := eq_false (by omega)
          rw [if_neg hfz] at hpv
          simp only [g3, g4, g5, g11, g12, ↓b53.run, hf0, hm0, ↓(a21 _ _ _).run, tx_size, ↓b45.run, c1, Int.toNat_natCast, hZb, hx20, l20, l20n, wAN, n1, n2, n4, n5, hAN, hxd, ↓(b46 _).run, hpv, ht0, tx_inj, go_sem, Nat.reduceEqDiff, Nat.reduceAdd, Nat.reduceLeDiff, Int.reduceEq, Int.reduceLT, Int.reduceLE, Int.reduceAdd, Int.reduceSub, Int.reduceMul, Int.reduceNeg, Int.reduceToNat, Nat.reduceMul]
          rw [back_p3 hnl rfl]
          exact hQ
end Go.Proofs.Ytildhljhbbhmmaa.AM
/- From the abstract machine to a row of the second form. -/
namespace Go.Proofs.Ytildhljhbbhmmaa.AM
open Go Go.RowKit Go.ChangeShapes Go.WideShapes Go.ChangeAt
set_option linter.all false
section
variable {H : Type} {enc : TypeId × Value → H}
set_option maxRecDepth 100000 in
/-- A law whose arguments are of little bulk: it returns true, and each argument reads as it read. -/
theorem law_lifted_upto {os : Os} (started : os.Started) {f : FuncId} {fn : Func} {s : ChangeSpec} {tb : TypeId} {conds : List PathCond} (F : Stop.Interp)
    (hvars : s.vars = []) (hfn : Try.prog.funcs[f]? = some fn) (hinit : Try.prog.inits.idxOf? f = none) (hres : fn.resultTypes = #[tb]) (htb : Try.prog.underlying tb = some .bool)
    (hread : (fn.params.toList.all fun t => Try.prog.readableRec t && decide (t < Try.prog.types.size)) = true)
    (hspec : ∀ (ds : List (DataW H)), ds.length = fn.params.size → s.fn H (ds ++ []) = { results := [.lit (.bool true)], args := ds })
    (witness : ∃ (w : World) (tape : Tape) (i : Input), w.os = os ∧ (w.forCall tape i).Shaped Try.checked.prog ∧ i.vars = [] ∧ Input.okWide Try.checked.prog (w.forCall tape i) .any w.heap.size f i ∧
      (Rows.OpenSpec.upto s).pre6 enc Try.checked.prog fn conds false (w.forCall tape i).memory i.args ∧ ({} : Assume).holds Try.checked.prog (lone (Frame.enter Try.checked.prog f i.args .normal) [] (w.forCall tape i)))
    (run : ∀ (W : World) (args : Array Value) (ds : List (DataW H)) (ps : List MemPlace) (base : Nat), (∀ (j : Nat) t v, fn.params[j]? = some t → args[j]? = some v → Value.okWide Try.prog W .any base t v) →
      DataW.TrodAll enc Try.prog W 0 (fun _ => true) true fn.params.toList args.toList ds ps → (∀ x ∈ ps, x.block < W.heap.size) → Rows.uptoSmall H ds = true →
      Calls Try.prog f args W fun | .returned v', W' => v' = .bool true ∧ Below W.heap.size W W' | _, _ => False) :
    ReturnsInHanded {} Try.checked os f .any ((Rows.OpenSpec.upto s).pre6 enc Try.prog fn conds false) (((Rows.OpenSpec.upto s).at F).post enc Try.prog fn false true false false) := by
  refine returnsInHanded_of_cond (C := Try.checked) (s := Rows.OpenSpec.upto s) (k := Rows.uptoSmall) rfl own started hinit hfn witness ?_
  intro W base args ds gs before hval hW _ hk _
  have hW' := hW
  obtain ⟨p, q, hA, hV, rfl, hfz, hnd⟩ := hW
  have hvars' : (Rows.OpenSpec.upto s).vars = [] := hvars
  rw [hvars'] at hV
  obtain ⟨rfl, rfl⟩ := trodVars_none hV
  rw [List.append_nil] at hW' hk
  have hlt : ∀ x ∈ p, x.block < W.heap.size := fun x hx => by simpa using hW'.lt x hx
  refine (run W args ds p base hval hA hlt hk).mono fun e W' he => ?_
  cases e with
  | panicked ch => exact he.elim
  | outgrown => exact he.elim
  | returned v =>
    obtain ⟨rfl, hb⟩ := he
    refine ⟨_, rfl, ?_⟩
    have hlen : ds.length = fn.params.size := by
      have := (trodAll_length hA).2
      simpa using this
    have hs := hspec ds hlen
    refine ⟨ds, [], p, [], p, [], hW', ?_, ?_, ?_, hb.frame _, fun h => by simp at h⟩
    · show DataW.TrodAll enc _ _ _ _ _ _ _ (s.fn H (ds ++ [])).results _
      rw [hs, hres]
      exact trodAll_mk1 (shut_bool htb true)
    · show DataW.TrodAll enc _ _ _ _ _ _ _ (s.fn H (ds ++ [])).args _
      rw [hs]
      exact trodAll_below laidOut hb hread hA hlt
    · have e : (((Rows.OpenSpec.upto s).at F).fn H (ds ++ [])) = { results := [.lit (.bool true)], args := ds } := hs
      rw [e]
      first | exact hvars ▸ rfl | (show _ = _; simp [hvars']; rfl) | rfl
end
end Go.Proofs.Ytildhljhbbhmmaa.AM
/- An argument that is a slice of texts, of little bulk. -/
namespace Go.Proofs.Ytildhljhbbhmmaa.AM
open Go Go.RowKit Go.ChangeShapes Go.WideShapes Go.ChangeAt
set_option linter.all false

section
variable {H : Type} {enc : TypeId × Value → H} {P : Program} {w : World}
theorem bulkAll_app {l r : List (DataW H)} : Rows.uptoBulkAll (l ++ r) = Rows.uptoBulkAll l + Rows.uptoBulkAll r := by
  induction l with
  | nil => simp [Rows.uptoBulkAll]
  | cons x l ih => simp only [List.cons_append, Rows.uptoBulkAll, ih]; omega
def strB (ps : List (List UInt8)) : List Value := ps.map fun x => .string ⟨x.toArray⟩
theorem read_strs {t e : TypeId} {v : Value} {x : DataW H × List MemPlace} {k : Nat} (ht : P.underlying t = some (.slice e)) (he : P.underlying e = some .string) (hce : P.cellsOf e = 1)
    (hd : DataW.trod enc P w 0 (fun _ => true) true k t [v] = some x) :
    ∃ ps : List (List UInt8), ArgS w v ps.length 1 (strB ps) ∧ ps.flatten.length + ps.length + 1 ≤ Rows.uptoBulk x.1 := by
  rcases _root_.Go.Deep.open_slice ht hd with ⟨h1, h2⟩ | ⟨a, len, cap, m, n, D, Pl, h1, _, hlc, hcap, hm, h2, hx⟩
  · simp only [List.cons.injEq, and_true] at h1
    refine ⟨[], ⟨0, by simp, by simp, .inl ⟨h1, rfl, rfl⟩⟩, ?_⟩
    rw [h2]
    simp [Rows.uptoBulk]
  · simp only [List.cons.injEq, and_true] at h1
    simp only [if_true] at hm
    subst hm
    rw [hce] at hx
    have key : ∀ k, k ≤ m → ∃ ps : List (List UInt8), ps.length = k ∧ (∀ i, i < k → w.cells? 0 (a.add (i * 1)) 1 = some (((strB ps).drop (i * 1)).take 1)) ∧ ps.flatten.length + ps.length ≤ Rows.uptoBulkAll ((List.range k).map D) := by
      intro k
      induction k with
      | zero => intro _; exact ⟨[], rfl, fun i hi => by omega, by simp⟩
      | succ k ih =>
        intro hk
        obtain ⟨ps, e2, e4, e5⟩ := ih (by omega)
        obtain ⟨cs', h5, h6⟩ := hx k (by omega)
        obtain ⟨s, hcs, hD, _⟩ := DataW.trod_string he h6
        subst hcs
        have hDk : D k = .lit (.string s.data.toList) := by simpa using congrArg Prod.fst hD
        have hat : ∀ (l : List (List UInt8)) i (h : i < l.length), ((strB l).drop (i * 1)).take 1 = [.string ⟨l[i].toArray⟩] := by
          intro l i h
          rw [Nat.mul_one, take_one (by simp [strB]; exact h)]
          simp [strB]
        refine ⟨ps ++ [s.data.toList], by simp [e2], fun i hi => ?_, ?_⟩
        · rw [hat _ _ (by simp [e2]; omega)]
          by_cases hik : i < k
          · have := e4 i hik
            rw [hat _ _ (by omega)] at this
            rw [this]
            simp [List.getElem_append_left (show i < ps.length by omega)]
          · have : i = k := by omega
            subst this
            rw [h5]
            simp [List.getElem_append_right (show ps.length ≤ i by omega), e2]
        · rw [List.range_succ, List.map_append, bulkAll_app]
          simp only [List.map_cons, List.map_nil, Rows.uptoBulkAll, hDk, Rows.uptoBulk, List.flatten_append, List.flatten_cons, List.flatten_nil, List.append_nil, List.length_append, List.length_cons, List.length_nil]
          omega
    obtain ⟨ps, e2, e4, e5⟩ := key len hlc
    refine ⟨ps, ⟨m, by omega, hcap, .inr ⟨a, by rw [h1, e2], ?_⟩⟩, ?_⟩
    · have hp1 : (strB ps).all p1 = true := by
        rw [List.all_eq_true]
        intro y hy
        simp only [strB, List.mem_map] at hy
        obtain ⟨z, _, rfl⟩ := hy
        rfl
      by_cases hm0 : m = 0
      · have := List.eq_nil_of_length_eq_zero (show ps.length = 0 by omega)
        subst this
        exact .inl ⟨hm0, rfl, rfl⟩
      · refine .inr ⟨by omega, argRow_of (base := 0) (by omega) (by omega) (by simp [strB]) (by omega) (fun v hv => List.all_eq_true.1 (p1_one hp1) v hv) fun i hi => ?_⟩
        obtain ⟨cs', h5, _⟩ := hx i hi
        refine ⟨cs', h5, fun hin => ?_⟩
        have := e4 i (by omega)
        rw [h5] at this
        exact Option.some.inj this
    · rw [h2]
      simp only [Rows.uptoBulk]
      omega
end
theorem slc_cells {P : Program} {w : World} {r : Reach} {b : Nat} {t e : TypeId} {v : Value} (ht : P.underlying t = some (.slice e)) (hval : Value.okWide P w r b t v) : v.cells.toList = [v] := by
  unfold Value.okWide at hval
  rw [ht] at hval
  unfold Cell.okWide at hval
  rw [ht] at hval
  cases v <;> simp only [Cell.ok, ht] at hval <;> rfl
/-- The start with a slice of texts. -/
theorem Start.strs {w : World} {H : AH} {c : CMap} (st : Start w H c) {v : Value} {ps : List (List UInt8)} (h : ArgS w v ps.length 1 (strB ps)) :
    ∃ (c' : CMap) (H' : AH) (ad : Option Addr) (cp : Nat), Start w H' c' ∧ VR H'.next c' (.slice ad ps.length cp) v ∧ Sl H' 1 (.slice ad ps.length cp) ps.length (strB ps) ∧ More H c H' c' ∧ ps.length ≤ cp := by
  have hp : (strB ps).all p1 = true := by
    rw [List.all_eq_true]
    intro y hy
    simp only [strB, List.mem_map] at hy
    obtain ⟨z, _, rfl⟩ := hy
    rfl
  obtain ⟨cap, hc, _, ⟨rfl, h0, h1⟩ | ⟨a, rfl, ⟨h00, h0, h1⟩ | ⟨hpos, har⟩⟩⟩ := h
  · rw [h0, h1]
    exact ⟨_, _, none, 0, st, .plain rfl, .inl ⟨none, 0, rfl, rfl, rfl⟩, .refl _ _, Nat.le_refl _⟩
  · have hc0 : c 0 = none := by
      have := st.sim.live 0
      rw [st.dead] at this
      cases h0 : c 0 with
      | none => rfl
      | some x => rw [h0] at this; simp at this
    rw [h0, h1]
    exact ⟨_, _, some ⟨0, 0, none⟩, 0, st, .sliceDead st.pos hc0, .inl ⟨_, 0, rfl, rfl, rfl⟩, .refl _ _, Nat.le_refl _⟩
  · obtain ⟨c', h1, h2, h3⟩ := st.arg har hp
    refine ⟨_, _, _, _, h1, h2, .inr ⟨_, cap, rfl, ?_⟩, h3, hc⟩
    rw [ldc_eq]
    simp only [gt_push, if_true]
    rw [ldcB_some, if_pos (by simp [har.len]), ← har.len]
    simp
end Go.Proofs.Ytildhljhbbhmmaa.AM
