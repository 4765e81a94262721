import Derived.Test.YtidpkoaomfbljaaHaulA
namespace Go.Proofs.Ytidpkoaomfbljaa.AM
open Go
set_option linter.all false
variable {tbl : Tbl} [hT : TMono tbl]

def delL (b c j : Int) : Nat → Int → Int → List Int
  | 0, _, _ => []
  | n + 1, d, s => (d - chanceI s % (d * j / 100 + 1)) :: delL b c j n (if b < d * c then b else d * c) (chanceI s)
theorem delL_len (b c j : Int) : ∀ (n : Nat) (d s : Int), (delL b c j n d s).length = n := by
  intro n
  induction n with
  | zero => intro d s; rfl
  | succ n ih => intro d s; simp only [delL, List.length_cons, ih]
theorem mulB {d c : Int} (hd : 0 ≤ d ∧ d ≤ 3600000) (hc : 0 ≤ c ∧ c ≤ 100) : 0 ≤ d * c ∧ d * c ≤ 360000000 := by
  refine ⟨Int.mul_nonneg hd.1 hc.1, ?_⟩
  calc d * c ≤ 3600000 * c := Int.mul_le_mul_of_nonneg_right hd.2 hc.1
    _ ≤ 3600000 * 100 := Int.mul_le_mul_of_nonneg_left hc.2 (by omega)
theorem p1_ints (l : List Int) : (l.map I64).all p1 = true := by
  rw [List.all_eq_true]
  intro x hx
  obtain ⟨y, _, rfl⟩ := List.mem_map.1 hx
  rfl
theorem Own.push {base : Nat} {H : AH} {es n : Nat} {v : Value} {l : List Value} (h : Own base H es v n l) (b : Blk) : Own base (H.push b) es v n l := by
  rcases h with h | ⟨b', h0, h1, h2, h3, h4⟩
  · exact .inl h
  · exact .inr ⟨b', h0, by rw [AH.get_push_lt _ _ (AH.get_lt h1)]; exact h1, h2, h3, h4⟩
def box5 (a b c d e : Int) : Blk := ⟨[.int .i64 a, .int .i64 b, .int .i64 c, .int .i64 d, .int .i64 e], 1, false⟩
theorem v49 (h68 : tbl 68 = some (.code m68)) (h49 : tbl 49 = some (.code m49)) (a b c j e s0 : Int) (hok : okB a b c j e) (hs0 : 0 ≤ s0 ∧ s0 ≤ 2147483647) (H : AH) :
    Val tbl 49 [.agg #[.int .i64 a, .int .i64 b, .int .i64 c, .int .i64 j, .int .i64 e], .int .i64 s0] H (mkS H (e - 1).toNat) (mkH H 1 (e - 1).toNat ((delL b c j (e - 1).toNat a s0).map I64)) := by
  obtain ⟨hok1, hok2, hok3, hok4, hok5⟩ := hok
  refine Val.of_all fun Q hQ => ?_
  rw [rn_fun h49, k49]
  simp only [go_sem, Nat.reduceEqDiff, Nat.reduceAdd, Nat.reduceLeDiff, Int.reduceEq, Int.reduceLT, Int.reduceLE, Int.reduceAdd, Int.reduceSub, Int.reduceMul, Int.reduceNeg, Int.reduceToNat, Nat.reduceMul]
  rw [w64 (by omega) (by omega)]
  refine rn_loop (fun m f H' => ∃ (i : Nat) (d s : Int) (l : List Int) (v : Value), (i : Int) ≤ e - 1 ∧ m = (e - 1).toNat - i ∧ f 1 = .int .i64 s ∧ f 2 = .pointer (some ⟨H.next, 0, none⟩) ∧ f 5 = v ∧ f 6 = .int .i64 d ∧ f 11 = .int .i64 (e - 1) ∧ f 12 = .int .i64 i ∧
    Own (H.next + 1) H' 1 v l.length (l.map I64) ∧ l.length = i ∧ l ++ delL b c j ((e - 1).toNat - i) d s = delL b c j (e - 1).toNat a s0 ∧ H'.get H.next = some (box5 a b c j e) ∧ H.next + 1 ≤ H'.next ∧ H.next ≤ H'.low ∧ (0 ≤ d ∧ d ≤ 3600000) ∧ (0 ≤ s ∧ s ≤ 2147483647)) ?_
    (n := (e - 1).toNat) ⟨0, a, s0, [], .slice none 0 0, by omega, by omega, by simp only [go_sem, Nat.reduceEqDiff, Nat.reduceAdd, Nat.reduceLeDiff, Int.reduceEq, Int.reduceLT, Int.reduceLE, Int.reduceAdd, Int.reduceSub, Int.reduceMul, Int.reduceNeg, Int.reduceToNat, Nat.reduceMul], by simp only [go_sem, Nat.reduceEqDiff, Nat.reduceAdd, Nat.reduceLeDiff, Int.reduceEq, Int.reduceLT, Int.reduceLE, Int.reduceAdd, Int.reduceSub, Int.reduceMul, Int.reduceNeg, Int.reduceToNat, Nat.reduceMul], by simp only [go_sem, Nat.reduceEqDiff, Nat.reduceAdd, Nat.reduceLeDiff, Int.reduceEq, Int.reduceLT, Int.reduceLE, Int.reduceAdd, Int.reduceSub, Int.reduceMul, Int.reduceNeg, Int.reduceToNat, Nat.reduceMul], by simp only [go_sem, Nat.reduceEqDiff, Nat.reduceAdd, Nat.reduceLeDiff, Int.reduceEq, Int.reduceLT, Int.reduceLE, Int.reduceAdd, Int.reduceSub, Int.reduceMul, Int.reduceNeg, Int.reduceToNat, Nat.reduceMul], by simp only [go_sem, Nat.reduceEqDiff, Nat.reduceAdd, Nat.reduceLeDiff, Int.reduceEq, Int.reduceLT, Int.reduceLE, Int.reduceAdd, Int.reduceSub, Int.reduceMul, Int.reduceNeg, Int.reduceToNat, Nat.reduceMul], by simp only [go_sem, Nat.reduceEqDiff, Nat.reduceAdd, Nat.reduceLeDiff, Int.reduceEq, Int.reduceLT, Int.reduceLE, Int.reduceAdd, Int.reduceSub, Int.reduceMul, Int.reduceNeg, Int.reduceToNat, Nat.reduceMul] <;> rfl, .inl ⟨rfl, rfl, rfl⟩, rfl, rfl, by simp only [go_sem, Nat.reduceEqDiff, Nat.reduceAdd, Nat.reduceLeDiff, Int.reduceEq, Int.reduceLT, Int.reduceLE, Int.reduceAdd, Int.reduceSub, Int.reduceMul, Int.reduceNeg, Int.reduceToNat, Nat.reduceMul] <;> rfl, by simp only [go_sem, Nat.reduceEqDiff, Nat.reduceAdd, Nat.reduceLeDiff, Int.reduceEq, Int.reduceLT, Int.reduceLE, Int.reduceAdd, Int.reduceSub, Int.reduceMul, Int.reduceNeg, Int.reduceToNat, Nat.reduceMul] <;> omega, by simp only [go_sem, Nat.reduceEqDiff, Nat.reduceAdd, Nat.reduceLeDiff, Int.reduceEq, Int.reduceLT, Int.reduceLE, Int.reduceAdd, Int.reduceSub, Int.reduceMul, Int.reduceNeg, Int.reduceToNat, Nat.reduceMul] <;> omega, by omega, hs0⟩
  rintro m f H' ⟨i, d, s, l, v, hi, rfl, f1, f2, f5, f6, f11, f12, hown, hlen, hL, hbox, hnx, hlow, hd, hs⟩
  simp only [f1, f2, f5, f6, f11, f12, go_sem, Nat.reduceEqDiff, Nat.reduceAdd, Nat.reduceLeDiff, Int.reduceEq, Int.reduceLT, Int.reduceLE, Int.reduceAdd, Int.reduceSub, Int.reduceMul, Int.reduceNeg, Int.reduceToNat, Nat.reduceMul]
  refine iteP_intro ?_ ?_ <;> intro hlt
  · have hne : ¬ H.next = H'.next := by omega
    have hdj := mulB hd ⟨hok4.1, hok4.2⟩
    have hdc := mulB hd ⟨by omega, hok3.2⟩
    have w1 := w64 (x := d * j) (by omega) (by omega)
    have t1 : (d * j).tdiv 100 = d * j / 100 := Int.tdiv_eq_ediv_of_nonneg hdj.1
    have w2 := w64 (x := d * j / 100) (by omega) (by omega)
    have w3 := w64 (x := d * j / 100 + 1) (by omega) (by omega)
    have z1 : ¬ d * j / 100 + 1 = 0 := by omega
    have hcr := chance_range s
    have t2 : (chanceI s).tmod (d * j / 100 + 1) = chanceI s % (d * j / 100 + 1) := Int.tmod_eq_emod_of_nonneg hcr.1
    have hm1 := Int.emod_nonneg (chanceI s) z1
    have hm2 := Int.emod_lt_of_pos (chanceI s) (show 0 < d * j / 100 + 1 by omega)
    have w4 := w64 (x := d - chanceI s % (d * j / 100 + 1)) (by omega) (by omega)
    simp only [f1, f2, f5, f6, f11, f12, hbox, hne, box5, w1, w2, w3, w4, t1, t2, z1, ↓(v68 h68 s hs _).run, go_sem, Nat.reduceEqDiff, Nat.reduceAdd, Nat.reduceLeDiff, Int.reduceEq, Int.reduceLT, Int.reduceLE, Int.reduceAdd, Int.reduceSub, Int.reduceMul, Int.reduceNeg, Int.reduceToNat, Nat.reduceMul]
    obtain ⟨v', H2, he, hown2, hget2, hnx2, hlow2⟩ := (hown.push ⟨[.int .i64 (d - chanceI s % (d * j / 100 + 1))], 1, false⟩).append (bytes := 8) (k := 1) (new := [.int .i64 (d - chanceI s % (d * j / 100 + 1))]) (by rw [AH.next_push]; omega) (by omega) rfl (by omega)
    rw [he]
    have hbox2 : H2.get H.next = some (box5 a b c j e) := by rw [hget2 _ (by omega), AH.get_push_lt _ _ (by omega)]; exact hbox
    have w5 := w64 (x := d * c) (by omega) (by omega)
    have w6 := w64 (x := (i : Int) + 1) (by omega) (by omega)
    simp only [f1, f2, f5, f6, f11, f12, hbox2, box5, w5, w6, go_sem, Nat.reduceEqDiff, Nat.reduceAdd, Nat.reduceLeDiff, Int.reduceEq, Int.reduceLT, Int.reduceLE, Int.reduceAdd, Int.reduceSub, Int.reduceMul, Int.reduceNeg, Int.reduceToNat, Nat.reduceMul]
    rw [AH.next_push] at hnx2
    have hlow3 := hlow2 H.next (by omega) hlow
    obtain ⟨k, hk⟩ : ∃ k, (e - 1).toNat - i = k + 1 := ⟨(e - 1).toNat - i - 1, by omega⟩
    rw [hk] at hL
    simp only [delL] at hL
    refine ⟨(e - 1).toNat - (i + 1), by omega, i + 1, if b < d * c then b else d * c, chanceI s, l ++ [d - chanceI s % (d * j / 100 + 1)], v', by omega, rfl, by simp only [go_sem, Nat.reduceEqDiff, Nat.reduceAdd, Nat.reduceLeDiff, Int.reduceEq, Int.reduceLT, Int.reduceLE, Int.reduceAdd, Int.reduceSub, Int.reduceMul, Int.reduceNeg, Int.reduceToNat, Nat.reduceMul], by simp only [f2, go_sem, Nat.reduceEqDiff, Nat.reduceAdd, Nat.reduceLeDiff, Int.reduceEq, Int.reduceLT, Int.reduceLE, Int.reduceAdd, Int.reduceSub, Int.reduceMul, Int.reduceNeg, Int.reduceToNat, Nat.reduceMul], by simp only [go_sem, Nat.reduceEqDiff, Nat.reduceAdd, Nat.reduceLeDiff, Int.reduceEq, Int.reduceLT, Int.reduceLE, Int.reduceAdd, Int.reduceSub, Int.reduceMul, Int.reduceNeg, Int.reduceToNat, Nat.reduceMul], by simp only [go_sem, Nat.reduceEqDiff, Nat.reduceAdd, Nat.reduceLeDiff, Int.reduceEq, Int.reduceLT, Int.reduceLE, Int.reduceAdd, Int.reduceSub, Int.reduceMul, Int.reduceNeg, Int.reduceToNat, Nat.reduceMul], by simp only [f11, go_sem, Nat.reduceEqDiff, Nat.reduceAdd, Nat.reduceLeDiff, Int.reduceEq, Int.reduceLT, Int.reduceLE, Int.reduceAdd, Int.reduceSub, Int.reduceMul, Int.reduceNeg, Int.reduceToNat, Nat.reduceMul], by simp only [go_sem, Nat.reduceEqDiff, Nat.reduceAdd, Nat.reduceLeDiff, Int.reduceEq, Int.reduceLT, Int.reduceLE, Int.reduceAdd, Int.reduceSub, Int.reduceMul, Int.reduceNeg, Int.reduceToNat, Nat.reduceMul] <;> rfl, by simpa [I64] using hown2, by simp [hlen], ?_, hbox2, by omega, hlow3, ?_, hcr⟩
    · rw [← hL, List.append_assoc, show (e - 1).toNat - (i + 1) = k by omega]
      rfl
    · split <;> omega
  · have hi : i = (e - 1).toNat := by omega
    subst hi
    rw [Nat.sub_self] at hL
    simp only [delL, List.append_nil] at hL
    subst hL
    simp only [f1, f2, f5, f6, f11, f12, go_sem, Nat.reduceEqDiff, Nat.reduceAdd, Nat.reduceLeDiff, Int.reduceEq, Int.reduceLT, Int.reduceLE, Int.reduceAdd, Int.reduceSub, Int.reduceMul, Int.reduceNeg, Int.reduceToNat, Nat.reduceMul]
    rw [back_own hown (by omega) hlow (p1_ints _), delL_len]
    exact hQ

/-- The reference's. -/
def delR (b c j : Int) : Nat → Int → Int → List Int
  | 0, _, _ => []
  | n + 1, d, s => ((if b < d then b else d) - chanceI s % ((if b < d then b else d) * j / 100 + 1)) :: delR b c j n (if 3600000 < d * c then 3600000 else d * c) (chanceI s)
theorem delR_eq {b c j : Int} (hb : 0 ≤ b ∧ b ≤ 3600000) (hc : 1 ≤ c) : ∀ (n : Nat) (d s : Int), 0 ≤ d → delR b c j n d s = delL b c j n (if b < d then b else d) s := by
  intro n
  induction n with
  | zero => intro d s _; rfl
  | succ n ih =>
    intro d s hd
    have h1 : d ≤ d * c := by
      have := Int.mul_le_mul_of_nonneg_left hc hd
      omega
    have h2 : b ≤ b * c := by
      have := Int.mul_le_mul_of_nonneg_left hc hb.1
      omega
    simp only [delR, delL]
    rw [ih _ _ (by split <;> omega)]
    congr 2
    by_cases h : b < d
    · simp only [if_pos h]
      by_cases h3 : 3600000 < d * c
      · simp only [if_pos h3]; split <;> split <;> omega
      · simp only [if_neg h3]; split <;> split <;> omega
    · simp only [if_neg h]
      by_cases h3 : 3600000 < d * c
      · simp only [if_pos h3]; split <;> split <;> omega
      · simp only [if_neg h3]
theorem delR_len (b c j : Int) : ∀ (n : Nat) (d s : Int), (delR b c j n d s).length = n := by
  intro n
  induction n with
  | zero => intro d s; rfl
  | succ n ih => intro d s; simp only [delR, List.length_cons, ih]
theorem v19 (h50 : tbl 50 = some (.code m50)) (h19 : tbl 19 = some (.code m19)) (a b c j e s0 : Int) (hok : okB a b c j e) (hs0 : 0 ≤ s0 ∧ s0 ≤ 2147483647) (H : AH) :
    Val tbl 19 [.agg #[.int .i64 a, .int .i64 b, .int .i64 c, .int .i64 j, .int .i64 e], .int .i64 s0] H (mkS H (e - 1).toNat) (mkH H 1 (e - 1).toNat ((delR b c j (e - 1).toNat a s0).map I64)) := by
  obtain ⟨hok1, hok2, hok3, hok4, hok5⟩ := hok
  refine Val.of_all fun Q hQ => ?_
  rw [rn_fun h19, k19]
  simp only [go_sem, Nat.reduceEqDiff, Nat.reduceAdd, Nat.reduceLeDiff, Int.reduceEq, Int.reduceLT, Int.reduceLE, Int.reduceAdd, Int.reduceSub, Int.reduceMul, Int.reduceNeg, Int.reduceToNat, Nat.reduceMul]
  rw [w64 (by omega) (by omega)]
  refine rn_loop (fun m f H' => ∃ (i : Nat) (d s : Int) (l : List Int) (v : Value), (i : Int) ≤ e - 1 ∧ m = (e - 1).toNat - i ∧ f 1 = .int .i64 s ∧ f 2 = .pointer (some ⟨H.next, 0, none⟩) ∧ f 5 = v ∧ f 6 = .int .i64 d ∧ f 12 = .int .i64 (e - 1) ∧ f 13 = .int .i64 i ∧
    Own (H.next + 1) H' 1 v l.length (l.map I64) ∧ l.length = i ∧ l ++ delR b c j ((e - 1).toNat - i) d s = delR b c j (e - 1).toNat a s0 ∧ H'.get H.next = some (box5 a b c j e) ∧ H.next + 1 ≤ H'.next ∧ H.next ≤ H'.low ∧ (0 ≤ d ∧ d ≤ 3600000) ∧ (0 ≤ s ∧ s ≤ 2147483647)) ?_
    (n := (e - 1).toNat) ⟨0, a, s0, [], .slice none 0 0, by omega, by omega, by simp only [go_sem, Nat.reduceEqDiff, Nat.reduceAdd, Nat.reduceLeDiff, Int.reduceEq, Int.reduceLT, Int.reduceLE, Int.reduceAdd, Int.reduceSub, Int.reduceMul, Int.reduceNeg, Int.reduceToNat, Nat.reduceMul], by simp only [go_sem, Nat.reduceEqDiff, Nat.reduceAdd, Nat.reduceLeDiff, Int.reduceEq, Int.reduceLT, Int.reduceLE, Int.reduceAdd, Int.reduceSub, Int.reduceMul, Int.reduceNeg, Int.reduceToNat, Nat.reduceMul], by simp only [go_sem, Nat.reduceEqDiff, Nat.reduceAdd, Nat.reduceLeDiff, Int.reduceEq, Int.reduceLT, Int.reduceLE, Int.reduceAdd, Int.reduceSub, Int.reduceMul, Int.reduceNeg, Int.reduceToNat, Nat.reduceMul], by simp only [go_sem, Nat.reduceEqDiff, Nat.reduceAdd, Nat.reduceLeDiff, Int.reduceEq, Int.reduceLT, Int.reduceLE, Int.reduceAdd, Int.reduceSub, Int.reduceMul, Int.reduceNeg, Int.reduceToNat, Nat.reduceMul], by simp only [go_sem, Nat.reduceEqDiff, Nat.reduceAdd, Nat.reduceLeDiff, Int.reduceEq, Int.reduceLT, Int.reduceLE, Int.reduceAdd, Int.reduceSub, Int.reduceMul, Int.reduceNeg, Int.reduceToNat, Nat.reduceMul], by simp only [go_sem, Nat.reduceEqDiff, Nat.reduceAdd, Nat.reduceLeDiff, Int.reduceEq, Int.reduceLT, Int.reduceLE, Int.reduceAdd, Int.reduceSub, Int.reduceMul, Int.reduceNeg, Int.reduceToNat, Nat.reduceMul] <;> rfl, .inl ⟨rfl, rfl, rfl⟩, rfl, rfl, by simp only [go_sem, Nat.reduceEqDiff, Nat.reduceAdd, Nat.reduceLeDiff, Int.reduceEq, Int.reduceLT, Int.reduceLE, Int.reduceAdd, Int.reduceSub, Int.reduceMul, Int.reduceNeg, Int.reduceToNat, Nat.reduceMul] <;> rfl, by simp only [go_sem, Nat.reduceEqDiff, Nat.reduceAdd, Nat.reduceLeDiff, Int.reduceEq, Int.reduceLT, Int.reduceLE, Int.reduceAdd, Int.reduceSub, Int.reduceMul, Int.reduceNeg, Int.reduceToNat, Nat.reduceMul] <;> omega, by simp only [go_sem, Nat.reduceEqDiff, Nat.reduceAdd, Nat.reduceLeDiff, Int.reduceEq, Int.reduceLT, Int.reduceLE, Int.reduceAdd, Int.reduceSub, Int.reduceMul, Int.reduceNeg, Int.reduceToNat, Nat.reduceMul] <;> omega, by omega, hs0⟩
  rintro m f H' ⟨i, d, s, l, v, hi, rfl, f1, f2, f5, f6, f11, f12, hown, hlen, hL, hbox, hnx, hlow, hd, hs⟩
  simp only [f1, f2, f5, f6, f11, f12, go_sem, Nat.reduceEqDiff, Nat.reduceAdd, Nat.reduceLeDiff, Int.reduceEq, Int.reduceLT, Int.reduceLE, Int.reduceAdd, Int.reduceSub, Int.reduceMul, Int.reduceNeg, Int.reduceToNat, Nat.reduceMul]
  refine iteP_intro ?_ ?_ <;> intro hlt
  · have hne : ¬ H.next = H'.next := by omega
    obtain ⟨n, hn⟩ : ∃ n, n = (if b < d then b else d) := ⟨_, rfl⟩
    have hnr : 0 ≤ n ∧ n ≤ 3600000 := by rw [hn]; split <;> omega
    have hdj := mulB hnr ⟨hok4.1, hok4.2⟩
    have hdc := mulB hd ⟨by omega, hok3.2⟩
    have w1 := w64 (x := n * j) (by omega) (by omega)
    have t1 : (n * j).tdiv 100 = n * j / 100 := Int.tdiv_eq_ediv_of_nonneg hdj.1
    have w2 := w64 (x := n * j / 100) (by omega) (by omega)
    have w3 := w64 (x := n * j / 100 + 1) (by omega) (by omega)
    have z1 : ¬ n * j / 100 + 1 = 0 := by omega
    have hcr := chance_range s
    have t2 : (chanceI s).tmod (n * j / 100 + 1) = chanceI s % (n * j / 100 + 1) := Int.tmod_eq_emod_of_nonneg hcr.1
    have hm1 := Int.emod_nonneg (chanceI s) z1
    have hm2 := Int.emod_lt_of_pos (chanceI s) (show 0 < n * j / 100 + 1 by omega)
    have w4 := w64 (x := n - chanceI s % (n * j / 100 + 1)) (by omega) (by omega)
    simp only [f1, f2, f5, f6, f11, f12, hbox, hne, box5, ← hn, w1, w2, w3, w4, t1, t2, z1, ↓(v50 h50 s hs _).run, go_sem, Nat.reduceEqDiff, Nat.reduceAdd, Nat.reduceLeDiff, Int.reduceEq, Int.reduceLT, Int.reduceLE, Int.reduceAdd, Int.reduceSub, Int.reduceMul, Int.reduceNeg, Int.reduceToNat, Nat.reduceMul]
    obtain ⟨v', H2, he, hown2, hget2, hnx2, hlow2⟩ := (hown.push ⟨[.int .i64 (n - chanceI s % (n * j / 100 + 1))], 1, false⟩).append (bytes := 8) (k := 1) (new := [.int .i64 (n - chanceI s % (n * j / 100 + 1))]) (by rw [AH.next_push]; omega) (by omega) rfl (by omega)
    rw [he]
    have hbox2 : H2.get H.next = some (box5 a b c j e) := by rw [hget2 _ (by omega), AH.get_push_lt _ _ (by omega)]; exact hbox
    have w5 := w64 (x := d * c) (by omega) (by omega)
    have w6 := w64 (x := (i : Int) + 1) (by omega) (by omega)
    simp only [f1, f2, f5, f6, f11, f12, hbox2, box5, w5, w6, go_sem, Nat.reduceEqDiff, Nat.reduceAdd, Nat.reduceLeDiff, Int.reduceEq, Int.reduceLT, Int.reduceLE, Int.reduceAdd, Int.reduceSub, Int.reduceMul, Int.reduceNeg, Int.reduceToNat, Nat.reduceMul]
    rw [AH.next_push] at hnx2
    have hlow3 := hlow2 H.next (by omega) hlow
    obtain ⟨k, hk⟩ : ∃ k, (e - 1).toNat - i = k + 1 := ⟨(e - 1).toNat - i - 1, by omega⟩
    rw [hk] at hL
    simp only [delR, ← hn] at hL
    refine ⟨(e - 1).toNat - (i + 1), by omega, i + 1, if 3600000 < d * c then 3600000 else d * c, chanceI s, l ++ [n - chanceI s % (n * j / 100 + 1)], v', by omega, rfl, by simp only [go_sem, Nat.reduceEqDiff, Nat.reduceAdd, Nat.reduceLeDiff, Int.reduceEq, Int.reduceLT, Int.reduceLE, Int.reduceAdd, Int.reduceSub, Int.reduceMul, Int.reduceNeg, Int.reduceToNat, Nat.reduceMul], by simp only [f2, go_sem, Nat.reduceEqDiff, Nat.reduceAdd, Nat.reduceLeDiff, Int.reduceEq, Int.reduceLT, Int.reduceLE, Int.reduceAdd, Int.reduceSub, Int.reduceMul, Int.reduceNeg, Int.reduceToNat, Nat.reduceMul], by simp only [go_sem, Nat.reduceEqDiff, Nat.reduceAdd, Nat.reduceLeDiff, Int.reduceEq, Int.reduceLT, Int.reduceLE, Int.reduceAdd, Int.reduceSub, Int.reduceMul, Int.reduceNeg, Int.reduceToNat, Nat.reduceMul], by simp only [go_sem, Nat.reduceEqDiff, Nat.reduceAdd, Nat.reduceLeDiff, Int.reduceEq, Int.reduceLT, Int.reduceLE, Int.reduceAdd, Int.reduceSub, Int.reduceMul, Int.reduceNeg, Int.reduceToNat, Nat.reduceMul], by simp only [f11, go_sem, Nat.reduceEqDiff, Nat.reduceAdd, Nat.reduceLeDiff, Int.reduceEq, Int.reduceLT, Int.reduceLE, Int.reduceAdd, Int.reduceSub, Int.reduceMul, Int.reduceNeg, Int.reduceToNat, Nat.reduceMul], by simp only [go_sem, Nat.reduceEqDiff, Nat.reduceAdd, Nat.reduceLeDiff, Int.reduceEq, Int.reduceLT, Int.reduceLE, Int.reduceAdd, Int.reduceSub, Int.reduceMul, Int.reduceNeg, Int.reduceToNat, Nat.reduceMul] <;> rfl, by simpa [I64] using hown2, by simp [hlen], ?_, hbox2, by omega, hlow3, ?_, hcr⟩
    · rw [← hL, List.append_assoc, show (e - 1).toNat - (i + 1) = k by omega]
      rfl
    · split <;> omega
  · have hi : i = (e - 1).toNat := by omega
    subst hi
    rw [Nat.sub_self] at hL
    simp only [delR, List.append_nil] at hL
    subst hL
    simp only [f1, f2, f5, f6, f11, f12, go_sem, Nat.reduceEqDiff, Nat.reduceAdd, Nat.reduceLeDiff, Int.reduceEq, Int.reduceLT, Int.reduceLE, Int.reduceAdd, Int.reduceSub, Int.reduceMul, Int.reduceNeg, Int.reduceToNat, Nat.reduceMul]
    rw [back_own hown (by omega) hlow (p1_ints _), delR_len]
    exact hQ
end Go.Proofs.Ytidpkoaomfbljaa.AM
