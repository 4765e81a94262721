/- Part 7 of the texts that the claims of this seat need. No conditions. -/
import Derived.Test.YtildhljhbbhmmaaCs6
namespace Go.Proofs.Ytildhljhbbhmmaa.AM
open Go
set_option linter.all false
set_option maxRecDepth 10000
variable {tbl : Tbl} [hT : TMono tbl]

theorem slcAt_in {H : AH} {k n c lo hi : Nat} {l : List UInt8} (hk : H.get k = some (u8r l)) (h0 : 0 < lo) (h1 : lo < c) (h2 : hi ≤ c) : slcAt H 1 (.slice (some ⟨k, 0, none⟩) n c) lo hi = some (.slice (some ⟨k, lo, none⟩) (hi - lo) (c - lo)) := by
  simp only [slcAt, hk, u8r_es, if_true]
  rw [if_pos h2, if_neg (by omega), if_pos h1]
  simp [addA]
theorem slcAt_end {H : AH} {k n c : Nat} {l : List UInt8} (hk : H.get k = some (u8r l)) (h0 : 0 < c) (hd : H.get 0 = none) : slcAt H 1 (.slice (some ⟨k, 0, none⟩) n c) c c = some (.slice (some ⟨0, 0, none⟩) 0 0) := by
  simp only [slcAt, hk, u8r_es, if_true]
  rw [if_pos (Nat.le_refl _), if_neg (by omega), if_neg (by omega), if_pos hd]
theorem ldc_in {H : AH} {k lo hi : Nat} {l : List UInt8} (hk : H.get k = some (u8r l)) (h1 : lo ≤ hi) (h2 : hi ≤ l.length) : ldc H ⟨k, lo, none⟩ (hi - lo) = some (bc ((l.take hi).drop lo)) := by
  rw [ldc_eq, hk, ldcB_some, u8r_len, if_pos (by show lo + (hi - lo) ≤ l.length; omega)]
  simp only [u8r, bc, ← List.map_drop, ← List.map_take, List.drop_take]
theorem Sb_in {H : AH} {k lo hi c : Nat} {l : List UInt8} (hk : H.get k = some (u8r l)) (h1 : lo ≤ hi) (h2 : hi ≤ l.length) : Sb H (.slice (some ⟨k, lo, none⟩) (hi - lo) c) ((l.take hi).drop lo) := by
  have hl : ((l.take hi).drop lo).length = hi - lo := by rw [List.length_drop, List.length_take]; omega
  exact ⟨_, c, by rw [hl], .inl (by rw [hl]; exact ldc_in hk h1 h2)⟩
/-- How the two of them open a text. -/
theorem open_tail (R : RefT tbl) (F : FileT tbl) (a b c : List UInt8) (hk : keysW a b c = 0) (w : List UInt8) (hw : w.length ≤ 1000000) : ∃ (o : List UInt8) (e : Int), (∀ X, Val tbl 48 [.agg #[.string (tx a), .string (tx b), .string (tx c)], .string (tx w)] X (.tuple #[.string (tx o), .int .i64 e]) X) ∧ (∀ X, Val tbl 43 [.agg #[.string (tx a), .string (tx b), .string (tx c)], .string (tx w)] X (.tuple #[.string (tx (refT a w)), .bool (refB a w)]) X) ∧ (∀ X, Val tbl 27 [.string (tx o), .int .i64 e, .string (tx (refT a w)), .bool (refB a w)] X (.bool true) X) := by
  have h48 := fun X => v48 F.op a b c w X
  have h43 := fun X => v43 R F.rf F.h26 F.h43 a b c w (keys32 hk) hw X
  simp only [keysV, openR, hk, ne_eq, not_true, if_false] at h48 h43
  cases ho : openF a w with
  | none =>
    refine ⟨[], 19, fun X => ?_, h43, fun X => ?_⟩
    · have := h48 X; rw [ho] at this; exact this
    · have := v27 (tbl := tbl) F.h27 [] (refT a w) 19 (refB a w) X
      rw [open_none.1 ho] at this ⊢
      simpa using this
  | some v =>
    obtain ⟨g1, g2⟩ := open_iff.1 ho
    refine ⟨v, 0, fun X => ?_, h43, fun X => ?_⟩
    · have := h48 X; rw [ho] at this; exact this
    · have := v27 (tbl := tbl) F.h27 v (refT a w) 0 (refB a w) X
      rw [g1, g2] at this ⊢
      simpa using this
theorem kind4 (x : Int) : ∃ K : Int, (IntKind.wrap .u64 x).tmod 4 = K ∧ (K = 0 ∨ K = 1 ∨ K = 2 ∨ K = 3) := by
  refine ⟨_, rfl, ?_⟩
  have h := IntKind.wrap_u64 x
  rw [h, Int.tmod_eq_emod_of_nonneg (by omega)]
  omega
set_option maxHeartbeats 1000000 in
theorem v11 (T : SealT tbl) (R : RefT tbl) (F : FileT tbl) (h47 : tbl 47 = some (.code m47)) (h80 : tbl 80 = some (.nat natGrow)) (h11 : tbl 11 = some (.code m11)) (a b c n t : List UInt8) (kd pl : Int) (hpl : -9223372036854775808 ≤ pl ∧ pl ≤ 9223372036854775807) (y : Int) (hy : 0 ≤ y ∧ y ≤ 255) (H : AH) (hH : H.get 0 = none) (hH0 : 0 < H.next) :
    Val tbl 11 [keysV a b c, .string (tx n), .string (tx t), .int .i64 kd, .int .i64 pl, .int .u8 y] H (.bool true) H := by
  refine Val.of_all fun Q hQ => ?_
  rw [rn_fun h11, k11]
  have a17 := v17 T
  have a22 := v22 (tbl := tbl) R.h22 t
  have a44 := fun X => v44 F.sl a b c n t X
  rcases sealR_cases a b c n t with ⟨hk, hn, htl, hr⟩ | ⟨e, he, hr⟩
  case inr =>
    rw [hr] at a44
    simp only [keysV] at a44
    simp only [keysV, ↓(a44 _).run, ↓(a17 _).run, he, go_sem, Nat.reduceEqDiff, Nat.reduceAdd, Nat.reduceLeDiff, Int.reduceEq, Int.reduceLT, Int.reduceLE, Int.reduceAdd, Int.reduceSub, Int.reduceMul, Int.reduceNeg, Int.reduceToNat, Nat.reduceMul]
    exact hQ
  rw [hr] at a44
  by_cases ht : t.length ≤ 10000
  case neg =>
    simp only [keysV] at a44
    simp only [keysV, ↓(a44 _).run, ↓(a17 _).run, ↓(a22 _).run, ht, go_sem, Nat.reduceEqDiff, Nat.reduceAdd, Nat.reduceLeDiff, Int.reduceEq, Int.reduceLT, Int.reduceLE, Int.reduceAdd, Int.reduceSub, Int.reduceMul, Int.reduceNeg, Int.reduceToNat, Nat.reduceMul]
    exact hQ
  by_cases hy0 : y = 0
  case pos =>
    simp only [keysV] at a44
    simp only [keysV, ↓(a44 _).run, ↓(a17 _).run, ↓(a22 _).run, ht, hy0, go_sem, Nat.reduceEqDiff, Nat.reduceAdd, Nat.reduceLeDiff, Int.reduceEq, Int.reduceLT, Int.reduceLE, Int.reduceAdd, Int.reduceSub, Int.reduceMul, Int.reduceNeg, Int.reduceToNat, Nat.reduceMul]
    exact hQ
  obtain ⟨s, hs⟩ : ∃ s, s = fileL a n t := ⟨_, rfl⟩
  have hsl : s.length = ndL t.length := by rw [hs, fileL_length hn]; unfold ndL; omega
  have hsb : s.length ≤ 20000 ∧ 36 ≤ s.length := by rw [hsl]; unfold ndL nW; omega
  rw [← hs] at a44
  clear hs hsl
  obtain ⟨L, hL⟩ : ∃ L, L = s.length := ⟨_, rfl⟩
  obtain ⟨q, hq, hw, hqm⟩ := place_eq (a := pl) (L := L) (by omega) (by omega) hpl
  have hL0 : ¬ (L : Int) = 0 := by omega
  have hlim : L ≤ 140737488355328 := by omega
  obtain ⟨u, rfl⟩ : ∃ u : UInt8, y = (u.toNat : Int) := ⟨UInt8.ofNat y.toNat, by
    have : (UInt8.ofNat y.toNat).toNat = y.toNat := by rw [UInt8.toNat_ofNat']; omega
    omega⟩
  obtain ⟨X, hX⟩ : ∃ X, X = H.enter.push ⟨[.string (tx a), .string (tx b), .string (tx c)], 1, false⟩ := ⟨_, rfl⟩
  have hXg : X.get H.next = some ⟨[.string (tx a), .string (tx b), .string (tx c)], 1, false⟩ := by rw [hX]; exact AH.get_push_eq H.enter _
  have hXn : X.next = H.next + 1 := by rw [hX, AH.next_push, nx_enter]
  have hXl : X.low = H.next := by rw [hX, lw_push, lw_enter]
  have hX0 : X.get 0 = none := by rw [hX, AH.get_push_lt H.enter _ hH0]; exact hH
  have hu : (⟨bc s, 1, false⟩ : Blk) = u8r s := rfl
  have hg : (X.push (u8r s)).get X.next = some (u8r s) := AH.get_push_eq X _
  have hgs : ∀ Y : Option Blk, ((X.push (u8r s)).set X.next Y).get X.next = Y := fun Y => AH.get_set_eq _ _ (by rw [AH.next_push]; omega)
  have hgb : (X.push (u8r s)).get H.next = some ⟨[.string (tx a), .string (tx b), .string (tx c)], 1, false⟩ := by rw [AH.get_push_lt X _ (by omega)]; exact hXg
  have hgsb : ∀ Y : Option Blk, ((X.push (u8r s)).set X.next Y).get H.next = some ⟨[.string (tx a), .string (tx b), .string (tx c)], 1, false⟩ := fun Y => by rw [AH.get_set_ne _ _ (by omega)]; exact hgb
  have hltX : X.next < X.next + 1 := by omega
  obtain ⟨K, hK, hKc⟩ := kind4 kd
  have q0 : (0 : Int) ≤ q := by omega
  have hps : (q : Int) < (L : Int) := by omega
  have hq1 : q + 1 ≤ L := by omega
  have hqL : q ≤ L := by omega
  have htl2 := fun w hw => open_tail (tbl := tbl) R F a b c hk w hw
  rcases hKc with rfl | rfl | rfl | rfl
  · -- one byte
    obtain ⟨d', hd'⟩ : ∃ d', d' = s.set q (gb s q ^^^ u) := ⟨_, rfl⟩
    have hdl' : d'.length = L := by rw [hd', List.length_set, hL]
    have hat := u8r_at (l := s) (i := q) (by omega)
    have hx8 := xor8 (gb s q) u
    have hsb' := slcBytes_row (n := L) (c := L) (hgs (some (u8r d'))) hdl'.symm
    obtain ⟨o, e, t1, t2, t3⟩ := htl2 d' (by omega)
    simp only [keysV] at a44
    simp only [keysV, ↓(a44 _).run, ↓(a17 _).run, ↓(a22 _).run, ht, hy0, tx_size, ← hL, hL0, hlim, byteCells_eq, tx_data, hu, ← hX, hXg, hw, hqm, hK,
      q0, hps, hq1, hltX, hg, hat, hx8, u8r_len, u8r_ro, u8r_es, u8r_set, ← hd', hgs, hgsb, hgb, hsb', idxSP_slc, stc_eq, stB_some, splice_one, addA, Nat.zero_add, Int.toNat_natCast, ↓(t1 _).run, ↓(t2 _).run, ↓(t3 _).run, go_sem, Nat.reduceEqDiff, Nat.reduceAdd, Nat.reduceLeDiff, Int.reduceEq, Int.reduceLT, Int.reduceLE, Int.reduceAdd, Int.reduceSub, Int.reduceMul, Int.reduceNeg, Int.reduceToNat, Nat.reduceMul]
    rw [back_p3 (by rw [lw_set, lw_push]; omega) rfl]
    exact hQ
  · -- cut
    have hsl2 := slcAt_pre (n := L) (c := L) (h := q) hg (by omega)
    have hsb' := slcBytes_take (n := q) (c := L) hg (by omega)
    obtain ⟨o, e, t1, t2, t3⟩ := htl2 (s.take q) (by rw [List.length_take]; omega)
    simp only [keysV] at a44
    simp only [keysV, ↓(a44 _).run, ↓(a17 _).run, ↓(a22 _).run, ht, hy0, tx_size, ← hL, hL0, hlim, byteCells_eq, tx_data, hu, ← hX, hXg, hw, hqm, hK,
      q0, hqL, hsl2, hgb, hsb', Int.toNat_natCast, ↓(t1 _).run, ↓(t2 _).run, ↓(t3 _).run, go_sem, Nat.reduceEqDiff, Nat.reduceAdd, Nat.reduceLeDiff, Int.reduceEq, Int.reduceLT, Int.reduceLE, Int.reduceAdd, Int.reduceSub, Int.reduceMul, Int.reduceNeg, Int.reduceToNat, Nat.reduceMul]
    rw [back_p3 (by rw [lw_push]; omega) rfl]
    exact hQ
  · -- two blocks
    obtain ⟨k, hkk⟩ : ∃ k, k = (L - 20) / 1040 := ⟨_, rfl⟩
    have w1 := w64 (x := (L : Int) - 20) (by omega) (by omega)
    have d1 : ((L : Int) - 20).tdiv 1040 = (k : Int) := by
      rw [show (L : Int) - 20 = ((L - 20 : Nat) : Int) by omega, hkk]; exact tdivN (k := 1040)
    have w3 := w64 (x := (k : Int)) (by omega) (by omega)
    simp only [keysV] at a44
    by_cases hk2 : (k : Int) < 2
    · simp only [keysV, ↓(a44 _).run, ↓(a17 _).run, ↓(a22 _).run, ht, hy0, tx_size, ← hL, hL0, hlim, byteCells_eq, tx_data, hu, ← hX, hXg, hw, hqm, hK, w1, d1, w3, hk2, go_sem, Nat.reduceEqDiff, Nat.reduceAdd, Nat.reduceLeDiff, Int.reduceEq, Int.reduceLT, Int.reduceLE, Int.reduceAdd, Int.reduceSub, Int.reduceMul, Int.reduceNeg, Int.reduceToNat, Nat.reduceMul]
      rw [back_p3 (by rw [lw_push]; omega) rfl]
      exact hQ
    · have w4 := w64 (x := (k : Int) - 1) (by omega) (by omega)
      have hk0 : ¬ (k : Int) - 1 = 0 := by omega
      obtain ⟨r, hr2⟩ : ∃ r, r = q % (k - 1) := ⟨_, rfl⟩
      have m1 : ((q : Int)).tmod ((k : Int) - 1) = r := by
        rw [Int.tmod_eq_emod_of_nonneg (by omega), hr2, Int.natCast_emod, show ((k - 1 : Nat) : Int) = (k : Int) - 1 by omega]
      have hrk : r < k - 1 := by rw [hr2]; exact Nat.mod_lt q (by omega)
      have w5 := w64 (x := (r : Int) * 1040) (by omega) (by omega)
      obtain ⟨i, hi⟩ : ∃ i, i = 20 + r * 1040 := ⟨_, rfl⟩
      obtain ⟨j, hj⟩ : ∃ j, j = i + 1040 := ⟨_, rfl⟩
      obtain ⟨g, hgg⟩ : ∃ g, g = j + 1040 := ⟨_, rfl⟩
      have e1 : 20 + (r : Int) * 1040 = (i : Int) := by omega
      have w6 := w64 (x := (i : Int)) (by omega) (by omega)
      have w7 := w64 (x := (i : Int) + 1024) (by omega) (by omega)
      have e2 : (i : Int) + 1024 + 16 = (j : Int) := by omega
      have w8 := w64 (x := (j : Int)) (by omega) (by omega)
      have w9 := w64 (x := (j : Int) + 1024) (by omega) (by omega)
      have e3 : (j : Int) + 1024 + 16 = (g : Int) := by omega
      have w10 := w64 (x := (g : Int)) (by omega) (by omega)
      have i0 : (0 : Int) ≤ i := by omega
      have j0 : (0 : Int) ≤ j := by omega
      have g0 : (0 : Int) ≤ g := by omega
      have iL : i ≤ L := by omega
      have jL : j ≤ L := by omega
      have gL : g ≤ L := by omega
      have ij : i ≤ j := by omega
      have jg : j ≤ g := by omega
      have LL : L ≤ L := Nat.le_refl _
      have s1 := slcAt_pre (n := L) (c := L) (h := i) hg (by omega)
      have s2 := slcAt_in (n := L) (c := L) (lo := j) (hi := g) hg (by omega) (by omega) (by omega)
      have s3 := slcAt_in (n := L) (c := L) (lo := i) (hi := j) hg (by omega) (by omega) (by omega)
      obtain ⟨a4, n4, c4, s4, hv4⟩ : ∃ a4 n4 c4, slcAt (X.push (u8r s)) 1 (.slice (some ⟨X.next, 0, none⟩) L L) g L = some (.slice (some a4) n4 c4) ∧ ∀ Z : AH, Z.get X.next = some (u8r s) → Sb Z (.slice (some a4) n4 c4) ((s.take L).drop g) := by
        by_cases hgL : g < L
        · exact ⟨_, _, _, slcAt_in hg (by omega) hgL (by omega), fun Z hZ => Sb_in hZ (by omega) (by omega)⟩
        · have hge : g = L := by omega
          have hd0 : (X.push (u8r s)).get 0 = none := by rw [AH.get_push_lt X _ (by omega)]; exact hX0
          refine ⟨⟨0, 0, none⟩, 0, 0, ?_, fun Z hZ => ?_⟩
          · rw [hge]; exact slcAt_end hg (by omega) hd0
          · have : (s.take L).drop g = [] := by rw [hge, hL, List.take_length, List.drop_length]
            rw [this]
            exact ⟨_, 0, rfl, .inr rfl⟩
      obtain ⟨Y, hY⟩ : ∃ Y, Y = (X.push (u8r s)).push ⟨[.slice (some ⟨X.next, 0, none⟩) i L, .slice (some ⟨X.next, j, none⟩) (g - j) (L - j), .slice (some ⟨X.next, i, none⟩) (j - i) (L - i), .slice (some a4) n4 c4], 1, false⟩ := ⟨_, rfl⟩
      have hYg : Y.get X.next = some (u8r s) := by rw [hY, AH.get_push_lt _ _ (by rw [AH.next_push]; omega)]; exact hg
      have hYb : Y.get H.next = some ⟨[.string (tx a), .string (tx b), .string (tx c)], 1, false⟩ := by rw [hY, AH.get_push_lt _ _ (by rw [AH.next_push]; omega)]; exact hgb
      have hYr : Y.get (X.next + 1) = some ⟨[.slice (some ⟨X.next, 0, none⟩) i L, .slice (some ⟨X.next, j, none⟩) (g - j) (L - j), .slice (some ⟨X.next, i, none⟩) (j - i) (L - i), .slice (some a4) n4 c4], 1, false⟩ := by
        have := AH.get_push_eq (X.push (u8r s)) ⟨[.slice (some ⟨X.next, 0, none⟩) i L, .slice (some ⟨X.next, j, none⟩) (g - j) (L - j), .slice (some ⟨X.next, i, none⟩) (j - i) (L - i), .slice (some a4) n4 c4], 1, false⟩
        rw [AH.next_push, ← hY] at this
        exact this
      have hYn : Y.next = X.next + 1 + 1 := by rw [hY, AH.next_push, AH.next_push]
      have hYl : Y.low = H.next := by rw [hY, lw_push, lw_push, hXl]
      obtain ⟨ls, hls⟩ : ∃ ls, ls = [(s.take i).drop 0, (s.take g).drop j, (s.take j).drop i, (s.take L).drop g] := ⟨_, rfl⟩
      have hlsl : ls.length = 4 := by rw [hls]; rfl
      have hWl : ls.flatten.length = L := by
        rw [hls]
        simp only [List.flatten_cons, List.flatten_nil, List.append_nil, List.length_append, List.length_drop, List.length_take]
        omega
      have h47v := v47 h47 h80 (H := Y) (v := .slice (some ⟨X.next + 1, 0, none⟩) 4 4) (vs := [.slice (some ⟨X.next, 0, none⟩) i L, .slice (some ⟨X.next, j, none⟩) (g - j) (L - j), .slice (some ⟨X.next, i, none⟩) (j - i) (L - i), .slice (some a4) n4 c4]) (ls := ls)
        (by rw [hlsl]; refine .inr ⟨_, _, rfl, ?_⟩; rw [ldc_eq, hYr]; rfl)
        (fun m hm => by
          rw [hlsl] at hm
          subst hls
          match m, hm with
          | 0, _ => exact ⟨_, rfl, Sb_in (lo := 0) (hi := i) (c := L) hYg (by omega) (by omega)⟩
          | 1, _ => exact ⟨_, rfl, Sb_in (c := L - j) hYg (by omega) (by omega)⟩
          | 2, _ => exact ⟨_, rfl, Sb_in (c := L - i) hYg (by omega) (by omega)⟩
          | 3, _ => exact ⟨_, rfl, hv4 Y hYg⟩)
        (by omega) (by omega) (by omega)
      obtain ⟨W, hW⟩ : ∃ W, W = ls.flatten := ⟨_, rfl⟩
      rw [← hW] at h47v hWl
      have em : mkS Y W.length = .slice (some ⟨Y.next, 0, none⟩) L L := by unfold mkS; rw [if_neg (by omega), hWl]
      have eh : mkH Y 1 W.length (bc W) = Y.push (u8r W) := by unfold mkH; rw [if_neg (by omega)]; rfl
      rw [em, eh] at h47v
      have hsb' := slcBytes_row (n := L) (c := L) (AH.get_push_eq Y (u8r W)) hWl.symm
      have hZb : (Y.push (u8r W)).get H.next = some ⟨[.string (tx a), .string (tx b), .string (tx c)], 1, false⟩ := by rw [AH.get_push_lt _ _ (by omega)]; exact hYb
      obtain ⟨o, e, t1, t2, t3⟩ := htl2 W (by omega)
      simp only [keysV, ↓(a44 _).run, ↓(a17 _).run, ↓(a22 _).run, ht, hy0, tx_size, ← hL, hL0, hlim, byteCells_eq, tx_data, hu, ← hX, hXg, hw, hqm, hK, w1, d1, w3, hk2,
        w4, hk0, m1, w5, e1, w6, w7, e2, w8, w9, e3, w10, i0, j0, g0, iL, jL, gL, ij, jg, LL, s1, s2, s3, s4, Int.toNat_natCast, ← hY, ↓h47v.run, hZb, hsb', ↓(t1 _).run, ↓(t2 _).run, ↓(t3 _).run, go_sem, Nat.reduceEqDiff, Nat.reduceAdd, Nat.reduceLeDiff, Int.reduceEq, Int.reduceLT, Int.reduceLE, Int.reduceAdd, Int.reduceSub, Int.reduceMul, Int.reduceNeg, Int.reduceToNat, Nat.reduceMul]
      rw [back_p3 (by rw [lw_push]; omega) rfl]
      exact hQ
  · -- blocks at the end
    obtain ⟨k, hkk⟩ : ∃ k, k = (L - 21) / 1040 := ⟨_, rfl⟩
    have w1 := w64 (x := (L : Int) - 20) (by omega) (by omega)
    have w2 := w64 (x := (L : Int) - 20 - 1) (by omega) (by omega)
    have d1 : ((L : Int) - 20 - 1).tdiv 1040 = (k : Int) := by
      rw [show (L : Int) - 20 - 1 = ((L - 21 : Nat) : Int) by omega, hkk]; exact tdivN (k := 1040)
    have w3 := w64 (x := (k : Int)) (by omega) (by omega)
    have w4 := w64 (x := (k : Int) + 1) (by omega) (by omega)
    have hk0 : ¬ (k : Int) + 1 = 0 := by omega
    obtain ⟨r, hr2⟩ : ∃ r, r = q % (k + 1) := ⟨_, rfl⟩
    have m1 : ((q : Int)).tmod ((k : Int) + 1) = r := by
      rw [Int.tmod_eq_emod_of_nonneg (by omega), hr2, Int.natCast_emod]; rfl
    have hrk : r ≤ k := by
      have := Nat.mod_lt q (show k + 1 > 0 by omega)
      omega
    have w5 := w64 (x := (r : Int) * 1040) (by omega) (by omega)
    obtain ⟨p, hp⟩ : ∃ p, p = 20 + r * 1040 := ⟨_, rfl⟩
    have w6 := w64 (x := 20 + (r : Int) * 1040) (by omega) (by omega)
    have hpi : 20 + (r : Int) * 1040 = (p : Int) := by omega
    have hpL : p ≤ L := by omega
    have p0 : (0 : Int) ≤ p := by omega
    rw [hpi] at w6
    have hsl2 := slcAt_pre (n := L) (c := L) (h := p) hg (by omega)
    have hsb' := slcBytes_take (n := p) (c := L) hg (by omega)
    obtain ⟨o, e, t1, t2, t3⟩ := htl2 (s.take p) (by rw [List.length_take]; omega)
    simp only [keysV] at a44
    simp only [keysV, ↓(a44 _).run, ↓(a17 _).run, ↓(a22 _).run, ht, hy0, tx_size, ← hL, hL0, hlim, byteCells_eq, tx_data, hu, ← hX, hXg, hw, hqm, hK,
      w1, w2, d1, w3, w4, hk0, m1, w5, hpi, w6, p0, hpL, hsl2, hgb, hsb', Int.toNat_natCast, ↓(t1 _).run, ↓(t2 _).run, ↓(t3 _).run, go_sem, Nat.reduceEqDiff, Nat.reduceAdd, Nat.reduceLeDiff, Int.reduceEq, Int.reduceLT, Int.reduceLE, Int.reduceAdd, Int.reduceSub, Int.reduceMul, Int.reduceNeg, Int.reduceToNat, Nat.reduceMul]
    rw [back_p3 (by rw [lw_push]; omega) rfl]
    exact hQ
end Go.Proofs.Ytildhljhbbhmmaa.AM
