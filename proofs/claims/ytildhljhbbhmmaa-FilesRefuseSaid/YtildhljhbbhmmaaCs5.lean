/- Part 5 of the texts that the claims of this seat need. No conditions. -/
import Derived.Test.YtildhljhbbhmmaaProg
import Derived.KernelRfl
import Derived.Test.YtildhljhbbhmmaaCs4
namespace Go.Proofs.Ytildhljhbbhmmaa.AM
open Go
set_option linter.all false
set_option maxRecDepth 10000
variable {tbl : Tbl} [hT : TMono tbl]

theorem and15 {x : Int} (h : 0 ≤ x ∧ x < 4611686018427387904) : bitsK .and .i64 x 15 = x % 16 := by
  obtain ⟨n, rfl⟩ : ∃ n : Nat, x = n := ⟨x.toNat, by omega⟩
  simp only [bitsK, BitVec.toNat_and]
  rw [show (BitVec.ofInt IntKind.i64.bits (15 : Int)).toNat = 2 ^ 4 - 1 from rfl, ofInt_nat, show n % 2 ^ IntKind.i64.bits = n from Nat.mod_eq_of_lt (by
    show n < 2 ^ 64
    omega), Nat.and_two_pow_sub_one_eq_mod]
  rw [w64 (by omega) (by omega)]
  rfl
theorem and252 {x : Int} (h : 0 ≤ x ∧ x ≤ 255) : bitsK .and .i64 x 252 = x / 4 * 4 := by
  have key : ∀ n : Fin 256, bitsK .and .i64 (n.val : Int) 252 = (n.val : Int) / 4 * 4 := by decide +kernel
  have := key ⟨x.toNat, by omega⟩
  simp only at this
  rw [show ((x.toNat : Nat) : Int) = x by omega] at this
  exact this
def mA (L : List Int) (i : Nat) : List Int := L.set i (dig L i % 16)
def mB (L : List Int) (i : Nat) : List Int := L.set i (dig L i / 4 * 4)
theorem mA_Dig {L : List Int} (h : Dig L) {i : Nat} : Dig (mA L i) := h.set (by have := h i; omega)
theorem mB_Dig {L : List Int} (h : Dig L) {i : Nat} : Dig (mB L i) := h.set (by have := h i; omega)
theorem mA_len {L : List Int} {i : Nat} : (mA L i).length = L.length := by simp [mA]
theorem mB_len {L : List Int} {i : Nat} : (mB L i).length = L.length := by simp [mB]
/-- The digits to multiply by. -/
def rdig (k : List UInt8) : List Int := mB (mB (mB (mA (mA (mA (mA (dgs (k.take 16)) 3) 7) 11) 15) 4) 8) 12
theorem rdig_Dig {k : List UInt8} : Dig (rdig k) := mB_Dig (mB_Dig (mB_Dig (mA_Dig (mA_Dig (mA_Dig (mA_Dig dgs_Dig))))))
theorem rdig_len {k : List UInt8} (h : 16 ≤ k.length) : (rdig k).length = 16 := by
  simp only [rdig, mB_len, mA_len, dgs_len, List.length_take]
  omega
/-- What the reference has behind q parts. -/
def accV (k m : List UInt8) : Nat → Int
  | 0 => 0
  | q + 1 => ((accV k m q + val (dgs (blk 16 m q ++ [1]))) * val (rdig k)) % 1361129467683753853853498429727072845819
theorem pow_mono {a b : Nat} (h : a ≤ b) : (256 : Int) ^ a ≤ 256 ^ b := by
  have e : b = a + (b - a) := by omega
  have h1 : (1 : Int) ≤ 256 ^ (b - a) := Int.pow_pos (by omega)
  have h3 : (0 : Int) ≤ 256 ^ a := Int.le_of_lt (Int.pow_pos (by omega))
  have h4 := Int.mul_le_mul_of_nonneg_left h1 h3
  rw [Int.mul_one, ← Int.pow_add, ← e] at h4
  exact h4
theorem range_take {l : List Int} {n : Nat} (h : n ≤ l.length) : (List.range n).map (dig l) = l.take n := by
  apply List.ext_getElem
  · simp; omega
  · intro i h1 h2
    simp only [List.length_map, List.length_range] at h1
    simp only [List.getElem_map, List.getElem_range, List.getElem_take]
    exact dig_lt (by omega)
theorem val_mod {l : List Int} (h : Dig l) {n : Nat} : val ((List.range n).map (dig l)) = val l % 256 ^ n := by
  by_cases hn : n ≤ l.length
  · have h1 := val_drop hn
    have h2 := val_bound (h.take n)
    rw [List.length_take, Nat.min_eq_left hn] at h2
    rw [range_take hn, h1, Int.add_mul_emod_self_right, Int.emod_eq_of_lt h2.1 h2.2]
  · have h2 := val_bound h
    have h3 := pow_mono (a := l.length) (b := n) (by omega)
    rw [range_dig (by omega), Int.emod_eq_of_lt h2.1 (by omega)]
theorem part_same {f : Nat → UInt8} {t : List UInt8} {p : Nat} (h : p < t.length) (hf : f p = gb t p) : part f t p = part f t (p + 1) := by
  rw [← part_step h, hf]
  have := part_at (f := f) h
  rw [← this]
  have hl := part_len (f := f) (t := t) (p := p) (by omega)
  simp [gb, hl, h]
theorem gb_zb {n i : Nat} : gb (zb n) i = 0 := by
  simp only [gb, zb, List.getD_eq_getElem?_getD, List.getElem?_replicate]
  split <;> rfl
theorem b8_dig {l : List Int} (h : Dig l) {i : Nat} : ((b8 (dig l i)).toNat : Int) = dig l i := by
  have := h i
  rw [b8_val]; omega
set_option maxHeartbeats 2000000 in
theorem v30 (h30 : tbl 30 = some (.code m30)) (h64 : tbl 64 = some (.code m64)) (h65 : tbl 65 = some (.code m65)) (h66 : tbl 66 = some (.code m66)) (h67 : tbl 67 = some (.code m67)) (h68 : tbl 68 = some (.code m68)) (k m : List UInt8) (hk : k.length = 32) (hm : m.length ≤ 100000000) (H : AH) :
    ∃ R : List UInt8, R.length = 16 ∧ val (dgs R) = (accV k m (blkN 16 m.length) + val (dgs (k.drop 16))) % 340282366920938463463374607431768211456 ∧ Val tbl 30 [.string (tx k), .string (tx m)] H (.string (tx R)) H := by
  have key : ∀ Q : Value → AH → Prop, (∀ R : List UInt8, R.length = 16 → val (dgs R) = (accV k m (blkN 16 m.length) + val (dgs (k.drop 16))) % 340282366920938463463374607431768211456 → Q (.string (tx R)) H) → (@RunF tbl 30 [.string (tx k), .string (tx m)] H ⟨Q⟩) := by
    intro Q hQ
    rw [rn_fun h30, k30]
    have hkt : (k.take 16).length = 16 := by rw [List.length_take]; omega
    have h64a := v64 (tbl := tbl) h64 (k.take 16) (by omega) H.enter
    rw [hkt, mkS_pos (by omega), mkH_pos (by omega), nx_enter] at h64a
    have hrow : (⟨(dgs (k.take 16)).map I64, 1, false⟩ : Blk) = row .i64 (dgs (k.take 16)) := rfl
    rw [hrow] at h64a
    have hsz : (16 : Nat) ≤ (tx k).size := by rw [tx_size]; omega
    have e1 : (tx k).extract 0 16 = tx (k.take 16) := by rw [tx_extract]; rfl
    obtain ⟨L, hL⟩ : ∃ L, L = dgs (k.take 16) := ⟨_, rfl⟩
    have hLl : L.length = 16 := by rw [hL, dgs_len, hkt]
    have hLD : Dig L := by rw [hL]; exact dgs_Dig
    have hR : mB (mB (mB (mA (mA (mA (mA L 3) 7) 11) 15) 4) 8) 12 = rdig k := by rw [hL]; rfl
    rw [← hL] at h64a
    have hD1 : Dig (mA L 3) := mA_Dig hLD
    have hD2 : Dig (mA (mA L 3) 7) := mA_Dig hD1
    have hD3 : Dig (mA (mA (mA L 3) 7) 11) := mA_Dig hD2
    have hD4 : Dig (mA (mA (mA (mA L 3) 7) 11) 15) := mA_Dig hD3
    have hD5 : Dig (mB (mA (mA (mA (mA L 3) 7) 11) 15) 4) := mB_Dig hD4
    have hD6 : Dig (mB (mB (mA (mA (mA (mA L 3) 7) 11) 15) 4) 8) := mB_Dig hD5
    have fA : ∀ {X : List Int} (hX : Dig X) (hXl : X.length = 16) (i : Nat) (hi : i < 16), List.take 1 (List.drop i (row .i64 X).cells) = [.int .i64 (dig X i)] ∧ bitsK .and .i64 (dig X i) 15 = dig X i % 16 ∧ i + 1 ≤ X.length := fun hX hXl i hi => ⟨row_at (by omega), and15 (by have := hX i; omega), by omega⟩
    have fB : ∀ {X : List Int} (hX : Dig X) (hXl : X.length = 16) (i : Nat) (hi : i < 16), List.take 1 (List.drop i (row .i64 X).cells) = [.int .i64 (dig X i)] ∧ bitsK .and .i64 (dig X i) 252 = dig X i / 4 * 4 ∧ i + 1 ≤ X.length := fun hX hXl i hi => ⟨row_at (by omega), and252 (hX i), by omega⟩
    have fa : ∀ (X : List Int) (i : Nat), X.set i (dig X i % 16) = mA X i := fun _ _ => rfl
    have fb : ∀ (X : List Int) (i : Nat), X.set i (dig X i / 4 * 4) = mB X i := fun _ _ => rfl
    obtain ⟨a1, a2, a3⟩ := fA hLD hLl 3 (by omega)
    obtain ⟨b1, b2, b3⟩ := fA hD1 (by rw [mA_len, hLl]) 7 (by omega)
    obtain ⟨c1, c2, c3⟩ := fA hD2 (by rw [mA_len, mA_len, hLl]) 11 (by omega)
    obtain ⟨d1, d2, d3⟩ := fA hD3 (by rw [mA_len, mA_len, mA_len, hLl]) 15 (by omega)
    obtain ⟨g1, g2, g3⟩ := fB hD4 (by rw [mA_len, mA_len, mA_len, mA_len, hLl]) 4 (by omega)
    obtain ⟨i1, i2, i3⟩ := fB hD5 (by rw [mB_len, mA_len, mA_len, mA_len, mA_len, hLl]) 8 (by omega)
    obtain ⟨j1, j2, j3⟩ := fB hD6 (by rw [mB_len, mB_len, mA_len, mA_len, mA_len, mA_len, hLl]) 12 (by omega)
    obtain ⟨B, hB⟩ : ∃ B : Blk, B = ⟨[.int .i64 3, .int .i64 7, .int .i64 11, .int .i64 15], 1, false⟩ := ⟨_, rfl⟩
    have h0 : ∀ X : Option Blk, (((H.enter.push (row .i64 L)).push B).set H.next X).get H.next = X := fun X => AH.get_set_eq _ _ (by rw [AH.next_push, AH.next_push, nx_enter]; omega)
    have h00 : ((H.enter.push (row .i64 L)).push B).get H.next = some (row .i64 L) := by rw [AH.get_push_lt _ _ (by rw [AH.next_push, nx_enter]; omega)]; exact AH.get_push_eq H.enter _
    have h01 : ((H.enter.push (row .i64 L)).push B).get (H.next + 1) = some B := by
      have := AH.get_push_eq (H.enter.push (row .i64 L)) B
      rw [AH.next_push, nx_enter] at this
      exact this
    have h1 : ∀ X : Option Blk, (((H.enter.push (row .i64 L)).push B).set H.next X).get (H.next + 1) = some B := fun X => by rw [AH.get_set_ne _ _ (by omega)]; exact h01
    have hlt1 : H.next + 1 < H.next + 1 + 1 := by omega
    have hlt0 : H.next < H.next + 1 + 1 := by omega
    have hBl : B.cells = [.int .i64 3, .int .i64 7, .int .i64 11, .int .i64 15] := by rw [hB]
    obtain ⟨C, hC⟩ : ∃ C : Blk, C = ⟨[.int .i64 4, .int .i64 8, .int .i64 12], 1, false⟩ := ⟨_, rfl⟩
    have hCl : C.cells = [.int .i64 4, .int .i64 8, .int .i64 12] := by rw [hC]
    have q1 : IntKind.wrap .i64 1 = 1 := rfl
    have q2 : IntKind.wrap .i64 2 = 2 := rfl
    have q3 : IntKind.wrap .i64 3 = 3 := rfl
    have q4 : IntKind.wrap .i64 4 = 4 := rfl
    simp only [hsz, e1, ← hB, ← hC, ↓h64a.run, go_sem, Nat.reduceEqDiff, Nat.reduceAdd, Nat.reduceLeDiff, Int.reduceEq, Int.reduceLT, Int.reduceLE, Int.reduceAdd, Int.reduceSub, Int.reduceMul, Int.reduceNeg, Int.reduceToNat, Nat.reduceMul]
    rw [rn_round]
    simp only [h0, h00, h01, h1, hlt1, hlt0, hBl, hCl, q1, q2, q3, q4, a1, a2, a3, fa, fb, set_set, AH.next_set, row_len, row_ro, row_es, row_set, splice_one, stc_eq, stB_some, idxSP_slc, Nat.zero_add, go_sem, Nat.reduceEqDiff, Nat.reduceAdd, Nat.reduceLeDiff, Int.reduceEq, Int.reduceLT, Int.reduceLE, Int.reduceAdd, Int.reduceSub, Int.reduceMul, Int.reduceNeg, Int.reduceToNat, Nat.reduceMul]
    rw [rn_round]
    simp only [h0, h00, h01, h1, hlt1, hlt0, hBl, hCl, q1, q2, q3, q4, b1, b2, b3, fa, fb, set_set, AH.next_set, row_len, row_ro, row_es, row_set, splice_one, stc_eq, stB_some, idxSP_slc, Nat.zero_add, go_sem, Nat.reduceEqDiff, Nat.reduceAdd, Nat.reduceLeDiff, Int.reduceEq, Int.reduceLT, Int.reduceLE, Int.reduceAdd, Int.reduceSub, Int.reduceMul, Int.reduceNeg, Int.reduceToNat, Nat.reduceMul]
    rw [rn_round]
    simp only [h0, h00, h01, h1, hlt1, hlt0, hBl, hCl, q1, q2, q3, q4, c1, c2, c3, fa, fb, set_set, AH.next_set, row_len, row_ro, row_es, row_set, splice_one, stc_eq, stB_some, idxSP_slc, Nat.zero_add, go_sem, Nat.reduceEqDiff, Nat.reduceAdd, Nat.reduceLeDiff, Int.reduceEq, Int.reduceLT, Int.reduceLE, Int.reduceAdd, Int.reduceSub, Int.reduceMul, Int.reduceNeg, Int.reduceToNat, Nat.reduceMul]
    rw [rn_round]
    simp only [h0, h00, h01, h1, hlt1, hlt0, hBl, hCl, q1, q2, q3, q4, d1, d2, d3, fa, fb, set_set, AH.next_set, row_len, row_ro, row_es, row_set, splice_one, stc_eq, stB_some, idxSP_slc, Nat.zero_add, go_sem, Nat.reduceEqDiff, Nat.reduceAdd, Nat.reduceLeDiff, Int.reduceEq, Int.reduceLT, Int.reduceLE, Int.reduceAdd, Int.reduceSub, Int.reduceMul, Int.reduceNeg, Int.reduceToNat, Nat.reduceMul]
    rw [rn_round]
    simp only [h0, h00, h01, h1, hlt1, hlt0, hBl, hCl, q1, q2, q3, q4, ← hC, fa, fb, set_set, AH.next_set, row_len, row_ro, row_es, row_set, splice_one, stc_eq, stB_some, idxSP_slc, Nat.zero_add, go_sem, Nat.reduceEqDiff, Nat.reduceAdd, Nat.reduceLeDiff, Int.reduceEq, Int.reduceLT, Int.reduceLE, Int.reduceAdd, Int.reduceSub, Int.reduceMul, Int.reduceNeg, Int.reduceToNat, Nat.reduceMul]
    generalize hK : ((H.enter.push (row .i64 L)).push B).set H.next _ = K
    have hKn : K.next = H.next + 2 := by rw [← hK, AH.next_set, AH.next_push, AH.next_push, nx_enter]
    have hKl : H.next ≤ K.low := by rw [← hK, lw_set, lw_push, lw_push, lw_enter]; omega
    have hKg : K.get H.next = some (row .i64 (mA (mA (mA (mA L 3) 7) 11) 15)) := by rw [← hK]; exact h0 _
    clear hK h0 h00 h01 h1
    have k0 : ∀ X : Option Blk, ((K.push C).set H.next X).get H.next = X := fun X => AH.get_set_eq _ _ (by rw [AH.next_push]; omega)
    have k00 : (K.push C).get H.next = some (row .i64 (mA (mA (mA (mA L 3) 7) 11) 15)) := by rw [AH.get_push_lt _ _ (by omega)]; exact hKg
    have k01 : (K.push C).get (H.next + 2) = some C := by rw [← hKn]; exact AH.get_push_eq _ _
    have k1 : ∀ X : Option Blk, ((K.push C).set H.next X).get (H.next + 2) = some C := fun X => by rw [AH.get_set_ne _ _ (by omega)]; exact k01
    have ltC : H.next + 2 < H.next + 2 + 1 := by omega
    have lt0 : H.next < H.next + 2 + 1 := by omega
    rw [rn_round]
    simp only [k0, k00, k01, k1, ltC, lt0, hCl, q1, q2, q3, q4, hKn, g1, g2, g3, fa, fb, set_set, AH.next_set, row_len, row_ro, row_es, row_set, splice_one, stc_eq, stB_some, idxSP_slc, Nat.zero_add, go_sem, Nat.reduceEqDiff, Nat.reduceAdd, Nat.reduceLeDiff, Int.reduceEq, Int.reduceLT, Int.reduceLE, Int.reduceAdd, Int.reduceSub, Int.reduceMul, Int.reduceNeg, Int.reduceToNat, Nat.reduceMul]
    rw [rn_round]
    simp only [k0, k00, k01, k1, ltC, lt0, hCl, q1, q2, q3, q4, hKn, i1, i2, i3, fa, fb, set_set, AH.next_set, row_len, row_ro, row_es, row_set, splice_one, stc_eq, stB_some, idxSP_slc, Nat.zero_add, go_sem, Nat.reduceEqDiff, Nat.reduceAdd, Nat.reduceLeDiff, Int.reduceEq, Int.reduceLT, Int.reduceLE, Int.reduceAdd, Int.reduceSub, Int.reduceMul, Int.reduceNeg, Int.reduceToNat, Nat.reduceMul]
    rw [rn_round]
    simp only [k0, k00, k01, k1, ltC, lt0, hCl, q1, q2, q3, q4, hKn, j1, j2, j3, fa, fb, set_set, AH.next_set, row_len, row_ro, row_es, row_set, splice_one, stc_eq, stB_some, idxSP_slc, Nat.zero_add, go_sem, Nat.reduceEqDiff, Nat.reduceAdd, Nat.reduceLeDiff, Int.reduceEq, Int.reduceLT, Int.reduceLE, Int.reduceAdd, Int.reduceSub, Int.reduceMul, Int.reduceNeg, Int.reduceToNat, Nat.reduceMul]
    have h65a := v65 (tbl := tbl) h65 m 16 (by omega) (by omega) (by omega)
    have c16 : ((16 : Nat) : Int) = 16 := rfl
    rw [c16] at h65a
    rw [rn_round]
    simp only [k0, k00, k01, k1, ltC, lt0, hCl, q1, q2, q3, q4, hKn, hR, ↓(h65a _).run, fa, fb, set_set, AH.next_set, row_len, row_ro, row_es, row_set, splice_one, stc_eq, stB_some, idxSP_slc, Nat.zero_add, go_sem, Nat.reduceEqDiff, Nat.reduceAdd, Nat.reduceLeDiff, Int.reduceEq, Int.reduceLT, Int.reduceLE, Int.reduceAdd, Int.reduceSub, Int.reduceMul, Int.reduceNeg, Int.reduceToNat, Nat.reduceMul]
    generalize hM : (K.push C).set H.next (some (row .i64 (rdig k))) = M
    have hMn : M.next = H.next + 3 := by rw [← hM, AH.next_set, AH.next_push, hKn]
    have hMl : H.next ≤ M.low := by rw [← hM, lw_set, lw_push]; omega
    have hMg : M.get H.next = some (row .i64 (rdig k)) := by rw [← hM]; exact k0 _
    clear hM k0 k00 k01 k1 a1 a2 a3 b1 b2 b3 c1 c2 c3 d1 d2 d3 g1 g2 g3 i1 i2 i3 j1 j2 j3
    obtain ⟨n, hn⟩ : ∃ n, n = blkN 16 m.length := ⟨_, rfl⟩
    rw [← hn] at hQ ⊢
    have hnle : n ≤ 100000000 := by rw [hn]; unfold blkN; omega
    obtain ⟨M2, hM2⟩ : ∃ M2, M2 = mkH M 1 n (strs (blk 16 m) n) := ⟨_, rfl⟩
    have hown := own_mk (H := M) (es := 1) (n := n) (l := strs (blk 16 m) n) (by rw [strs_len, Nat.mul_one])
    rw [← hM2] at hown ⊢
    have hbl := hown.sl
    have hM2n : M.next ≤ M2.next := by rw [hM2]; exact mkH_next
    have hM2l : H.next ≤ M2.low := by rw [hM2, mkH_low]; exact hMl
    have hM2g : M2.get H.next = some (row .i64 (rdig k)) := by rw [hM2, mkH_get (by omega)]; exact hMg
    obtain ⟨pb, cb, eb⟩ := hbl.shape
    rw [eb] at hbl ⊢
    clear hown hM2
    simp only [go_sem, Nat.reduceEqDiff, Nat.reduceAdd, Nat.reduceLeDiff, Int.reduceEq, Int.reduceLT, Int.reduceLE, Int.reduceAdd, Int.reduceSub, Int.reduceMul, Int.reduceNeg, Int.reduceToNat, Nat.reduceMul]
    refine rn_loop (fun m' f H' => ∃ (i : Nat) (a : List Int) (v : Value), i ≤ n ∧ m' = n - i ∧ f 0 = .string (tx k) ∧ f 5 = .slice (some ⟨H.next, 0, none⟩) 16 16 ∧ f 10 = v ∧ f 45 = .slice pb n cb ∧ f 46 = .int .i64 n ∧ f 47 = .int .i64 i ∧ Sl H' 1 v a.length (a.map I64) ∧ Dig a ∧ a.length ≤ 17 ∧ val a = accV k m i ∧ M2.next ≤ H'.next ∧ H.next ≤ H'.low ∧ (∀ id, id < M2.next → H'.get id = M2.get id)) ?_ (n := n)
      ⟨0, [], .slice none 0 0, by omega, by omega, by simp only [go_sem, Nat.reduceEqDiff, Nat.reduceAdd, Nat.reduceLeDiff, Int.reduceEq, Int.reduceLT, Int.reduceLE, Int.reduceAdd, Int.reduceSub, Int.reduceMul, Int.reduceNeg, Int.reduceToNat, Nat.reduceMul], by simp only [go_sem, Nat.reduceEqDiff, Nat.reduceAdd, Nat.reduceLeDiff, Int.reduceEq, Int.reduceLT, Int.reduceLE, Int.reduceAdd, Int.reduceSub, Int.reduceMul, Int.reduceNeg, Int.reduceToNat, Nat.reduceMul], by simp only [go_sem, Nat.reduceEqDiff, Nat.reduceAdd, Nat.reduceLeDiff, Int.reduceEq, Int.reduceLT, Int.reduceLE, Int.reduceAdd, Int.reduceSub, Int.reduceMul, Int.reduceNeg, Int.reduceToNat, Nat.reduceMul], by simp only [go_sem, Nat.reduceEqDiff, Nat.reduceAdd, Nat.reduceLeDiff, Int.reduceEq, Int.reduceLT, Int.reduceLE, Int.reduceAdd, Int.reduceSub, Int.reduceMul, Int.reduceNeg, Int.reduceToNat, Nat.reduceMul], by simp only [go_sem, Nat.reduceEqDiff, Nat.reduceAdd, Nat.reduceLeDiff, Int.reduceEq, Int.reduceLT, Int.reduceLE, Int.reduceAdd, Int.reduceSub, Int.reduceMul, Int.reduceNeg, Int.reduceToNat, Nat.reduceMul], by simp only [go_sem, Nat.reduceEqDiff, Nat.reduceAdd, Nat.reduceLeDiff, Int.reduceEq, Int.reduceLT, Int.reduceLE, Int.reduceAdd, Int.reduceSub, Int.reduceMul, Int.reduceNeg, Int.reduceToNat, Nat.reduceMul] <;> rfl, .inl ⟨none, 0, rfl, rfl, rfl⟩, fun i => by simp [dig], by simp, rfl, by omega, hM2l, fun _ _ => rfl⟩
    rintro m' f H' ⟨i, a, v, hi, rfl, f0, f5, f10, f45, f46, f47, hsl, haD, hal, hav, n1, l1, hold⟩
    by_cases hlt : (i : Int) < n
    · have i0 : (0 : Int) ≤ i := by omega
      have wi := w64 (x := (i : Int) + 1) (by omega) (by omega)
      simp only [f0, f5, f10, f45, f46, f47, hlt, i0, wi, go_sem, Nat.reduceEqDiff, Nat.reduceAdd, Nat.reduceLeDiff, Int.reduceEq, Int.reduceLT, Int.reduceLE, Int.reduceAdd, Int.reduceSub, Int.reduceMul, Int.reduceNeg, Int.reduceToNat, Nat.reduceMul]
      refine hbl.at_ (i := i) (by omega) fun p hpl hp => ?_
      rw [strs_at (by omega)] at hp
      have hpn : p.block < H'.next := by omega
      obtain ⟨D, hD⟩ : ∃ D, D = blk 16 m i ++ [1] := ⟨_, rfl⟩
      have hDl : D.length ≤ 17 ∧ 0 < D.length := by rw [hD]; simp [blk]; omega
      have hone : (⟨#[1]⟩ : ByteArray) = tx [1] := rfl
      have hcat : tx (blk 16 m i) ++ tx [1] = tx D := by rw [tx_cat, hD]
      have hszz : (tx (blk 16 m i)).size + (tx [1]).size ≤ 9223372036854775807 := by
        rw [tx_size, tx_size]
        have : (blk 16 m i).length ≤ 16 := by simp [blk]; omega
        have h1 : [(1 : UInt8)].length = 1 := rfl
        omega
      have h64b := v64 (tbl := tbl) h64 D (by omega) H'
      rw [mkS_pos (by omega), mkH_pos (by omega)] at h64b
      have hDD : Dig (dgs D) := dgs_Dig
      have hrD := rowS (X := H') (l := dgs D) (by rw [dgs_len]; omega)
      have h68b := v68 (tbl := tbl) (H := H'.push ⟨(dgs D).map I64, 1, false⟩) h68 a (dgs D) haD hDD (by omega) (by rw [dgs_len]; omega) (hsl.keep keepP) hrD
      have hN := plusN_le (a := a) (b := dgs D)
      have hNp := plusN_pos (a := a) (b := dgs D) (by rw [dgs_len]; omega)
      rw [dgs_len] at hN hrD h68b
      rw [mkS_pos hNp, mkH_pos hNp, AH.next_push] at h68b
      have hPD : Dig (plusL a (dgs D)) := plusL_Dig
      have hPl := plusL_len (a := a) (b := dgs D)
      have hPv := val_plus haD hDD
      obtain ⟨H2, hH2⟩ : ∃ H2, H2 = (H'.push ⟨(dgs D).map I64, 1, false⟩).push ⟨(plusL a (dgs D)).map I64, 1, false⟩ := ⟨_, rfl⟩
      have hH2n : H2.next = H'.next + 2 := by rw [hH2, AH.next_push, AH.next_push]
      have hH2l : H2.low = H'.low := by rw [hH2, lw_push, lw_push]
      have hH2g : ∀ id, id < H'.next → H2.get id = H'.get id := fun id hid => by rw [hH2, AH.get_push_lt _ _ (by rw [AH.next_push]; omega), AH.get_push_lt _ _ hid]
      have hrP := rowS (X := H'.push ⟨(dgs D).map I64, 1, false⟩) (l := plusL a (dgs D)) (by omega)
      rw [← hH2] at hrP h68b
      rw [hPl, AH.next_push] at hrP
      have hrR : Sl H2 1 (.slice (some ⟨H.next, 0, none⟩) 16 16) (rdig k).length ((rdig k).map I64) := by
        have hl := rdig_len (k := k) (by omega)
        rw [hl]
        refine .inr ⟨_, _, rfl, ?_⟩
        have : H2.get H.next = some ⟨(rdig k).map I64, 1, false⟩ := by rw [hH2g _ (by omega), hold _ (by omega)]; exact hM2g
        exact ldc_all this (by rw [List.length_map, hl])
      obtain ⟨o, ho1, ho2, ho3, h67b⟩ := v67 (tbl := tbl) (H := H2) h67 (plusL a (dgs D)) (rdig k) hPD rdig_Dig (by omega) (by rw [rdig_len (by omega)]; omega) (va := .slice (some ⟨H'.next + 1, 0, none⟩) (plusN a (dgs D)) (plusN a (dgs D))) (by rw [hPl]; exact hrP) hrR
      rw [rdig_len (by omega)] at ho2
      rw [mkS_pos (by omega), mkH_pos (by omega)] at h67b
      obtain ⟨r, hr1, hr2, hr3, h66b⟩ := v66 (tbl := tbl) (H := H2.push ⟨o.map I64, 1, false⟩) h66 h67 h68 o ho1 (by omega) (rowS (by omega))
      have hrow := own_mk (H := H2.push ⟨o.map I64, 1, false⟩) (es := 1) (n := r.length) (l := r.map I64) (by simp)
      have hnx := mkH_next (H := H2.push ⟨o.map I64, 1, false⟩) (es := 1) (n := r.length) (l := r.map I64)
      rw [AH.next_push] at hnx
      simp only [hpn, hold p.block hpl, hp, f0, f5, f10, f45, f46, f47, wi, hone, hcat, hszz, ↓h64b.run, ↓h68b.run, ↓h67b.run, ↓h66b.run, go_sem, Nat.reduceEqDiff, Nat.reduceAdd, Nat.reduceLeDiff, Int.reduceEq, Int.reduceLT, Int.reduceLE, Int.reduceAdd, Int.reduceSub, Int.reduceMul, Int.reduceNeg, Int.reduceToNat, Nat.reduceMul]
      refine ⟨n - (i + 1), by omega, i + 1, r, _, by omega, rfl, by simp only [f0, go_sem, Nat.reduceEqDiff, Nat.reduceAdd, Nat.reduceLeDiff, Int.reduceEq, Int.reduceLT, Int.reduceLE, Int.reduceAdd, Int.reduceSub, Int.reduceMul, Int.reduceNeg, Int.reduceToNat, Nat.reduceMul], by simp only [f5, go_sem, Nat.reduceEqDiff, Nat.reduceAdd, Nat.reduceLeDiff, Int.reduceEq, Int.reduceLT, Int.reduceLE, Int.reduceAdd, Int.reduceSub, Int.reduceMul, Int.reduceNeg, Int.reduceToNat, Nat.reduceMul], rfl, by simp only [f45, go_sem, Nat.reduceEqDiff, Nat.reduceAdd, Nat.reduceLeDiff, Int.reduceEq, Int.reduceLT, Int.reduceLE, Int.reduceAdd, Int.reduceSub, Int.reduceMul, Int.reduceNeg, Int.reduceToNat, Nat.reduceMul], by simp only [f46, go_sem, Nat.reduceEqDiff, Nat.reduceAdd, Nat.reduceLeDiff, Int.reduceEq, Int.reduceLT, Int.reduceLE, Int.reduceAdd, Int.reduceSub, Int.reduceMul, Int.reduceNeg, Int.reduceToNat, Nat.reduceMul], by simp only [go_sem, Nat.reduceEqDiff, Nat.reduceAdd, Nat.reduceLeDiff, Int.reduceEq, Int.reduceLT, Int.reduceLE, Int.reduceAdd, Int.reduceSub, Int.reduceMul, Int.reduceNeg, Int.reduceToNat, Nat.reduceMul] <;> rfl, by simp only [go_sem, Nat.reduceEqDiff, Nat.reduceAdd, Nat.reduceLeDiff, Int.reduceEq, Int.reduceLT, Int.reduceLE, Int.reduceAdd, Int.reduceSub, Int.reduceMul, Int.reduceNeg, Int.reduceToNat, Nat.reduceMul]; exact hrow.sl, hr1, hr2, ?_, by omega, ?_, fun id hid => ?_⟩
      · rw [hr3, ho3, hPv, hav, hD]; rfl
      · rw [mkH_low, lw_push, hH2l]; exact l1
      · rw [mkH_get (by rw [AH.next_push]; omega), AH.get_push_lt _ _ (by omega), hH2g _ (by omega)]; exact hold id hid
    · have hie : i = n := by omega
      subst hie
      have hsz32 : (tx k).size = 32 := by rw [tx_size, hk]
      have hx : (tx k).extract 16 32 = tx (k.drop 16) := by rw [tx_extract, List.take_of_length_le (by omega)]
      have hle16 : 16 ≤ 32 := by omega
      have hkd : (k.drop 16).length = 16 := by rw [List.length_drop]; omega
      have h64c := v64 (tbl := tbl) h64 (k.drop 16) (by omega) H'
      rw [hkd, mkS_pos (by omega), mkH_pos (by omega)] at h64c
      have hSD : Dig (dgs (k.drop 16)) := dgs_Dig
      have hrD := rowS (X := H') (l := dgs (k.drop 16)) (by rw [dgs_len]; omega)
      rw [dgs_len, hkd] at hrD
      have h68c := v68 (tbl := tbl) (H := H'.push ⟨(dgs (k.drop 16)).map I64, 1, false⟩) h68 a (dgs (k.drop 16)) haD hSD (by omega) (by rw [dgs_len]; omega) (hsl.keep keepP) (vb := .slice (some ⟨H'.next, 0, none⟩) 16 16) (by rw [dgs_len, hkd]; exact hrD)
      have hN := plusN_le (a := a) (b := dgs (k.drop 16))
      have hNp := plusN_pos (a := a) (b := dgs (k.drop 16)) (by rw [dgs_len]; omega)
      rw [dgs_len] at hN
      rw [mkS_pos hNp, mkH_pos hNp, AH.next_push] at h68c
      have hPD : Dig (plusL a (dgs (k.drop 16))) := plusL_Dig
      have hPl := plusL_len (a := a) (b := dgs (k.drop 16))
      have hPv := val_plus haD hSD
      obtain ⟨P, hP⟩ : ∃ P, P = plusL a (dgs (k.drop 16)) := ⟨_, rfl⟩
      obtain ⟨N, hNe⟩ : ∃ N, N = plusN a (dgs (k.drop 16)) := ⟨_, rfl⟩
      rw [← hP] at h68c hPD hPl hPv
      rw [← hNe] at h68c hPl hN hNp
      have hz16 : (⟨rep 16 [Value.int .u8 0], 1, false⟩ : Blk) = u8r (zb 16) := rfl
      have z1 : (0 : Int) ≤ 16 := by omega
      have z2 : (16 : Int).toNat = 16 := rfl
      have z3 : 16 ≤ 140737488355328 := by omega
      have z4 : (16 : Int) ≤ 9223372036854775807 := by omega
      have z5 : (16 : Int) ≤ 16 := by omega
      simp only [f0, f5, f10, f45, f46, f47, hlt, hsz32, hx, hle16, hz16, z1, z2, z3, z4, z5, ↓h64c.run, ↓h68c.run, go_sem, Nat.reduceEqDiff, Nat.reduceAdd, Nat.reduceLeDiff, Int.reduceEq, Int.reduceLT, Int.reduceLE, Int.reduceAdd, Int.reduceSub, Int.reduceMul, Int.reduceNeg, Int.reduceToNat, Nat.reduceMul]
      obtain ⟨K2, hK2⟩ : ∃ K2, K2 = (H'.push ⟨(dgs (k.drop 16)).map I64, 1, false⟩).push ⟨P.map I64, 1, false⟩ := ⟨_, rfl⟩
      have hK2n : K2.next = H'.next + 2 := by rw [hK2, AH.next_push, AH.next_push]
      have hK2l : H.next ≤ K2.low := by rw [hK2, lw_push, lw_push]; exact l1
      have hK2g : K2.get (H'.next + 1) = some (row .i64 P) := by
        rw [hK2]
        have := AH.get_push_eq (H'.push ⟨(dgs (k.drop 16)).map I64, 1, false⟩) ⟨P.map I64, 1, false⟩
        rw [AH.next_push] at this
        exact this
      rw [← hK2]
      have hnn : H'.next + 1 + 1 = K2.next := by omega
      rw [hnn]
      refine rn_loop (fun m f H3 => ∃ i : Nat, i ≤ 16 ∧ m = 16 - i ∧ f 10 = .slice (some ⟨H'.next + 1, 0, none⟩) N N ∧ f 13 = .slice (some ⟨K2.next, 0, none⟩) 16 16 ∧ f 67 = .int .i64 16 ∧ f 68 = .int .i64 i ∧ H3.next = K2.next + 1 ∧ H.next ≤ H3.low ∧ H3.get (H'.next + 1) = some (row .i64 P) ∧ H3.get K2.next = some (u8r (part (fun i => b8 (dig P i)) (zb 16) i))) ?_ (n := 16)
        ⟨0, by omega, by omega, by simp only [go_sem, Nat.reduceEqDiff, Nat.reduceAdd, Nat.reduceLeDiff, Int.reduceEq, Int.reduceLT, Int.reduceLE, Int.reduceAdd, Int.reduceSub, Int.reduceMul, Int.reduceNeg, Int.reduceToNat, Nat.reduceMul], by simp only [go_sem, Nat.reduceEqDiff, Nat.reduceAdd, Nat.reduceLeDiff, Int.reduceEq, Int.reduceLT, Int.reduceLE, Int.reduceAdd, Int.reduceSub, Int.reduceMul, Int.reduceNeg, Int.reduceToNat, Nat.reduceMul], by simp only [go_sem, Nat.reduceEqDiff, Nat.reduceAdd, Nat.reduceLeDiff, Int.reduceEq, Int.reduceLT, Int.reduceLE, Int.reduceAdd, Int.reduceSub, Int.reduceMul, Int.reduceNeg, Int.reduceToNat, Nat.reduceMul], by simp only [go_sem, Nat.reduceEqDiff, Nat.reduceAdd, Nat.reduceLeDiff, Int.reduceEq, Int.reduceLT, Int.reduceLE, Int.reduceAdd, Int.reduceSub, Int.reduceMul, Int.reduceNeg, Int.reduceToNat, Nat.reduceMul] <;> rfl, by rw [AH.next_push], by rw [lw_push]; exact hK2l, by rw [AH.get_push_lt _ _ (by omega)]; exact hK2g, AH.get_push_eq _ _⟩
      clear f0 f5 f10 f45 f46 f47
      rintro m' f H3 ⟨i, hi, rfl, f10, f13, f67, f68, n3, l3, gP, gZ⟩
      have hz : (zb 16).length = 16 := rfl
      have hpl : (part (fun i => b8 (dig P i)) (zb 16) i).length = 16 := by rw [part_len (by omega), hz]
      by_cases hl16 : (i : Int) < 16
      · have i0 : (0 : Int) ≤ i := by omega
        have wi := w64 (x := (i : Int) + 1) (by omega) (by omega)
        by_cases hiN : (i : Int) < N
        · have hat := row_at (k := .i64) (x := P) (i := i) (by omega)
          have hgw : gw P i = dig P i := rfl
          have hle : i + 1 ≤ P.length := by omega
          have hle2 : i + 1 ≤ 16 := by omega
          have hl1 : H'.next + 1 < K2.next + 1 := by omega
          have hl2 : K2.next < K2.next + 1 := by omega
          have hst : (part (fun i => b8 (dig P i)) (zb 16) i).set i (b8 (dig P i)) = part (fun i => b8 (dig P i)) (zb 16) (i + 1) := part_step (f := fun i => b8 (dig P i)) (by omega)
          simp only [f10, f13, f67, f68, n3, gP, gZ, hl1, hl2, hl16, hiN, i0, wi, hat, hgw, hle, hle2, hpl, hst, b8_nat, u8r_len, u8r_ro, u8r_es, u8r_set, row_len, row_ro, row_es, Int.toNat_natCast, idxSP_slc, stc_eq, stB_some, splice_one, addA, Nat.zero_add, go_sem, Nat.reduceEqDiff, Nat.reduceAdd, Nat.reduceLeDiff, Int.reduceEq, Int.reduceLT, Int.reduceLE, Int.reduceAdd, Int.reduceSub, Int.reduceMul, Int.reduceNeg, Int.reduceToNat, Nat.reduceMul]
          refine ⟨16 - (i + 1), by omega, i + 1, by omega, rfl, by simp only [f10, go_sem, Nat.reduceEqDiff, Nat.reduceAdd, Nat.reduceLeDiff, Int.reduceEq, Int.reduceLT, Int.reduceLE, Int.reduceAdd, Int.reduceSub, Int.reduceMul, Int.reduceNeg, Int.reduceToNat, Nat.reduceMul], by simp only [f13, go_sem, Nat.reduceEqDiff, Nat.reduceAdd, Nat.reduceLeDiff, Int.reduceEq, Int.reduceLT, Int.reduceLE, Int.reduceAdd, Int.reduceSub, Int.reduceMul, Int.reduceNeg, Int.reduceToNat, Nat.reduceMul], by simp only [f67, go_sem, Nat.reduceEqDiff, Nat.reduceAdd, Nat.reduceLeDiff, Int.reduceEq, Int.reduceLT, Int.reduceLE, Int.reduceAdd, Int.reduceSub, Int.reduceMul, Int.reduceNeg, Int.reduceToNat, Nat.reduceMul], by simp only [go_sem, Nat.reduceEqDiff, Nat.reduceAdd, Nat.reduceLeDiff, Int.reduceEq, Int.reduceLT, Int.reduceLE, Int.reduceAdd, Int.reduceSub, Int.reduceMul, Int.reduceNeg, Int.reduceToNat, Nat.reduceMul] <;> rfl, by rw [AH.next_set]; exact n3, by rw [lw_set]; omega, by rw [AH.get_set_ne _ _ (by omega)]; exact gP, AH.get_set_eq _ _ (by omega)⟩
        · have hs := part_same (f := fun i => b8 (dig P i)) (t := zb 16) (p := i) (by omega) (by
            show b8 (dig P i) = gb (zb 16) i
            rw [gb_zb, dig_ge (by omega)]; rfl)
          rw [hs] at gZ
          simp only [f10, f13, f67, f68, hl16, hiN, i0, wi, go_sem, Nat.reduceEqDiff, Nat.reduceAdd, Nat.reduceLeDiff, Int.reduceEq, Int.reduceLT, Int.reduceLE, Int.reduceAdd, Int.reduceSub, Int.reduceMul, Int.reduceNeg, Int.reduceToNat, Nat.reduceMul]
          refine ⟨16 - (i + 1), by omega, i + 1, by omega, rfl, by simp only [f10, go_sem, Nat.reduceEqDiff, Nat.reduceAdd, Nat.reduceLeDiff, Int.reduceEq, Int.reduceLT, Int.reduceLE, Int.reduceAdd, Int.reduceSub, Int.reduceMul, Int.reduceNeg, Int.reduceToNat, Nat.reduceMul], by simp only [f13, go_sem, Nat.reduceEqDiff, Nat.reduceAdd, Nat.reduceLeDiff, Int.reduceEq, Int.reduceLT, Int.reduceLE, Int.reduceAdd, Int.reduceSub, Int.reduceMul, Int.reduceNeg, Int.reduceToNat, Nat.reduceMul], by simp only [f67, go_sem, Nat.reduceEqDiff, Nat.reduceAdd, Nat.reduceLeDiff, Int.reduceEq, Int.reduceLT, Int.reduceLE, Int.reduceAdd, Int.reduceSub, Int.reduceMul, Int.reduceNeg, Int.reduceToNat, Nat.reduceMul], by simp only [go_sem, Nat.reduceEqDiff, Nat.reduceAdd, Nat.reduceLeDiff, Int.reduceEq, Int.reduceLT, Int.reduceLE, Int.reduceAdd, Int.reduceSub, Int.reduceMul, Int.reduceNeg, Int.reduceToNat, Nat.reduceMul] <;> rfl, n3, l3, gP, gZ⟩
      · have hie : i = 16 := by omega
        subst hie
        have hall : part (fun i => b8 (dig P i)) (zb 16) 16 = (List.range 16).map fun i => b8 (dig P i) := part_all (f := fun i => b8 (dig P i)) (t := zb 16)
        rw [hall] at gZ
        have hsb := slcBytes_row (n := 16) (c := 16) gZ (by simp)
        simp only [f10, f13, f67, f68, hl16, hsb, go_sem, Nat.reduceEqDiff, Nat.reduceAdd, Nat.reduceLeDiff, Int.reduceEq, Int.reduceLT, Int.reduceLE, Int.reduceAdd, Int.reduceSub, Int.reduceMul, Int.reduceNeg, Int.reduceToNat, Nat.reduceMul]
        rw [back_p3 (by omega) rfl]
        refine hQ ((List.range 16).map fun i => b8 (dig P i)) (by rw [List.length_map, List.length_range]) ?_
        have hd : dgs ((List.range 16).map fun i => b8 (dig P i)) = (List.range 16).map (dig P) := by
          simp only [dgs, List.map_map]
          apply List.map_congr_left
          intro i _
          exact b8_dig hPD
        have e16 : (256 : Int) ^ 16 = 340282366920938463463374607431768211456 := by decide
        rw [hd, val_mod hPD, hPv, hav, e16]
  obtain ⟨n, v, H', he, o, h1, h2, rfl, rfl⟩ := key (fun v H' => ∃ R : List UInt8, R.length = 16 ∧ val (dgs R) = (accV k m (blkN 16 m.length) + val (dgs (k.drop 16))) % 340282366920938463463374607431768211456 ∧ v = .string (tx R) ∧ H' = H) fun o h1 h2 => ⟨o, h1, h2, rfl, rfl⟩
  exact ⟨o, h1, h2, n, he⟩
end Go.Proofs.Ytildhljhbbhmmaa.AM
namespace Go.Proofs.Ytildhljhbbhmmaa.AM
open Go
set_option linter.all false
set_option maxRecDepth 10000

/-- The number of five limbs of 26 bits. -/
def lv (h : List Int) : Int := gw h 0 + 67108864 * gw h 1 + 4503599627370496 * gw h 2 + 302231454903657293676544 * gw h 3 + 20282409603651670423947251286016 * gw h 4
theorem lv5 {a b c d e : Int} : lv [a, b, c, d, e] = a + 67108864 * b + 4503599627370496 * c + 302231454903657293676544 * d + 20282409603651670423947251286016 * e := rfl
theorem five_of {l : List Int} (h : l.length = 5) : ∃ a b c d e, l = [a, b, c, d, e] := by
  match l, h with
  | [a, b, c, d, e], _ => exact ⟨a, b, c, d, e, rfl⟩
theorem carS0 {a b c d e : Int} (h : 0 ≤ b + a / 67108864 ∧ b + a / 67108864 < 18446744073709551616) : carS [a, b, c, d, e] 0 = [a % 67108864, b + a / 67108864, c, d, e] := by
  show [a % 67108864, IntKind.wrap .u64 (b + a / 67108864), c, d, e] = _
  rw [u64w h.1 h.2]
theorem carS1 {a b c d e : Int} (h : 0 ≤ c + b / 67108864 ∧ c + b / 67108864 < 18446744073709551616) : carS [a, b, c, d, e] 1 = [a, b % 67108864, c + b / 67108864, d, e] := by
  show [a, b % 67108864, IntKind.wrap .u64 (c + b / 67108864), d, e] = _
  rw [u64w h.1 h.2]
theorem carS2 {a b c d e : Int} (h : 0 ≤ d + c / 67108864 ∧ d + c / 67108864 < 18446744073709551616) : carS [a, b, c, d, e] 2 = [a, b, c % 67108864, d + c / 67108864, e] := by
  show [a, b, c % 67108864, IntKind.wrap .u64 (d + c / 67108864), e] = _
  rw [u64w h.1 h.2]
theorem carS3 {a b c d e : Int} (h : 0 ≤ e + d / 67108864 ∧ e + d / 67108864 < 18446744073709551616) : carS [a, b, c, d, e] 3 = [a, b, c, d % 67108864, e + d / 67108864] := by
  show [a, b, c, d % 67108864, IntKind.wrap .u64 (e + d / 67108864)] = _
  rw [u64w h.1 h.2]
theorem carS4 {a b c d e : Int} (h0 : 0 ≤ e ∧ e < 18446744073709551616) (h : 0 ≤ a ∧ a < 1000000000000000000) : carS [a, b, c, d, e] 4 = [a + 5 * (e / 67108864), b, c, d, e % 67108864] := by
  show [IntKind.wrap .u64 (a + IntKind.wrap .u64 (5 * (e / 67108864))), b, c, d, e % 67108864] = _
  rw [u64w (n := 5 * (e / 67108864)) (by omega) (by omega), u64w (by omega) (by omega)]
/-- What a round of carries does. -/
theorem car5 {a b c d e : Int} (ha : 0 ≤ a ∧ a < 1152921504606846976) (hb : 0 ≤ b ∧ b < 1152921504606846976) (hc : 0 ≤ c ∧ c < 1152921504606846976) (hd : 0 ≤ d ∧ d < 1152921504606846976) (he : 0 ≤ e ∧ e < 1152921504606846976) :
    ∃ a' b' c' d' e' q u v w : Int, carN [a, b, c, d, e] 5 = [a', b', c', d', e'] ∧ lv [a', b', c', d', e'] + 1361129467683753853853498429727072845819 * q = lv [a, b, c, d, e] ∧
      a' = a % 67108864 + 5 * q ∧ b' = (b + a / 67108864) % 67108864 ∧ u = (b + a / 67108864) / 67108864 ∧ c' = (c + u) % 67108864 ∧ v = (c + u) / 67108864 ∧ d' = (d + v) % 67108864 ∧ w = (d + v) / 67108864 ∧ e' = (e + w) % 67108864 ∧ q = (e + w) / 67108864 := by
  refine ⟨a % 67108864 + 5 * ((e + (d + (c + (b + a / 67108864) / 67108864) / 67108864) / 67108864) / 67108864), (b + a / 67108864) % 67108864, (c + (b + a / 67108864) / 67108864) % 67108864, (d + (c + (b + a / 67108864) / 67108864) / 67108864) % 67108864, (e + (d + (c + (b + a / 67108864) / 67108864) / 67108864) / 67108864) % 67108864, (e + (d + (c + (b + a / 67108864) / 67108864) / 67108864) / 67108864) / 67108864, (b + a / 67108864) / 67108864, (c + (b + a / 67108864) / 67108864) / 67108864, (d + (c + (b + a / 67108864) / 67108864) / 67108864) / 67108864, ?_, ?_, rfl, rfl, rfl, rfl, rfl, rfl, rfl, rfl, rfl⟩
  · show carS (carS (carS (carS (carS [a, b, c, d, e] 0) 1) 2) 3) 4 = _
    rw [carS0 (by omega), carS1 (by omega), carS2 (by omega), carS3 (by omega), carS4 (by omega) (by omega)]
  · rw [lv5, lv5]
    generalize ha' : a / 67108864 = x
    generalize hb' : (b + x) / 67108864 = y
    generalize hc' : (c + y) / 67108864 = z
    generalize hd' : (d + z) / 67108864 = t
    generalize he' : (e + t) / 67108864 = q
    omega
/-- Limbs that two rounds of carries leave. -/
def Near (h : List Int) : Prop := ∃ a b c d e : Int, h = [a, b, c, d, e] ∧ 0 ≤ a ∧ a < 67109888 ∧ 0 ≤ b ∧ b < 67108864 ∧ 0 ≤ c ∧ c < 67108864 ∧ 0 ≤ d ∧ d < 67108864 ∧ 0 ≤ e ∧ e < 67108864
theorem car_car {a b c d e : Int} (ha : 0 ≤ a ∧ a < 1152921504606846976) (hb : 0 ≤ b ∧ b < 1152921504606846976) (hc : 0 ≤ c ∧ c < 1152921504606846976) (hd : 0 ≤ d ∧ d < 1152921504606846976) (he : 0 ≤ e ∧ e < 1152921504606846976) :
    Near (carN (carN [a, b, c, d, e] 5) 5) ∧ lv (carN (carN [a, b, c, d, e] 5) 5) % 1361129467683753853853498429727072845819 = lv [a, b, c, d, e] % 1361129467683753853853498429727072845819 := by
  obtain ⟨a1, b1, c1, d1, e1, q1, u, v, w, h1, h2, e2, e3, e4, e5, e6, e7, e8, e9, e10⟩ := car5 ha hb hc hd he
  obtain ⟨a2, b2, c2, d2, e2', q2, u', v', w', g1, g2, f2, f3, f4, f5, f6, f7, f8, f9, f10⟩ := car5 (a := a1) (b := b1) (c := c1) (d := d1) (e := e1) (by omega) (by omega) (by omega) (by omega) (by omega)
  rw [h1, g1]
  refine ⟨⟨a2, b2, c2, d2, e2', rfl, ?_, ?_, ?_, ?_, ?_, ?_, ?_, ?_, ?_, ?_⟩, by omega⟩ <;> omega
end Go.Proofs.Ytildhljhbbhmmaa.AM
namespace Go.Proofs.Ytildhljhbbhmmaa.AM
open Go
set_option linter.all false
set_option maxRecDepth 10000

def W5 (x y z u v : Int) : Int := IntKind.wrap .u64 (IntKind.wrap .u64 (IntKind.wrap .u64 (IntKind.wrap .u64 (IntKind.wrap .u64 (0 + x) + y) + z) + u) + v)
theorem W5_eq {x y z u v : Int} (hx : 0 ≤ x ∧ x < 200000000000000000) (hy : 0 ≤ y ∧ y < 200000000000000000) (hz : 0 ≤ z ∧ z < 200000000000000000) (hu : 0 ≤ u ∧ u < 200000000000000000) (hv : 0 ≤ v ∧ v < 200000000000000000) : W5 x y z u v = x + y + z + u + v := by
  unfold W5
  rw [u64w (n := 0 + x) (by omega) (by omega), u64w (n := 0 + x + y) (by omega) (by omega), u64w (n := 0 + x + y + z) (by omega) (by omega), u64w (n := 0 + x + y + z + u) (by omega) (by omega), u64w (n := 0 + x + y + z + u + v) (by omega) (by omega)]
  omega
theorem prK0 {h r : List Int} {a b c d e : Int} : prK h r [a, b, c, d, e] 0 5 = [IntKind.wrap .u64 (a + mulX h r 0 0), IntKind.wrap .u64 (b + mulX h r 0 1), IntKind.wrap .u64 (c + mulX h r 0 2), IntKind.wrap .u64 (d + mulX h r 0 3), IntKind.wrap .u64 (e + mulX h r 0 4)] := rfl
theorem prK1 {h r : List Int} {a b c d e : Int} : prK h r [a, b, c, d, e] 1 5 = [IntKind.wrap .u64 (a + mulX h r 1 4), IntKind.wrap .u64 (b + mulX h r 1 0), IntKind.wrap .u64 (c + mulX h r 1 1), IntKind.wrap .u64 (d + mulX h r 1 2), IntKind.wrap .u64 (e + mulX h r 1 3)] := rfl
theorem prK2 {h r : List Int} {a b c d e : Int} : prK h r [a, b, c, d, e] 2 5 = [IntKind.wrap .u64 (a + mulX h r 2 3), IntKind.wrap .u64 (b + mulX h r 2 4), IntKind.wrap .u64 (c + mulX h r 2 0), IntKind.wrap .u64 (d + mulX h r 2 1), IntKind.wrap .u64 (e + mulX h r 2 2)] := rfl
theorem prK3 {h r : List Int} {a b c d e : Int} : prK h r [a, b, c, d, e] 3 5 = [IntKind.wrap .u64 (a + mulX h r 3 2), IntKind.wrap .u64 (b + mulX h r 3 3), IntKind.wrap .u64 (c + mulX h r 3 4), IntKind.wrap .u64 (d + mulX h r 3 0), IntKind.wrap .u64 (e + mulX h r 3 1)] := rfl
theorem prK4 {h r : List Int} {a b c d e : Int} : prK h r [a, b, c, d, e] 4 5 = [IntKind.wrap .u64 (a + mulX h r 4 1), IntKind.wrap .u64 (b + mulX h r 4 2), IntKind.wrap .u64 (c + mulX h r 4 3), IntKind.wrap .u64 (d + mulX h r 4 4), IntKind.wrap .u64 (e + mulX h r 4 0)] := rfl
theorem prN5 {h r : List Int} : prN h r 5 = [W5 (mulX h r 0 0) (mulX h r 1 4) (mulX h r 2 3) (mulX h r 3 2) (mulX h r 4 1),
    W5 (mulX h r 0 1) (mulX h r 1 0) (mulX h r 2 4) (mulX h r 3 3) (mulX h r 4 2),
    W5 (mulX h r 0 2) (mulX h r 1 1) (mulX h r 2 0) (mulX h r 3 4) (mulX h r 4 3),
    W5 (mulX h r 0 3) (mulX h r 1 2) (mulX h r 2 1) (mulX h r 3 0) (mulX h r 4 4),
    W5 (mulX h r 0 4) (mulX h r 1 3) (mulX h r 2 2) (mulX h r 3 1) (mulX h r 4 0)] := by
  show prK h r (prK h r (prK h r (prK h r (prK h r [0, 0, 0, 0, 0] 0 5) 1 5) 2 5) 3 5) 4 5 = _
  rw [prK0, prK1, prK2, prK3, prK4]
  simp only [W5]
/-- Limbs that are no greater than a sum of two. -/
def Wide (h : List Int) : Prop := h.length = 5 ∧ ∀ i, i < 5 → 0 ≤ gw h i ∧ gw h i < 150000000
def Tight (r : List Int) : Prop := r.length = 5 ∧ ∀ i, i < 5 → 0 ≤ gw r i ∧ gw r i < 67108864
theorem mulX_lo {h r : List Int} (hh : Wide h) (hr : Tight r) {i k : Nat} (hi : i < 5) (hk : k < 5) (hik : i + k < 5) : mulX h r i k = gw h i * gw r k ∧ 0 ≤ mulX h r i k ∧ mulX h r i k < 200000000000000000 := by
  have h1 := hh.2 i hi
  have h2 := hr.2 k hk
  have p0 := Int.mul_nonneg h1.1 h2.1
  have p1 : gw h i * gw r k ≤ 150000000 * 67108864 := Int.mul_le_mul (by omega) (by omega) h2.1 (by omega)
  unfold mulX
  rw [if_neg (by omega), u64w p0 (by omega)]
  exact ⟨rfl, p0, by omega⟩
theorem mulX_hi {h r : List Int} (hh : Wide h) (hr : Tight r) {i k : Nat} (hi : i < 5) (hk : k < 5) (hik : ¬ i + k < 5) : mulX h r i k = 5 * (gw h i * gw r k) ∧ 0 ≤ mulX h r i k ∧ mulX h r i k < 200000000000000000 := by
  have h1 := hh.2 i hi
  have h2 := hr.2 k hk
  have p0 := Int.mul_nonneg h1.1 h2.1
  have p1 : gw h i * gw r k ≤ 150000000 * 67108864 := Int.mul_le_mul (by omega) (by omega) h2.1 (by omega)
  unfold mulX
  rw [if_pos (by omega), u64w (n := gw h i * gw r k) p0 (by omega), u64w (by omega) (by omega)]
  refine ⟨by omega, by omega, by omega⟩
theorem lv_mul {h0 h1 h2 h3 h4 r0 r1 r2 r3 r4 : Int} :
    (h0 + 67108864 * h1 + 4503599627370496 * h2 + 302231454903657293676544 * h3 + 20282409603651670423947251286016 * h4) * (r0 + 67108864 * r1 + 4503599627370496 * r2 + 302231454903657293676544 * r3 + 20282409603651670423947251286016 * r4) =
    (h0 * r0 + 5 * (h1 * r4) + 5 * (h2 * r3) + 5 * (h3 * r2) + 5 * (h4 * r1)) + 67108864 * (h0 * r1 + h1 * r0 + 5 * (h2 * r4) + 5 * (h3 * r3) + 5 * (h4 * r2)) + 4503599627370496 * (h0 * r2 + h1 * r1 + h2 * r0 + 5 * (h3 * r4) + 5 * (h4 * r3)) + 302231454903657293676544 * (h0 * r3 + h1 * r2 + h2 * r1 + h3 * r0 + 5 * (h4 * r4)) + 20282409603651670423947251286016 * (h0 * r4 + h1 * r3 + h2 * r2 + h3 * r1 + h4 * r0) +
    1361129467683753853853498429727072845819 * ((h1 * r4 + h2 * r3 + h3 * r2 + h4 * r1) + 67108864 * (h2 * r4 + h3 * r3 + h4 * r2) + 4503599627370496 * (h3 * r4 + h4 * r3) + 302231454903657293676544 * (h4 * r4)) := by grind
theorem mulL_lv {h r : List Int} (hh : Wide h) (hr : Tight r) : Near (mulL h r) ∧ lv (mulL h r) % 1361129467683753853853498429727072845819 = (lv h * lv r) % 1361129467683753853853498429727072845819 := by
  unfold mulL
  rw [prN5]
  obtain ⟨a1, a2, a3⟩ := mulX_lo hh hr (i := 0) (k := 0) (by omega) (by omega) (by omega)
  obtain ⟨b1, b2, b3⟩ := mulX_hi hh hr (i := 1) (k := 4) (by omega) (by omega) (by omega)
  obtain ⟨c1, c2, c3⟩ := mulX_hi hh hr (i := 2) (k := 3) (by omega) (by omega) (by omega)
  obtain ⟨d1, d2, d3⟩ := mulX_hi hh hr (i := 3) (k := 2) (by omega) (by omega) (by omega)
  obtain ⟨e1, e2, e3⟩ := mulX_hi hh hr (i := 4) (k := 1) (by omega) (by omega) (by omega)
  rw [W5_eq ⟨a2, a3⟩ ⟨b2, b3⟩ ⟨c2, c3⟩ ⟨d2, d3⟩ ⟨e2, e3⟩]
  obtain ⟨f1, f2, f3⟩ := mulX_lo hh hr (i := 0) (k := 1) (by omega) (by omega) (by omega)
  obtain ⟨g1, g2, g3⟩ := mulX_lo hh hr (i := 1) (k := 0) (by omega) (by omega) (by omega)
  obtain ⟨h1, h2, h3⟩ := mulX_hi hh hr (i := 2) (k := 4) (by omega) (by omega) (by omega)
  obtain ⟨i1, i2, i3⟩ := mulX_hi hh hr (i := 3) (k := 3) (by omega) (by omega) (by omega)
  obtain ⟨j1, j2, j3⟩ := mulX_hi hh hr (i := 4) (k := 2) (by omega) (by omega) (by omega)
  rw [W5_eq ⟨f2, f3⟩ ⟨g2, g3⟩ ⟨h2, h3⟩ ⟨i2, i3⟩ ⟨j2, j3⟩]
  obtain ⟨k1, k2, k3⟩ := mulX_lo hh hr (i := 0) (k := 2) (by omega) (by omega) (by omega)
  obtain ⟨l1, l2, l3⟩ := mulX_lo hh hr (i := 1) (k := 1) (by omega) (by omega) (by omega)
  obtain ⟨m1, m2, m3⟩ := mulX_lo hh hr (i := 2) (k := 0) (by omega) (by omega) (by omega)
  obtain ⟨n1, n2, n3⟩ := mulX_hi hh hr (i := 3) (k := 4) (by omega) (by omega) (by omega)
  obtain ⟨o1, o2, o3⟩ := mulX_hi hh hr (i := 4) (k := 3) (by omega) (by omega) (by omega)
  rw [W5_eq ⟨k2, k3⟩ ⟨l2, l3⟩ ⟨m2, m3⟩ ⟨n2, n3⟩ ⟨o2, o3⟩]
  obtain ⟨p1, p2, p3⟩ := mulX_lo hh hr (i := 0) (k := 3) (by omega) (by omega) (by omega)
  obtain ⟨q1, q2, q3⟩ := mulX_lo hh hr (i := 1) (k := 2) (by omega) (by omega) (by omega)
  obtain ⟨r1, r2, r3⟩ := mulX_lo hh hr (i := 2) (k := 1) (by omega) (by omega) (by omega)
  obtain ⟨s1, s2, s3⟩ := mulX_lo hh hr (i := 3) (k := 0) (by omega) (by omega) (by omega)
  obtain ⟨t1, t2, t3⟩ := mulX_hi hh hr (i := 4) (k := 4) (by omega) (by omega) (by omega)
  rw [W5_eq ⟨p2, p3⟩ ⟨q2, q3⟩ ⟨r2, r3⟩ ⟨s2, s3⟩ ⟨t2, t3⟩]
  obtain ⟨u1, u2, u3⟩ := mulX_lo hh hr (i := 0) (k := 4) (by omega) (by omega) (by omega)
  obtain ⟨v1, v2, v3⟩ := mulX_lo hh hr (i := 1) (k := 3) (by omega) (by omega) (by omega)
  obtain ⟨w1, w2, w3⟩ := mulX_lo hh hr (i := 2) (k := 2) (by omega) (by omega) (by omega)
  obtain ⟨x1, x2, x3⟩ := mulX_lo hh hr (i := 3) (k := 1) (by omega) (by omega) (by omega)
  obtain ⟨y1, y2, y3⟩ := mulX_lo hh hr (i := 4) (k := 0) (by omega) (by omega) (by omega)
  rw [W5_eq ⟨u2, u3⟩ ⟨v2, v3⟩ ⟨w2, w3⟩ ⟨x2, x3⟩ ⟨y2, y3⟩]
  obtain ⟨z1, z2⟩ := car_car (a := mulX h r 0 0 + mulX h r 1 4 + mulX h r 2 3 + mulX h r 3 2 + mulX h r 4 1) (b := mulX h r 0 1 + mulX h r 1 0 + mulX h r 2 4 + mulX h r 3 3 + mulX h r 4 2) (c := mulX h r 0 2 + mulX h r 1 1 + mulX h r 2 0 + mulX h r 3 4 + mulX h r 4 3) (d := mulX h r 0 3 + mulX h r 1 2 + mulX h r 2 1 + mulX h r 3 0 + mulX h r 4 4) (e := mulX h r 0 4 + mulX h r 1 3 + mulX h r 2 2 + mulX h r 3 1 + mulX h r 4 0) (by omega) (by omega) (by omega) (by omega) (by omega)
  refine ⟨z1, ?_⟩
  rw [z2, lv5, a1, b1, c1, d1, e1, f1, g1, h1, i1, j1, k1, l1, m1, n1, o1, p1, q1, r1, s1, t1, u1, v1, w1, x1, y1]
  unfold lv
  rw [lv_mul, Int.add_mul_emod_self_left]
end Go.Proofs.Ytildhljhbbhmmaa.AM
namespace Go.Proofs.Ytildhljhbbhmmaa.AM
open Go
set_option linter.all false
set_option maxRecDepth 10000

theorem or_add (n p : Nat) (hp : p = 2 ^ n) {x y : Int} (h0 : 0 ≤ x) (h1 : x < (p : Int)) (y0 : 0 ≤ y) (hy : y % (p : Int) = 0) (hx : x + y < 18446744073709551616) : bitsK .or .u64 x y = x + y := by
  obtain ⟨a, rfl⟩ : ∃ a : Nat, x = a := ⟨x.toNat, by omega⟩
  obtain ⟨b, rfl⟩ : ∃ b : Nat, y = b := ⟨y.toNat, by omega⟩
  have hb : b % p = 0 := by
    have : ((b % p : Nat) : Int) = 0 := by rw [Int.natCast_emod]; exact hy
    omega
  have e : b = 2 ^ n * (b / p) := by
    have := Nat.div_add_mod b p
    rw [← hp]
    omega
  rw [or64 a b (by omega) (by omega)]
  have h := Nat.two_pow_add_eq_or_of_lt (i := n) (b := a) (by rw [← hp]; omega) (b / p)
  rw [← e] at h
  rw [Nat.or_comm, ← h]
  omega
theorem and28 {x : Int} (h : 0 ≤ x ∧ x < 4294967296) : bitsK .and .u64 x 268435455 = x % 268435456 := by
  obtain ⟨n, rfl⟩ : ∃ n : Nat, x = n := ⟨x.toNat, by omega⟩
  have e := and64 n 268435455 (by omega) (by omega)
  rw [show ((268435455 : Nat) : Int) = 268435455 from rfl] at e
  rw [e, show (268435455 : Nat) = 2 ^ 28 - 1 from rfl, Nat.and_two_pow_sub_one_eq_mod]
  rfl
theorem and28b {x : Int} (h : 0 ≤ x ∧ x < 4294967296) : bitsK .and .u64 x 268435452 = x % 268435456 / 4 * 4 := by
  obtain ⟨n, rfl⟩ : ∃ n : Nat, x = n := ⟨x.toNat, by omega⟩
  have e := and64 n 268435452 (by omega) (by omega)
  rw [show ((268435452 : Nat) : Int) = 268435452 from rfl] at e
  rw [e]
  have h1 : (n &&& 268435452) / 4 = n / 4 % 67108864 := by
    have := Nat.shiftRight_and_distrib (a := n) (b := 268435452) (i := 2)
    rw [Nat.shiftRight_eq_div_pow, Nat.shiftRight_eq_div_pow, Nat.shiftRight_eq_div_pow, show (268435452 : Nat) / 2 ^ 2 = 2 ^ 26 - 1 from rfl, Nat.and_two_pow_sub_one_eq_mod] at this
    exact this
  have h2 : (n &&& 268435452) % 4 = 0 := by
    have := Nat.and_mod_two_pow (a := n) (b := 268435452) (n := 2)
    rw [show (268435452 : Nat) % 2 ^ 2 = 0 from rfl, Nat.and_zero] at this
    exact this
  omega
theorem shl64 {x : Int} {j : Nat} (hj : j ≤ 64) : shiftK .shl .u64 x (j : Int) = (x * 2 ^ j) % 18446744073709551616 := by
  simp only [shiftK, Int.toNat_natCast]
  rw [show IntKind.u64.bits = 64 from rfl, show Nat.min j 64 = j from Nat.min_eq_left hj, u64wrap]
/-! ### The number to multiply by -/
theorem word_val {l : List UInt8} {i : Nat} : wordAt (tx l) i = ((gb l i).toNat : Int) + 256 * (gb l (i + 1)).toNat + 65536 * (gb l (i + 2)).toNat + 16777216 * (gb l (i + 3)).toNat := by
  rw [wordAt_tx]
  unfold le4
  omega
theorem lv_limbs_words {A B C D : Int} (ha : 0 ≤ A ∧ A < 268435456) (hb : 0 ≤ B ∧ B < 268435456) (hc : 0 ≤ C ∧ C < 268435456) (hd : 0 ≤ D ∧ D < 268435456) :
    [bitsK .and .u64 A 67108863, bitsK .and .u64 (bitsK .or .u64 (shiftK .shr .u64 A 26) (shiftK .shl .u64 B 6)) 67108863,
      bitsK .and .u64 (bitsK .or .u64 (shiftK .shr .u64 B 20) (shiftK .shl .u64 C 12)) 67108863,
      bitsK .and .u64 (bitsK .or .u64 (shiftK .shr .u64 C 14) (shiftK .shl .u64 D 18)) 67108863, shiftK .shr .u64 D 8] =
    [A % 67108864, (A / 67108864 + B * 64) % 67108864, (B / 1048576 + C * 4096) % 67108864, (C / 16384 + D * 262144) % 67108864, D / 256] := by
  have s1 := shr64 (x := A) (j := 26) (by omega)
  have s2 := shr64 (x := B) (j := 20) (by omega)
  have s3 := shr64 (x := C) (j := 14) (by omega)
  have s4 := shr64 (x := D) (j := 8) (by omega)
  have t1 := shl64 (x := B) (j := 6) (by omega)
  have t2 := shl64 (x := C) (j := 12) (by omega)
  have t3 := shl64 (x := D) (j := 18) (by omega)
  rw [show ((26 : Nat) : Int) = 26 from rfl, show (2 : Int) ^ 26 = 67108864 from rfl] at s1
  rw [show ((20 : Nat) : Int) = 20 from rfl, show (2 : Int) ^ 20 = 1048576 from rfl] at s2
  rw [show ((14 : Nat) : Int) = 14 from rfl, show (2 : Int) ^ 14 = 16384 from rfl] at s3
  rw [show ((8 : Nat) : Int) = 8 from rfl, show (2 : Int) ^ 8 = 256 from rfl] at s4
  rw [show ((6 : Nat) : Int) = 6 from rfl, show (2 : Int) ^ 6 = 64 from rfl] at t1
  rw [show ((12 : Nat) : Int) = 12 from rfl, show (2 : Int) ^ 12 = 4096 from rfl] at t2
  rw [show ((18 : Nat) : Int) = 18 from rfl, show (2 : Int) ^ 18 = 262144 from rfl] at t3
  rw [s1, s2, s3, s4, t1, t2, t3, Int.emod_eq_of_lt (a := B * 64) (by omega) (by omega), Int.emod_eq_of_lt (a := C * 4096) (by omega) (by omega), Int.emod_eq_of_lt (a := D * 262144) (by omega) (by omega)]
  rw [or_add 6 64 rfl (x := A / 67108864) (y := B * 64) (by omega) (by omega) (by omega) (by omega) (by omega)]
  rw [or_add 12 4096 rfl (x := B / 1048576) (y := C * 4096) (by omega) (by omega) (by omega) (by omega) (by omega)]
  rw [or_add 18 262144 rfl (x := C / 16384) (y := D * 262144) (by omega) (by omega) (by omega) (by omega) (by omega)]
  rw [mask26 (x := A) (by omega), mask26 (by omega), mask26 (by omega), mask26 (by omega)]
theorem lv_words {A B C D : Int} (ha : 0 ≤ A ∧ A < 268435456) (hb : 0 ≤ B ∧ B < 268435456) (hc : 0 ≤ C ∧ C < 268435456) (hd : 0 ≤ D ∧ D < 268435456) :
    lv [A % 67108864, (A / 67108864 + B * 64) % 67108864, (B / 1048576 + C * 4096) % 67108864, (C / 16384 + D * 262144) % 67108864, D / 256] = A + 4294967296 * B + 18446744073709551616 * C + 79228162514264337593543950336 * D := by
  rw [lv5]
  omega
def by_ (k : List UInt8) (i : Nat) : Int := (gb k i).toNat
theorem by_range {k : List UInt8} {i : Nat} : 0 ≤ by_ k i ∧ by_ k i < 256 := by
  have := UInt8.toNat_lt (gb k i)
  unfold by_
  omega
theorem dgs_take {k : List UInt8} {n : Nat} (h : n ≤ k.length) : dgs (k.take n) = (List.range n).map (by_ k) := by
  apply List.ext_getElem
  · simp [dgs]; omega
  · intro i h1 h2
    simp only [List.length_map, List.length_range] at h2
    have hi : i < k.length := by omega
    simp [dgs, by_, gb, hi]
theorem rdig_eq {k : List UInt8} (h : 16 ≤ k.length) : rdig k = [by_ k 0, by_ k 1, by_ k 2, by_ k 3 % 16, by_ k 4 / 4 * 4, by_ k 5, by_ k 6, by_ k 7 % 16, by_ k 8 / 4 * 4, by_ k 9, by_ k 10, by_ k 11 % 16, by_ k 12 / 4 * 4, by_ k 13, by_ k 14, by_ k 15 % 16] := by
  unfold rdig
  rw [dgs_take h]
  rfl
theorem limbs_lv {k : List UInt8} (h : 16 ≤ k.length) : Tight (limbs k) ∧ lv (limbs k) = val (rdig k) := by
  have r0 := wordAt_range (tx k) 0
  have r4 := wordAt_range (tx k) 4
  have r8 := wordAt_range (tx k) 8
  have r12 := wordAt_range (tx k) 12
  have e0 : c0E k = wordAt (tx k) 0 % 268435456 := and28 r0
  have e4 : c1E k 4 = wordAt (tx k) 4 % 268435456 / 4 * 4 := and28b r4
  have e8 : c1E k 8 = wordAt (tx k) 8 % 268435456 / 4 * 4 := and28b r8
  have e12 : c1E k 12 = wordAt (tx k) 12 % 268435456 / 4 * 4 := and28b r12
  have b0 : 0 ≤ c0E k ∧ c0E k < 268435456 := by omega
  have b4 : 0 ≤ c1E k 4 ∧ c1E k 4 < 268435456 := by omega
  have b8 : 0 ≤ c1E k 8 ∧ c1E k 8 < 268435456 := by omega
  have b12 : 0 ≤ c1E k 12 ∧ c1E k 12 < 268435456 := by omega
  have hl : limbs k = _ := lv_limbs_words b0 b4 b8 b12
  rw [hl]
  refine ⟨⟨rfl, fun i hi => ?_⟩, ?_⟩
  · match i, hi with
    | 0, _ => show 0 ≤ c0E k % 67108864 ∧ c0E k % 67108864 < 67108864; omega
    | 1, _ => show 0 ≤ (c0E k / 67108864 + c1E k 4 * 64) % 67108864 ∧ (c0E k / 67108864 + c1E k 4 * 64) % 67108864 < 67108864; omega
    | 2, _ => show 0 ≤ (c1E k 4 / 1048576 + c1E k 8 * 4096) % 67108864 ∧ (c1E k 4 / 1048576 + c1E k 8 * 4096) % 67108864 < 67108864; omega
    | 3, _ => show 0 ≤ (c1E k 8 / 16384 + c1E k 12 * 262144) % 67108864 ∧ (c1E k 8 / 16384 + c1E k 12 * 262144) % 67108864 < 67108864; omega
    | 4, _ => show 0 ≤ c1E k 12 / 256 ∧ c1E k 12 / 256 < 67108864; omega
  · rw [lv_words b0 b4 b8 b12, rdig_eq h, e0, e4, e8, e12, word_val, word_val, word_val, word_val]
    have q := fun i => by_range (k := k) (i := i)
    simp only [← by_.eq_def] at *
    show (by_ k 0 + 256 * by_ k 1 + 65536 * by_ k 2 + 16777216 * by_ k 3) % 268435456 + 4294967296 * ((by_ k 4 + 256 * by_ k 5 + 65536 * by_ k 6 + 16777216 * by_ k 7) % 268435456 / 4 * 4) + 18446744073709551616 * ((by_ k 8 + 256 * by_ k 9 + 65536 * by_ k 10 + 16777216 * by_ k 11) % 268435456 / 4 * 4) + 79228162514264337593543950336 * ((by_ k 12 + 256 * by_ k 13 + 65536 * by_ k 14 + 16777216 * by_ k 15) % 268435456 / 4 * 4) = _
    have w0 : (by_ k 0 + 256 * by_ k 1 + 65536 * by_ k 2 + 16777216 * by_ k 3) % 268435456 = by_ k 0 + 256 * by_ k 1 + 65536 * by_ k 2 + 16777216 * (by_ k 3 % 16) := by
      have := q 0; have := q 1; have := q 2; have := q 3; omega
    have w4 : (by_ k 4 + 256 * by_ k 5 + 65536 * by_ k 6 + 16777216 * by_ k 7) % 268435456 / 4 * 4 = by_ k 4 / 4 * 4 + 256 * by_ k 5 + 65536 * by_ k 6 + 16777216 * (by_ k 7 % 16) := by
      have := q 4; have := q 5; have := q 6; have := q 7; omega
    have w8 : (by_ k 8 + 256 * by_ k 9 + 65536 * by_ k 10 + 16777216 * by_ k 11) % 268435456 / 4 * 4 = by_ k 8 / 4 * 4 + 256 * by_ k 9 + 65536 * by_ k 10 + 16777216 * (by_ k 11 % 16) := by
      have := q 8; have := q 9; have := q 10; have := q 11; omega
    have w12 : (by_ k 12 + 256 * by_ k 13 + 65536 * by_ k 14 + 16777216 * by_ k 15) % 268435456 / 4 * 4 = by_ k 12 / 4 * 4 + 256 * by_ k 13 + 65536 * by_ k 14 + 16777216 * (by_ k 15 % 16) := by
      have := q 12; have := q 13; have := q 14; have := q 15; omega
    rw [w0, w4, w8, w12]
    simp only [val]
    omega
end Go.Proofs.Ytildhljhbbhmmaa.AM
namespace Go.Proofs.Ytildhljhbbhmmaa.AM
open Go
set_option linter.all false
set_option maxRecDepth 10000

theorem Near.wide {h : List Int} (hn : Near h) : h.length = 5 := by
  obtain ⟨a, b, c, d, e, rfl, _⟩ := hn
  rfl
theorem word_by {l : List UInt8} {i : Nat} : wordAt (tx l) i = by_ l i + 256 * by_ l (i + 1) + 65536 * by_ l (i + 2) + 16777216 * by_ l (i + 3) := word_val
/-- A part of a message, in limbs. -/
theorem step_limbs {p : List UInt8} :
    bitsK .and .u64 (wordAt (tx p) 0) 67108863 = by_ p 0 + 256 * by_ p 1 + 65536 * by_ p 2 + 16777216 * (by_ p 3 % 4) ∧
    bitsK .and .u64 (shiftK .shr .u64 (wordAt (tx p) 3) 2) 67108863 = by_ p 3 / 4 + 64 * by_ p 4 + 16384 * by_ p 5 + 4194304 * (by_ p 6 % 16) ∧
    bitsK .and .u64 (shiftK .shr .u64 (wordAt (tx p) 6) 4) 67108863 = by_ p 6 / 16 + 16 * by_ p 7 + 4096 * by_ p 8 + 1048576 * (by_ p 9 % 64) ∧
    bitsK .and .u64 (shiftK .shr .u64 (wordAt (tx p) 9) 6) 67108863 = by_ p 9 / 64 + 4 * by_ p 10 + 1024 * by_ p 11 + 262144 * by_ p 12 ∧
    bitsK .or .u64 (shiftK .shr .u64 (wordAt (tx p) 12) 8) (shiftK .shl .u64 ((gb p 16).toNat : Int) 24) = by_ p 13 + 256 * by_ p 14 + 65536 * by_ p 15 + 16777216 * by_ p 16 := by
  have q := fun i => by_range (k := p) (i := i)
  have r0 := wordAt_range (tx p) 0
  have r3 := wordAt_range (tx p) 3
  have r6 := wordAt_range (tx p) 6
  have r9 := wordAt_range (tx p) 9
  have r12 := wordAt_range (tx p) 12
  have s2 := shr64 (x := wordAt (tx p) 3) (j := 2) (by omega)
  have s4 := shr64 (x := wordAt (tx p) 6) (j := 4) (by omega)
  have s6 := shr64 (x := wordAt (tx p) 9) (j := 6) (by omega)
  have s8 := shr64 (x := wordAt (tx p) 12) (j := 8) (by omega)
  have t24 := shl64 (x := ((gb p 16).toNat : Int)) (j := 24) (by omega)
  rw [show ((2 : Nat) : Int) = 2 from rfl, show (2 : Int) ^ 2 = 4 from rfl] at s2
  rw [show ((4 : Nat) : Int) = 4 from rfl, show (2 : Int) ^ 4 = 16 from rfl] at s4
  rw [show ((6 : Nat) : Int) = 6 from rfl, show (2 : Int) ^ 6 = 64 from rfl] at s6
  rw [show ((8 : Nat) : Int) = 8 from rfl, show (2 : Int) ^ 8 = 256 from rfl] at s8
  rw [show ((24 : Nat) : Int) = 24 from rfl, show (2 : Int) ^ 24 = 16777216 from rfl] at t24
  have g16 : ((gb p 16).toNat : Int) = by_ p 16 := rfl
  rw [g16] at t24
  rw [s2, s4, s6, s8, g16, t24]
  refine ⟨?_, ?_, ?_, ?_, ?_⟩
  · rw [mask26 (by omega), word_by]
    have := q 0; have := q 1; have := q 2; have := q 3
    simp only [Nat.zero_add]
    omega
  · rw [mask26 (by omega), word_by]
    have := q 3; have := q 4; have := q 5; have := q 6
    simp only [Nat.reduceAdd]
    omega
  · rw [mask26 (by omega), word_by]
    have := q 6; have := q 7; have := q 8; have := q 9
    simp only [Nat.reduceAdd]
    omega
  · rw [mask26 (by omega), word_by]
    have := q 9; have := q 10; have := q 11; have := q 12
    simp only [Nat.reduceAdd]
    omega
  · have h12 := q 12
    have h13 := q 13
    have h14 := q 14
    have h15 := q 15
    have h16 := q 16
    rw [Int.emod_eq_of_lt (a := by_ p 16 * 16777216) (by omega) (by omega)]
    rw [or_add 24 16777216 rfl (x := wordAt (tx p) 12 / 256) (y := by_ p 16 * 16777216) (by omega) (by omega) (by omega) (by omega) (by omega), word_by]
    simp only [Nat.reduceAdd]
    omega
theorem val17 {p : List UInt8} (h : p.length = 17) : val (dgs p) = by_ p 0 + 256 * by_ p 1 + 65536 * by_ p 2 + 16777216 * by_ p 3 + 4294967296 * by_ p 4 + 1099511627776 * by_ p 5 + 281474976710656 * by_ p 6 + 72057594037927936 * by_ p 7 + 18446744073709551616 * by_ p 8 + 4722366482869645213696 * by_ p 9 + 1208925819614629174706176 * by_ p 10 + 309485009821345068724781056 * by_ p 11 + 79228162514264337593543950336 * by_ p 12 + 20282409603651670423947251286016 * by_ p 13 + 5192296858534827628530496329220096 * by_ p 14 + 1329227995784915872903807060280344576 * by_ p 15 + 340282366920938463463374607431768211456 * by_ p 16 := by
  have e : dgs p = (List.range 17).map (by_ p) := by
    have := dgs_take (k := p) (n := 17) (by omega)
    rw [List.take_of_length_le (by omega)] at this
    exact this
  rw [e]
  have : (List.range 17).map (by_ p) = [by_ p 0, by_ p 1, by_ p 2, by_ p 3, by_ p 4, by_ p 5, by_ p 6, by_ p 7, by_ p 8, by_ p 9, by_ p 10, by_ p 11, by_ p 12, by_ p 13, by_ p 14, by_ p 15, by_ p 16] := rfl
  rw [this]
  simp only [val]
  omega
theorem addA0 {a b c d e x : Int} (h : 0 ≤ a + x ∧ a + x < 18446744073709551616) : addAt [a, b, c, d, e] 0 x = [a + x, b, c, d, e] := by
  show [IntKind.wrap .u64 (a + x), b, c, d, e] = _
  rw [u64w h.1 h.2]
theorem addA1 {a b c d e x : Int} (h : 0 ≤ b + x ∧ b + x < 18446744073709551616) : addAt [a, b, c, d, e] 1 x = [a, b + x, c, d, e] := by
  show [a, IntKind.wrap .u64 (b + x), c, d, e] = _
  rw [u64w h.1 h.2]
theorem addA2 {a b c d e x : Int} (h : 0 ≤ c + x ∧ c + x < 18446744073709551616) : addAt [a, b, c, d, e] 2 x = [a, b, c + x, d, e] := by
  show [a, b, IntKind.wrap .u64 (c + x), d, e] = _
  rw [u64w h.1 h.2]
theorem addA3 {a b c d e x : Int} (h : 0 ≤ d + x ∧ d + x < 18446744073709551616) : addAt [a, b, c, d, e] 3 x = [a, b, c, d + x, e] := by
  show [a, b, c, IntKind.wrap .u64 (d + x), e] = _
  rw [u64w h.1 h.2]
theorem addA4 {a b c d e x : Int} (h : 0 ≤ e + x ∧ e + x < 18446744073709551616) : addAt [a, b, c, d, e] 4 x = [a, b, c, d, e + x] := by
  show [a, b, c, d, IntKind.wrap .u64 (e + x)] = _
  rw [u64w h.1 h.2]
theorem step_lv {h : List Int} (hn : Near h) {p : List UInt8} (hp : p.length = 17) (h16 : by_ p 16 ≤ 1) : Wide (stepL h p) ∧ lv (stepL h p) = lv h + val (dgs p) := by
  obtain ⟨a, b, c, d, e, rfl, a0, a1, b0, b1, c0, c1, d0, d1, e0, e1⟩ := hn
  obtain ⟨m0, m1, m2, m3, m4⟩ := step_limbs (p := p)
  have q := fun i => by_range (k := p) (i := i)
  rw [← stepL_eq, m0, m1, m2, m3, m4, val17 hp]
  have := q 0; have := q 1; have := q 2; have := q 3; have := q 4; have := q 5; have := q 6; have := q 7; have := q 8
  have := q 9; have := q 10; have := q 11; have := q 12; have := q 13; have := q 14; have := q 15; have := q 16
  rw [addA0 (by omega), addA1 (by omega), addA2 (by omega), addA3 (by omega), addA4 (by omega)]
  refine ⟨⟨rfl, fun i hi => ?_⟩, ?_⟩
  · match i, hi with
    | 0, _ => show 0 ≤ a + _ ∧ a + _ < _; omega
    | 1, _ => show 0 ≤ b + _ ∧ b + _ < _; omega
    | 2, _ => show 0 ≤ c + _ ∧ c + _ < _; omega
    | 3, _ => show 0 ≤ d + _ ∧ d + _ < _; omega
    | 4, _ => show 0 ≤ e + _ ∧ e + _ < _; omega
  · rw [lv5, lv5]
    omega
/-! ### Marks -/
theorem dgs_app {l r : List UInt8} : dgs (l ++ r) = dgs l ++ dgs r := by simp [dgs]
theorem val_zb {n : Nat} : val (dgs (zb n)) = 0 := by
  have : dgs (zb n) = List.replicate n 0 := by simp [dgs, zb]
  rw [this]; exact val_rep
theorem marked_eq {l : List UInt8} : marked l = (l.take 16 ++ [1]) ++ zb (16 - min 16 l.length) := by
  unfold marked
  rw [set_mid (i := 0) (y := 0) (by rw [List.length_take, Nat.add_zero])]
  have : zb (17 - min 16 l.length) = 0 :: zb (16 - min 16 l.length) := by
    rw [show 17 - min 16 l.length = (16 - min 16 l.length) + 1 by omega]
    simp [zb, List.replicate_succ]
  rw [this, List.append_assoc]
  rfl
theorem marked_len {l : List UInt8} : (marked l).length = 17 := by
  rw [marked_eq]
  simp only [List.length_append, List.length_take, List.length_cons, List.length_nil, zb, List.length_replicate]
  omega
theorem marked_val {l : List UInt8} : val (dgs (marked l)) = val (dgs (l.take 16 ++ [1])) := by
  rw [marked_eq, dgs_app, val_app, val_zb, Int.zero_mul, Int.add_zero]
theorem marked_top {l : List UInt8} : by_ (marked l) 16 ≤ 1 := by
  unfold by_
  rw [marked_eq]
  by_cases h : 16 ≤ l.length
  · have : gb ((l.take 16 ++ [1]) ++ zb (16 - min 16 l.length)) 16 = 1 := by
      rw [List.append_assoc, gb_app (j := 0) (by rw [List.length_take]; omega)]
      rfl
    rw [this]
    decide
  · have : gb ((l.take 16 ++ [1]) ++ zb (16 - min 16 l.length)) 16 = 0 := by
      rw [gb_app (j := 16 - (l.length + 1)) (by simp only [List.length_append, List.length_take, List.length_cons, List.length_nil]; omega), gb_zb]
    rw [this]
    decide
theorem acc_lv {k m : List UInt8} (hk : 16 ≤ k.length) : ∀ q, Near (accQ (limbs k) m q) ∧ lv (accQ (limbs k) m q) % 1361129467683753853853498429727072845819 = accV k m q % 1361129467683753853853498429727072845819 := by
  intro q
  obtain ⟨ht, hlv⟩ := limbs_lv hk
  induction q with
  | zero =>
    rw [accQ_zero]
    exact ⟨⟨0, 0, 0, 0, 0, rfl, by omega, by omega, by omega, by omega, by omega, by omega, by omega, by omega, by omega, by omega⟩, rfl⟩
  | succ q ih =>
    rw [accQ_succ]
    obtain ⟨s1, s2⟩ := step_lv ih.1 (marked_len (l := m.drop (16 * q))) marked_top
    obtain ⟨m1, m2⟩ := mulL_lv s1 ht
    refine ⟨m1, ?_⟩
    rw [m2, s2, hlv, marked_val]
    have hb : (m.drop (16 * q)).take 16 = blk 16 m q := rfl
    rw [hb, accV, Int.emod_emod, Int.mul_emod, Int.add_emod, ih.2, ← Int.add_emod, ← Int.mul_emod]
theorem accV_range {k m : List UInt8} : ∀ q, 0 ≤ accV k m q ∧ accV k m q < 1361129467683753853853498429727072845819 := by
  intro q
  cases q with
  | zero => show (0 : Int) ≤ 0 ∧ (0 : Int) < 1361129467683753853853498429727072845819; omega
  | succ q => simp only [accV]; omega
end Go.Proofs.Ytildhljhbbhmmaa.AM
namespace Go.Proofs.Ytildhljhbbhmmaa.AM
open Go
set_option linter.all false
set_option maxRecDepth 10000

/-- Limbs that are right. -/
def Norm (h : List Int) : Prop := ∃ a b c d e : Int, h = [a, b, c, d, e] ∧ 0 ≤ a ∧ a < 67108864 ∧ 0 ≤ b ∧ b < 67108864 ∧ 0 ≤ c ∧ c < 67108864 ∧ 0 ≤ d ∧ d < 67108864 ∧ 0 ≤ e ∧ e < 67108864
theorem norm_car {h : List Int} (hn : Near h) : Norm (carN h 5) ∧ lv (carN h 5) % 1361129467683753853853498429727072845819 = lv h % 1361129467683753853853498429727072845819 := by
  obtain ⟨a, b, c, d, e, rfl, a0, a1, b0, b1, c0, c1, d0, d1, e0, e1⟩ := hn
  obtain ⟨a', b', c', d', e', q, u, v, w, h1, h2, f2, f3, f4, f5, f6, f7, f8, f9, f10⟩ := car5 (a := a) (b := b) (c := c) (d := d) (e := e) (by omega) (by omega) (by omega) (by omega) (by omega)
  rw [h1]
  refine ⟨⟨a', b', c', d', e', rfl, ?_, ?_, ?_, ?_, ?_, ?_, ?_, ?_, ?_, ?_⟩, by omega⟩ <;> omega
theorem norm_near {h : List Int} (hn : Norm h) : Near h := by
  obtain ⟨a, b, c, d, e, rfl, a0, a1, b0, b1, c0, c1, d0, d1, e0, e1⟩ := hn
  exact ⟨a, b, c, d, e, rfl, a0, by omega, b0, b1, c0, c1, d0, d1, e0, e1⟩
theorem gS0 {a b c d e : Int} (h : 0 ≤ b + a / 67108864 ∧ b + a / 67108864 < 18446744073709551616) : gS [a, b, c, d, e] 0 = [a % 67108864, b + a / 67108864, c, d, e] := by
  show [a % 67108864, IntKind.wrap .u64 (b + a / 67108864), c, d, e] = _
  rw [u64w h.1 h.2]
theorem gS1 {a b c d e : Int} (h : 0 ≤ c + b / 67108864 ∧ c + b / 67108864 < 18446744073709551616) : gS [a, b, c, d, e] 1 = [a, b % 67108864, c + b / 67108864, d, e] := by
  show [a, b % 67108864, IntKind.wrap .u64 (c + b / 67108864), d, e] = _
  rw [u64w h.1 h.2]
theorem gS2 {a b c d e : Int} (h : 0 ≤ d + c / 67108864 ∧ d + c / 67108864 < 18446744073709551616) : gS [a, b, c, d, e] 2 = [a, b, c % 67108864, d + c / 67108864, e] := by
  show [a, b, c % 67108864, IntKind.wrap .u64 (d + c / 67108864), e] = _
  rw [u64w h.1 h.2]
theorem gS3 {a b c d e : Int} (h : 0 ≤ e + d / 67108864 ∧ e + d / 67108864 < 18446744073709551616) : gS [a, b, c, d, e] 3 = [a, b, c, d % 67108864, e + d / 67108864] := by
  show [a, b, c, d % 67108864, IntKind.wrap .u64 (e + d / 67108864)] = _
  rw [u64w h.1 h.2]
theorem less_lv {h : List Int} (hn : Norm h) : Norm (lessP h) ∧ lv (lessP h) = lv h % 1361129467683753853853498429727072845819 := by
  obtain ⟨a, b, c, d, e, rfl, a0, a1, b0, b1, c0, c1, d0, d1, e0, e1⟩ := hn
  have hend := red_end (l := lv [a, b, c, d, e]) (by rw [lv5]; omega) (by rw [lv5]; omega)
  rw [hend]
  have hset : [a, b, c, d, e].set 0 (IntKind.wrap .u64 (gw [a, b, c, d, e] 0 + 5)) = [a + 5, b, c, d, e] := by
    show [IntKind.wrap .u64 (a + 5), b, c, d, e] = _
    rw [u64w (by omega) (by omega)]
  have hg : gN [a + 5, b, c, d, e] 4 = [(a + 5) % 67108864, (b + (a + 5) / 67108864) % 67108864, (c + (b + (a + 5) / 67108864) / 67108864) % 67108864, (d + (c + (b + (a + 5) / 67108864) / 67108864) / 67108864) % 67108864, e + (d + (c + (b + (a + 5) / 67108864) / 67108864) / 67108864) / 67108864] := by
    show gS (gS (gS (gS [a + 5, b, c, d, e] 0) 1) 2) 3 = _
    rw [gS0 (by omega), gS1 (by omega), gS2 (by omega), gS3 (by omega)]
  unfold lessP
  rw [hset, hg]
  simp only
  generalize hx : (a + 5) / 67108864 = x
  generalize hy : (b + x) / 67108864 = y
  generalize hz : (c + y) / 67108864 = z
  generalize ht : (d + z) / 67108864 = t
  have hg4 : gw [(a + 5) % 67108864, (b + x) % 67108864, (c + y) % 67108864, (d + z) % 67108864, e + t] 4 = e + t := rfl
  rw [hg4]
  by_cases hc : 0 < (e + t) / 67108864
  · rw [if_pos hc, if_pos (by rw [lv5]; omega)]
    have hs : [(a + 5) % 67108864, (b + x) % 67108864, (c + y) % 67108864, (d + z) % 67108864, e + t].set 4 ((e + t) % 67108864) = [(a + 5) % 67108864, (b + x) % 67108864, (c + y) % 67108864, (d + z) % 67108864, (e + t) % 67108864] := rfl
    rw [hs]
    refine ⟨⟨_, _, _, _, _, rfl, ?_, ?_, ?_, ?_, ?_, ?_, ?_, ?_, ?_, ?_⟩, ?_⟩
    all_goals first | omega | (rw [lv5, lv5]; omega)
  · rw [if_neg hc, if_neg (by rw [lv5]; omega)]
    exact ⟨⟨a, b, c, d, e, rfl, a0, a1, b0, b1, c0, c1, d0, d1, e0, e1⟩, rfl⟩
theorem lohi {h : List Int} (hn : Norm h) : 0 ≤ loE h ∧ loE h < 18446744073709551616 ∧ 0 ≤ hiE h ∧ hiE h < 18446744073709551616 ∧ loE h + 18446744073709551616 * hiE h = lv h % 340282366920938463463374607431768211456 := by
  obtain ⟨a, b, c, d, e, rfl, a0, a1, b0, b1, c0, c1, d0, d1, e0, e1⟩ := hn
  have t1 := shl64 (x := b) (j := 26) (by omega)
  have t2 := shl64 (x := c) (j := 52) (by omega)
  have t3 := shl64 (x := d) (j := 14) (by omega)
  have t4 := shl64 (x := e) (j := 40) (by omega)
  rw [show ((26 : Nat) : Int) = 26 from rfl, show (2 : Int) ^ 26 = 67108864 from rfl] at t1
  rw [show ((52 : Nat) : Int) = 52 from rfl, show (2 : Int) ^ 52 = 4503599627370496 from rfl] at t2
  rw [show ((14 : Nat) : Int) = 14 from rfl, show (2 : Int) ^ 14 = 16384 from rfl] at t3
  rw [show ((40 : Nat) : Int) = 40 from rfl, show (2 : Int) ^ 40 = 1099511627776 from rfl] at t4
  have t2' : (c * 4503599627370496) % 18446744073709551616 = c % 4096 * 4503599627370496 := by omega
  have t4' : (e * 1099511627776) % 18446744073709551616 = e % 16777216 * 1099511627776 := by omega
  rw [t2'] at t2
  rw [t4'] at t4
  rw [Int.emod_eq_of_lt (by omega) (by omega)] at t1 t3
  have hlo : loE [a, b, c, d, e] = a + b * 67108864 + c % 4096 * 4503599627370496 := by
    show bitsK .or .u64 (bitsK .or .u64 a (shiftK .shl .u64 b 26)) (shiftK .shl .u64 c 52) = _
    rw [t1, t2, or_add 26 67108864 rfl (x := a) (y := b * 67108864) (by omega) (by omega) (by omega) (by omega) (by omega)]
    rw [or_add 52 4503599627370496 rfl (x := a + b * 67108864) (y := c % 4096 * 4503599627370496) (by omega) (by omega) (by omega) (by omega) (by omega)]
  have hhi : hiE [a, b, c, d, e] = c / 4096 + d * 16384 + e % 16777216 * 1099511627776 := by
    show bitsK .or .u64 (bitsK .or .u64 (c / 4096) (shiftK .shl .u64 d 14)) (shiftK .shl .u64 e 40) = _
    rw [t3, t4, or_add 14 16384 rfl (x := c / 4096) (y := d * 16384) (by omega) (by omega) (by omega) (by omega) (by omega)]
    rw [or_add 40 1099511627776 rfl (x := c / 4096 + d * 16384) (y := e % 16777216 * 1099511627776) (by omega) (by omega) (by omega) (by omega) (by omega)]
  rw [hlo, hhi, lv5]
  refine ⟨by omega, by omega, by omega, by omega, by omega⟩
theorem xE_val {s : List UInt8} {i : Nat} : xE (tx s) i = wordAt (tx s) i + 4294967296 * wordAt (tx s) (i + 4) := by
  have r0 := wordAt_range (tx s) i
  have r4 := wordAt_range (tx s) (i + 4)
  have t1 := shl64 (x := wordAt (tx s) (i + 4)) (j := 32) (by omega)
  rw [show ((32 : Nat) : Int) = 32 from rfl, show (2 : Int) ^ 32 = 4294967296 from rfl, Int.emod_eq_of_lt (by omega) (by omega)] at t1
  unfold xE
  rw [t1, or_add 32 4294967296 rfl (by omega) (by omega) (by omega) (by omega) (by omega)]
  omega
theorem val16 {p : List UInt8} (h : p.length = 16) : val (dgs p) = by_ p 0 + 256 * by_ p 1 + 65536 * by_ p 2 + 16777216 * by_ p 3 + 4294967296 * by_ p 4 + 1099511627776 * by_ p 5 + 281474976710656 * by_ p 6 + 72057594037927936 * by_ p 7 + 18446744073709551616 * by_ p 8 + 4722366482869645213696 * by_ p 9 + 1208925819614629174706176 * by_ p 10 + 309485009821345068724781056 * by_ p 11 + 79228162514264337593543950336 * by_ p 12 + 20282409603651670423947251286016 * by_ p 13 + 5192296858534827628530496329220096 * by_ p 14 + 1329227995784915872903807060280344576 * by_ p 15 := by
  have e : dgs p = (List.range 16).map (by_ p) := by
    have := dgs_take (k := p) (n := 16) (by omega)
    rw [List.take_of_length_le (by omega)] at this
    exact this
  rw [e]
  have : (List.range 16).map (by_ p) = [by_ p 0, by_ p 1, by_ p 2, by_ p 3, by_ p 4, by_ p 5, by_ p 6, by_ p 7, by_ p 8, by_ p 9, by_ p 10, by_ p 11, by_ p 12, by_ p 13, by_ p 14, by_ p 15] := rfl
  rw [this]
  simp only [val]
  omega
theorem x_val {s : List UInt8} (h : s.length = 16) : xE (tx s) 0 + 18446744073709551616 * xE (tx s) 8 = val (dgs s) := by
  rw [xE_val, xE_val, word_by, word_by, word_by, word_by, val16 h]
  simp only [Nat.reduceAdd]
  omega
theorem cl8 {lo hi : Int} : cl lo hi 8 = [b8 (lo / 2 ^ (8 * 0)), b8 (lo / 2 ^ (8 * 1)), b8 (lo / 2 ^ (8 * 2)), b8 (lo / 2 ^ (8 * 3)), b8 (lo / 2 ^ (8 * 4)), b8 (lo / 2 ^ (8 * 5)), b8 (lo / 2 ^ (8 * 6)), b8 (lo / 2 ^ (8 * 7)),
    b8 (hi / 2 ^ (8 * 0)), b8 (hi / 2 ^ (8 * 1)), b8 (hi / 2 ^ (8 * 2)), b8 (hi / 2 ^ (8 * 3)), b8 (hi / 2 ^ (8 * 4)), b8 (hi / 2 ^ (8 * 5)), b8 (hi / 2 ^ (8 * 6)), b8 (hi / 2 ^ (8 * 7))] := by
  have hz : cl lo hi 0 = [0, 0, 0, 0, 0, 0, 0, 0, 0, 0, 0, 0, 0, 0, 0, 0] := rfl
  simp only [cl] at hz ⊢
  rw [hz]
  rfl
theorem cl_val {lo hi : Int} (h0 : 0 ≤ lo ∧ lo < 18446744073709551616) (h1 : 0 ≤ hi ∧ hi < 18446744073709551616) : val (dgs (cl lo hi 8)) = lo + 18446744073709551616 * hi := by
  rw [cl8]
  simp only [dgs, List.map_cons, List.map_nil, b8_val, val]
  rw [show (2 : Int) ^ (8 * 0) = 1 from rfl, show (2 : Int) ^ (8 * 1) = 256 from rfl, show (2 : Int) ^ (8 * 2) = 65536 from rfl, show (2 : Int) ^ (8 * 3) = 16777216 from rfl, show (2 : Int) ^ (8 * 4) = 4294967296 from rfl, show (2 : Int) ^ (8 * 5) = 1099511627776 from rfl, show (2 : Int) ^ (8 * 6) = 281474976710656 from rfl, show (2 : Int) ^ (8 * 7) = 72057594037927936 from rfl]
  omega
theorem close_val {h : List Int} (hn : Near h) {s : List UInt8} (hs : s.length = 16) : val (dgs (closeC h s)) = (lv h % 1361129467683753853853498429727072845819 + val (dgs s)) % 340282366920938463463374607431768211456 := by
  obtain ⟨n1, n2⟩ := norm_car hn
  obtain ⟨n3, n4⟩ := norm_car (norm_near n1)
  obtain ⟨n5, n6⟩ := less_lv n3
  obtain ⟨l0, l1, g0, g1, g2⟩ := lohi n5
  have hx := x_val hs
  have x0 := xE_val (s := s) (i := 0)
  have x8 := xE_val (s := s) (i := 8)
  have r0 := wordAt_range (tx s) 0
  have r4 := wordAt_range (tx s) (0 + 4)
  have r8 := wordAt_range (tx s) 8
  have r12 := wordAt_range (tx s) (8 + 4)
  unfold closeC
  rw [cl_val (by omega) (by omega)]
  rw [n4, n2] at n6
  rw [← n6, ← hx]
  generalize loE (lessP (carN (carN h 5) 5)) = A at *
  generalize hiE (lessP (carN (carN h 5) 5)) = B at *
  generalize xE (tx s) 0 = X at *
  generalize xE (tx s) 8 = Y at *
  omega
theorem val_inj : ∀ {a b : List Int}, Dig a → Dig b → a.length = b.length → val a = val b → a = b := by
  intro a
  induction a with
  | nil =>
    intro b _ _ hl _
    exact (List.eq_nil_of_length_eq_zero hl.symm).symm
  | cons x a ih =>
    intro b ha hb hl hv
    cases b with
    | nil => simp at hl
    | cons y b =>
      have hx := ha 0
      have hy := hb 0
      rw [dig_cons_zero] at hx hy
      simp only [val] at hv
      have hxy : x = y := by omega
      have : val a = val b := by omega
      rw [hxy, ih ha.tail hb.tail (by simpa using hl) this]
theorem dgs_inj {a b : List UInt8} (hl : a.length = b.length) (hv : val (dgs a) = val (dgs b)) : a = b := by
  have h := val_inj dgs_Dig dgs_Dig (by rw [dgs_len, dgs_len, hl]) hv
  have hm : ∀ {l r : List UInt8}, dgs l = dgs r → l = r := by
    intro l
    induction l with
    | nil => intro r h; cases r with
      | nil => rfl
      | cons y r => simp [dgs] at h
    | cons x l ih => intro r h; cases r with
      | nil => simp [dgs] at h
      | cons y r =>
        simp only [dgs, List.map_cons, List.cons.injEq] at h
        rw [ih h.2]
        have : x.toNat = y.toNat := by omega
        rw [UInt8.toNat_inj.1 this]
  exact hm h
/-- A tag is what the reference says. -/
theorem tag_law {k m R : List UInt8} (hk : k.length = 32) (hR : R.length = 16) (hv : val (dgs R) = (accV k m (blkN 16 m.length) + val (dgs (k.drop 16))) % 340282366920938463463374607431768211456) : R = tagL k m := by
  apply dgs_inj (by rw [hR, tagL_len])
  rw [hv]
  obtain ⟨a1, a2⟩ := acc_lv (k := k) (m := m) (by omega) ((m.length + 15) / 16)
  have hc := close_val a1 (s := k.drop 16) (by rw [List.length_drop]; omega)
  have hr := accV_range (k := k) (m := m) ((m.length + 15) / 16)
  unfold tagL
  rw [hc, a2, Int.emod_eq_of_lt hr.1 hr.2]
  rfl
theorem v30t {tbl : Tbl} [hT : TMono tbl] (h30 : tbl 30 = some (.code m30)) (h64 : tbl 64 = some (.code m64)) (h65 : tbl 65 = some (.code m65)) (h66 : tbl 66 = some (.code m66)) (h67 : tbl 67 = some (.code m67)) (h68 : tbl 68 = some (.code m68)) (k m : List UInt8) (hk : k.length = 32) (hm : m.length ≤ 100000000) (H : AH) :
    Val tbl 30 [.string (tx k), .string (tx m)] H (.string (tx (tagL k m))) H := by
  obtain ⟨R, h1, h2, h3⟩ := v30 h30 h64 h65 h66 h67 h68 k m hk hm H
  rw [← tag_law hk h1 h2]
  exact h3
end Go.Proofs.Ytildhljhbbhmmaa.AM
namespace Go.Proofs.Ytildhljhbbhmmaa.AM
open Go
set_option linter.all false
set_option maxRecDepth 10000

/-- What the reference's blocks and the laws' words need. -/
structure RefT (tbl : Tbl) : Prop where
  h94 : tbl 94 = some (.code m94)
  h93 : tbl 93 = some (.code m93)
  h91 : tbl 91 = some (.code m91)
  h92 : tbl 92 = some (.code m92)
  h59 : tbl 59 = some (.code m59)
  h65 : tbl 65 = some (.code m65)
  h69 : tbl 69 = some (.code m69)
  h31 : tbl 31 = some (.code m31)
  h30 : tbl 30 = some (.code m30)
  h64 : tbl 64 = some (.code m64)
  h66 : tbl 66 = some (.code m66)
  h67 : tbl 67 = some (.code m67)
  h68 : tbl 68 = some (.code m68)
  h60 : tbl 60 = some (.code m60)
  h61 : tbl 61 = some (.code m61)
  h25 : tbl 25 = some (.code m25)
  h19 : tbl 19 = some (.code m19)
  h20 : tbl 20 = some (.code m20)
  h21 : tbl 21 = some (.code m21)
  h22 : tbl 22 = some (.code m22)
  h23 : tbl 23 = some (.code m23)
variable {tbl : Tbl} [hT : TMono tbl]

theorem v19 (h19 : tbl 19 = some (.code m19)) (H : AH) (v : Value) (l : List Int) (hs : Sl H 1 v l.length (l.map I64)) (hl : l.length < 1000000000) : Val tbl 19 [v] H (.int .i64 (firstL l)) H := by
  refine Val.of_all fun Q hQ => ?_
  obtain ⟨a, c, hv⟩ := hs.shape
  subst hv
  rw [rn_fun h19, k19]
  simp only [go_sem, Nat.reduceEqDiff, Nat.reduceAdd, Nat.reduceLeDiff, Int.reduceEq, Int.reduceLT, Int.reduceLE, Int.reduceAdd, Int.reduceSub, Int.reduceMul, Int.reduceNeg, Int.reduceToNat, Nat.reduceMul]
  refine rn_loop (fun m f H' => H' = H.enter ∧ ∃ i : Nat, i ≤ l.length ∧ m = l.length - i ∧ f 5 = .slice a l.length c ∧ f 6 = .int .i64 l.length ∧ f 7 = .int .i64 i ∧ firstL (l.drop i) = firstL l) ?_ (n := l.length) ⟨rfl, 0, by omega, by omega, by simp only [go_sem, Nat.reduceEqDiff, Nat.reduceAdd, Nat.reduceLeDiff, Int.reduceEq, Int.reduceLT, Int.reduceLE, Int.reduceAdd, Int.reduceSub, Int.reduceMul, Int.reduceNeg, Int.reduceToNat, Nat.reduceMul], by simp only [go_sem, Nat.reduceEqDiff, Nat.reduceAdd, Nat.reduceLeDiff, Int.reduceEq, Int.reduceLT, Int.reduceLE, Int.reduceAdd, Int.reduceSub, Int.reduceMul, Int.reduceNeg, Int.reduceToNat, Nat.reduceMul], by simp only [go_sem, Nat.reduceEqDiff, Nat.reduceAdd, Nat.reduceLeDiff, Int.reduceEq, Int.reduceLT, Int.reduceLE, Int.reduceAdd, Int.reduceSub, Int.reduceMul, Int.reduceNeg, Int.reduceToNat, Nat.reduceMul] <;> rfl, rfl⟩
  rintro m f H' ⟨rfl, i, hi, rfl, h5, h6, h7, hf⟩
  simp only [h5, h6, h7, go_sem, Nat.reduceEqDiff, Nat.reduceAdd, Nat.reduceLeDiff, Int.reduceEq, Int.reduceLT, Int.reduceLE, Int.reduceAdd, Int.reduceSub, Int.reduceMul, Int.reduceNeg, Int.reduceToNat, Nat.reduceMul]
  refine iteP_intro ?_ ?_ <;> intro hlt
  · simp only [h5, h6, h7, go_sem, Nat.reduceEqDiff, Nat.reduceAdd, Nat.reduceLeDiff, Int.reduceEq, Int.reduceLT, Int.reduceLE, Int.reduceAdd, Int.reduceSub, Int.reduceMul, Int.reduceNeg, Int.reduceToNat, Nat.reduceMul]
    have hi : i < l.length := by omega
    rw [List.drop_eq_getElem_cons hi] at hf
    refine hs.int hi fun p hpl hp => ?_
    simp only [h5, h6, h7, hp, go_sem, Nat.reduceEqDiff, Nat.reduceAdd, Nat.reduceLeDiff, Int.reduceEq, Int.reduceLT, Int.reduceLE, Int.reduceAdd, Int.reduceSub, Int.reduceMul, Int.reduceNeg, Int.reduceToNat, Nat.reduceMul]
    refine iteP_intro ?_ ?_ <;> intro hz
    · simp only [hz, firstL, if_true] at hf
      simp only [h5, h6, h7, hp, go_sem, Nat.reduceEqDiff, Nat.reduceAdd, Nat.reduceLeDiff, Int.reduceEq, Int.reduceLT, Int.reduceLE, Int.reduceAdd, Int.reduceSub, Int.reduceMul, Int.reduceNeg, Int.reduceToNat, Nat.reduceMul]
      rw [w64 (by omega) (by omega)]
      exact ⟨l.length - (i + 1), by omega, rfl, i + 1, by omega, rfl, by simp only [h5, go_sem, Nat.reduceEqDiff, Nat.reduceAdd, Nat.reduceLeDiff, Int.reduceEq, Int.reduceLT, Int.reduceLE, Int.reduceAdd, Int.reduceSub, Int.reduceMul, Int.reduceNeg, Int.reduceToNat, Nat.reduceMul], by simp only [h6, go_sem, Nat.reduceEqDiff, Nat.reduceAdd, Nat.reduceLeDiff, Int.reduceEq, Int.reduceLT, Int.reduceLE, Int.reduceAdd, Int.reduceSub, Int.reduceMul, Int.reduceNeg, Int.reduceToNat, Nat.reduceMul], by simp only [go_sem, Nat.reduceEqDiff, Nat.reduceAdd, Nat.reduceLeDiff, Int.reduceEq, Int.reduceLT, Int.reduceLE, Int.reduceAdd, Int.reduceSub, Int.reduceMul, Int.reduceNeg, Int.reduceToNat, Nat.reduceMul] <;> rfl, hf⟩
    · simp only [firstL, if_neg hz] at hf
      simp only [h5, h6, h7, hp, go_sem, Nat.reduceEqDiff, Nat.reduceAdd, Nat.reduceLeDiff, Int.reduceEq, Int.reduceLT, Int.reduceLE, Int.reduceAdd, Int.reduceSub, Int.reduceMul, Int.reduceNeg, Int.reduceToNat, Nat.reduceMul]
      rw [hf]
      exact hQ
  · have hi : i = l.length := by omega
    subst hi
    rw [List.drop_length] at hf
    rw [← hf] at hQ
    simp only [h5, h6, h7, go_sem, Nat.reduceEqDiff, Nat.reduceAdd, Nat.reduceLeDiff, Int.reduceEq, Int.reduceLT, Int.reduceLE, Int.reduceAdd, Int.reduceSub, Int.reduceMul, Int.reduceNeg, Int.reduceToNat, Nat.reduceMul]
    exact hQ
theorem v21 (h21 : tbl 21 = some (.code m21)) (p : Prop) [Decidable p] (e : Int) (H : AH) : Val tbl 21 [.bool (decide p), .int .i64 e] H (.int .i64 (if p then e else 0)) H := by
  refine Val.of_all fun Q hQ => ?_
  rw [rn_fun h21, k21]
  by_cases hp : p
  · rw [if_pos hp] at hQ
    simp only [hp, go_sem, Nat.reduceEqDiff, Nat.reduceAdd, Nat.reduceLeDiff, Int.reduceEq, Int.reduceLT, Int.reduceLE, Int.reduceAdd, Int.reduceSub, Int.reduceMul, Int.reduceNeg, Int.reduceToNat, Nat.reduceMul]
    exact hQ
  · rw [if_neg hp] at hQ
    simp only [hp, go_sem, Nat.reduceEqDiff, Nat.reduceAdd, Nat.reduceLeDiff, Int.reduceEq, Int.reduceLT, Int.reduceLE, Int.reduceAdd, Int.reduceSub, Int.reduceMul, Int.reduceNeg, Int.reduceToNat, Nat.reduceMul]
    exact hQ
theorem v20 (h21 : tbl 21 = some (.code m21)) (h20 : tbl 20 = some (.code m20)) (k n : List UInt8) (H : AH) : Val tbl 20 [.string (tx k), .string (tx n)] H (.int .i64 (if k.length = 32 ∧ n.length = 12 then 0 else 6)) H := by
  refine Val.of_all fun Q hQ => ?_
  rw [rn_fun h20, k20]
  have hv := fun p => v21 (tbl := tbl) h21 (p = true) 6
  have e32 : ((k.length : Int) = 32) ↔ k.length = 32 := by omega
  have e12 : ((n.length : Int) = 12) ↔ n.length = 12 := by omega
  have hT2 := v21 (tbl := tbl) h21 True 6
  have hF2 := v21 (tbl := tbl) h21 False 6
  rw [decide_true, if_pos trivial] at hT2
  rw [decide_false, if_neg (fun h => h)] at hF2
  simp only [tx_size, e32, go_sem, Nat.reduceEqDiff, Nat.reduceAdd, Nat.reduceLeDiff, Int.reduceEq, Int.reduceLT, Int.reduceLE, Int.reduceAdd, Int.reduceSub, Int.reduceMul, Int.reduceNeg, Int.reduceToNat, Nat.reduceMul]
  by_cases h1 : k.length = 32
  · by_cases h2 : n.length = 12
    · rw [if_pos ⟨h1, h2⟩] at hQ
      simp only [h1, h2, tx_size, e12, ↓(hF2 _).run, go_sem, Nat.reduceEqDiff, Nat.reduceAdd, Nat.reduceLeDiff, Int.reduceEq, Int.reduceLT, Int.reduceLE, Int.reduceAdd, Int.reduceSub, Int.reduceMul, Int.reduceNeg, Int.reduceToNat, Nat.reduceMul]
      exact hQ
    · rw [if_neg fun h => h2 h.2] at hQ
      simp only [h1, h2, tx_size, e12, ↓(hT2 _).run, go_sem, Nat.reduceEqDiff, Nat.reduceAdd, Nat.reduceLeDiff, Int.reduceEq, Int.reduceLT, Int.reduceLE, Int.reduceAdd, Int.reduceSub, Int.reduceMul, Int.reduceNeg, Int.reduceToNat, Nat.reduceMul]
      exact hQ
  · rw [if_neg fun h => h1 h.1] at hQ
    simp only [h1, ↓(hT2 _).run, go_sem, Nat.reduceEqDiff, Nat.reduceAdd, Nat.reduceLeDiff, Int.reduceEq, Int.reduceLT, Int.reduceLE, Int.reduceAdd, Int.reduceSub, Int.reduceMul, Int.reduceNeg, Int.reduceToNat, Nat.reduceMul]
    exact hQ
theorem v22 (h22 : tbl 22 = some (.code m22)) (l : List UInt8) (H : AH) : Val tbl 22 [.string (tx l)] H (.bool (decide (l.length ≤ 10000))) H := by
  refine Val.of_all fun Q hQ => ?_
  rw [rn_fun h22, k22]
  have e : ((l.length : Int) ≤ 10000) ↔ l.length ≤ 10000 := by omega
  simp only [tx_size, e, go_sem, Nat.reduceEqDiff, Nat.reduceAdd, Nat.reduceLeDiff, Int.reduceEq, Int.reduceLT, Int.reduceLE, Int.reduceAdd, Int.reduceSub, Int.reduceMul, Int.reduceNeg, Int.reduceToNat, Nat.reduceMul]
  exact hQ
theorem tx_nil : (⟨#[]⟩ : ByteArray) = tx [] := rfl
theorem v23 (h23 : tbl 23 = some (.code m23)) (s t : List UInt8) (e w : Int) (H : AH) : Val tbl 23 [.string (tx s), .int .i64 e, .string (tx t), .int .i64 w] H (.bool (if w = 0 then decide (s = t ∧ e = 0) else decide (s = [] ∧ e = w))) H := by
  refine Val.of_all fun Q hQ => ?_
  rw [rn_fun h23, k23]
  by_cases hw : w = 0
  · subst hw
    rw [if_pos rfl] at hQ
    by_cases hs : s = t
    · subst hs
      simp only [tx_inj, go_sem, Nat.reduceEqDiff, Nat.reduceAdd, Nat.reduceLeDiff, Int.reduceEq, Int.reduceLT, Int.reduceLE, Int.reduceAdd, Int.reduceSub, Int.reduceMul, Int.reduceNeg, Int.reduceToNat, Nat.reduceMul]
      exact leaf hQ (by simp) rfl
    · simp only [tx_inj, hs, go_sem, Nat.reduceEqDiff, Nat.reduceAdd, Nat.reduceLeDiff, Int.reduceEq, Int.reduceLT, Int.reduceLE, Int.reduceAdd, Int.reduceSub, Int.reduceMul, Int.reduceNeg, Int.reduceToNat, Nat.reduceMul]
      exact leaf hQ (by simp [hs]) rfl
  · rw [if_neg hw] at hQ
    by_cases hs : s = []
    · subst hs
      simp only [hw, tx_nil, tx_inj, go_sem, Nat.reduceEqDiff, Nat.reduceAdd, Nat.reduceLeDiff, Int.reduceEq, Int.reduceLT, Int.reduceLE, Int.reduceAdd, Int.reduceSub, Int.reduceMul, Int.reduceNeg, Int.reduceToNat, Nat.reduceMul]
      exact leaf hQ (by simp) rfl
    · simp only [hw, tx_nil, tx_inj, hs, go_sem, Nat.reduceEqDiff, Nat.reduceAdd, Nat.reduceLeDiff, Int.reduceEq, Int.reduceLT, Int.reduceLE, Int.reduceAdd, Int.reduceSub, Int.reduceMul, Int.reduceNeg, Int.reduceToNat, Nat.reduceMul]
      exact leaf hQ (by simp [hs]) rfl
end Go.Proofs.Ytildhljhbbhmmaa.AM
namespace Go.Proofs.Ytildhljhbbhmmaa.AM
open Go
set_option linter.all false
set_option maxRecDepth 10000
variable {tbl : Tbl} [hT : TMono tbl]

theorem zb_len {n : Nat} : (zb n).length = n := by simp [zb]
theorem zb_succ {n : Nat} : zb n ++ [0] = zb (n + 1) := by simp [zb, List.replicate_succ']
theorem v60 (h60 : tbl 60 = some (.code m60)) (l : List UInt8) (hl : l.length ≤ 4611686018427387) (H : AH) : Val tbl 60 [.string (tx l)] H (.string (tx (l ++ fillL l))) H := by
  refine Val.of_all fun Q hQ => ?_
  rw [rn_fun h60, k60]
  simp only [go_sem, Nat.reduceEqDiff, Nat.reduceAdd, Nat.reduceLeDiff, Int.reduceEq, Int.reduceLT, Int.reduceLE, Int.reduceAdd, Int.reduceSub, Int.reduceMul, Int.reduceNeg, Int.reduceToNat, Nat.reduceMul]
  refine rn_loop (fun m f H' => ∃ j : Nat, j ≤ (16 - l.length % 16) % 16 ∧ m = (16 - l.length % 16) % 16 - j ∧ f 0 = .string (tx (l ++ zb j)) ∧ H' = H.enter) ?_ (n := (16 - l.length % 16) % 16)
    ⟨0, by omega, by omega, by simp only [zb, List.replicate_zero, List.append_nil, go_sem, Nat.reduceEqDiff, Nat.reduceAdd, Nat.reduceLeDiff, Int.reduceEq, Int.reduceLT, Int.reduceLE, Int.reduceAdd, Int.reduceSub, Int.reduceMul, Int.reduceNeg, Int.reduceToNat, Nat.reduceMul], rfl⟩
  rintro m f H' ⟨j, hj, rfl, f0, rfl⟩
  have hlen : (l ++ zb j).length = l.length + j := by rw [List.length_append, zb_len]
  have e1 : ((l.length + j : Nat) : Int).tmod 16 = (((l.length + j) % 16 : Nat) : Int) := by rw [Int.tmod_eq_emod_of_nonneg (by omega)]; omega
  have e2 : ((((l.length + j) % 16 : Nat) : Int) = 0) ↔ (l.length + j) % 16 = 0 := by omega
  have hone : (⟨#[0]⟩ : ByteArray) = tx [0] := rfl
  have hsz : (tx (l ++ zb j)).size + (tx [0]).size ≤ 9223372036854775807 := by
    rw [tx_size, tx_size, hlen]
    have : [(0 : UInt8)].length = 1 := rfl
    omega
  by_cases h : (l.length + j) % 16 = 0
  · have hje : j = (16 - l.length % 16) % 16 := by omega
    simp only [f0, tx_size, hlen, e1, e2, h, go_sem, Nat.reduceEqDiff, Nat.reduceAdd, Nat.reduceLeDiff, Int.reduceEq, Int.reduceLT, Int.reduceLE, Int.reduceAdd, Int.reduceSub, Int.reduceMul, Int.reduceNeg, Int.reduceToNat, Nat.reduceMul]
    rw [hje]
    exact hQ
  · simp only [f0, tx_size, hlen, e1, e2, h, hone, hsz, tx_cat, go_sem, Nat.reduceEqDiff, Nat.reduceAdd, Nat.reduceLeDiff, Int.reduceEq, Int.reduceLT, Int.reduceLE, Int.reduceAdd, Int.reduceSub, Int.reduceMul, Int.reduceNeg, Int.reduceToNat, Nat.reduceMul]
    rw [if_pos (by omega)]
    refine ⟨(16 - l.length % 16) % 16 - (j + 1), by omega, j + 1, by omega, rfl, by simp only [tx_cat, List.append_assoc, zb_succ, go_sem, Nat.reduceEqDiff, Nat.reduceAdd, Nat.reduceLeDiff, Int.reduceEq, Int.reduceLT, Int.reduceLE, Int.reduceAdd, Int.reduceSub, Int.reduceMul, Int.reduceNeg, Int.reduceToNat, Nat.reduceMul], rfl⟩
theorem b8_congr {x y : Int} (h : x % 256 = y % 256) : b8 x = b8 y := by
  unfold b8; rw [h]
theorem shr63 {n : Int} {j : Nat} (hj : j ≤ 63) : shiftK .shr .i64 n (j : Int) = n / 2 ^ j := by
  simp only [shiftK, Int.toNat_natCast]
  rw [show IntKind.i64.bits = 64 from rfl, show Nat.min j 64 = j from Nat.min_eq_left (by omega), Int.fdiv_eq_ediv_of_nonneg _ (by
    have : (0 : Int) ≤ ((2 ^ j : Nat) : Int) := Int.natCast_nonneg _
    simpa using this)]
theorem le8_eq {n : Int} : le8 n = little (IntKind.wrap .u32 n) ++ little (IntKind.wrap .u32 (shiftK .shr .i64 n 32)) := by
  have h := fun j (hj : j ≤ 63) => shr63 (n := n) (j := j) hj
  have g1 := fun c => shr32 c 8 (by omega)
  have g2 := fun c => shr32 c 16 (by omega)
  have g3 := fun c => shr32 c 24 (by omega)
  have e : le8 n = [b8 (shiftK .shr .i64 n ((8 * 0 : Nat) : Int)), b8 (shiftK .shr .i64 n ((8 * 1 : Nat) : Int)), b8 (shiftK .shr .i64 n ((8 * 2 : Nat) : Int)), b8 (shiftK .shr .i64 n ((8 * 3 : Nat) : Int)), b8 (shiftK .shr .i64 n ((8 * 4 : Nat) : Int)), b8 (shiftK .shr .i64 n ((8 * 5 : Nat) : Int)), b8 (shiftK .shr .i64 n ((8 * 6 : Nat) : Int)), b8 (shiftK .shr .i64 n ((8 * 7 : Nat) : Int))] := rfl
  rw [e, h _ (by omega), h _ (by omega), h _ (by omega), h _ (by omega), h _ (by omega), h _ (by omega), h _ (by omega), h _ (by omega)]
  have h32 := h 32 (by omega)
  rw [show ((32 : Nat) : Int) = 32 from rfl] at h32
  rw [h32]
  simp only [little]
  rw [show (8 : Int) = ((8 : Nat) : Int) from rfl, show (16 : Int) = ((16 : Nat) : Int) from rfl, show (24 : Int) = ((24 : Nat) : Int) from rfl, g1, g2, g3, g1, g2, g3, IntKind.wrap_u32, IntKind.wrap_u32]
  simp only [List.cons_append, List.nil_append]
  rw [show (2 : Int) ^ (8 * 0) = 1 from rfl, show (2 : Int) ^ (8 * 1) = 256 from rfl, show (2 : Int) ^ (8 * 2) = 65536 from rfl, show (2 : Int) ^ (8 * 3) = 16777216 from rfl, show (2 : Int) ^ (8 * 4) = 4294967296 from rfl, show (2 : Int) ^ (8 * 5) = 1099511627776 from rfl, show (2 : Int) ^ (8 * 6) = 281474976710656 from rfl, show (2 : Int) ^ (8 * 7) = 72057594037927936 from rfl]
  rw [b8_congr (x := n / 1) (y := n % 4294967296) (by omega), b8_congr (x := n / 256) (y := n % 4294967296 / 256) (by omega), b8_congr (x := n / 65536) (y := n % 4294967296 / 65536) (by omega), b8_congr (x := n / 16777216) (y := n % 4294967296 / 16777216) (by omega),
    b8_congr (x := n / 4294967296) (y := n / 4294967296 % 4294967296) (by omega), b8_congr (x := n / 1099511627776) (y := n / 4294967296 % 4294967296 / 256) (by omega), b8_congr (x := n / 281474976710656) (y := n / 4294967296 % 4294967296 / 65536) (by omega), b8_congr (x := n / 72057594037927936) (y := n / 4294967296 % 4294967296 / 16777216) (by omega)]
theorem v61 (h91 : tbl 91 = some (.code m91)) (h61 : tbl 61 = some (.code m61)) (n : Int) (H : AH) : Val tbl 61 [.int .i64 n] H (.string (tx (le8 n))) H := by
  refine Val.of_all fun Q hQ => ?_
  rw [rn_fun h61, k61]
  have a1 := v91 (tbl := tbl) h91 (IntKind.wrap .u32 n)
  have a2 := v91 (tbl := tbl) h91 (IntKind.wrap .u32 (shiftK .shr .i64 n 32))
  have hsz : (tx (little (IntKind.wrap .u32 n))).size + (tx (little (IntKind.wrap .u32 (shiftK .shr .i64 n 32)))).size ≤ 9223372036854775807 := by
    rw [tx_size, tx_size, little_len, little_len]; omega
  simp only [↓(a1 _).run, ↓(a2 _).run, hsz, tx_cat, ← le8_eq, go_sem, Nat.reduceEqDiff, Nat.reduceAdd, Nat.reduceLeDiff, Int.reduceEq, Int.reduceLT, Int.reduceLE, Int.reduceAdd, Int.reduceSub, Int.reduceMul, Int.reduceNeg, Int.reduceToNat, Nat.reduceMul]
  exact hQ
theorem v25 (R : RefT tbl) (k n e t : List UInt8) (hk : k.length = 32) (hn : n.length = 12) (he : e.length ≤ 1048576) (ht : t.length ≤ 1048576) (H : AH) :
    Val tbl 25 [.string (tx k), .string (tx n), .string (tx e), .string (tx t)] H (.string (tx (sealL k n e t))) H := by
  refine Val.of_all fun Q hQ => ?_
  rw [rn_fun R.h25, k25]
  have hst := v31 (tbl := tbl) R.h94 R.h93 R.h91 R.h92 R.h59 R.h65 R.h69 R.h31 k n 1 hk hn (by omega) t (by omega)
  have hsl : (streamL k n 1 t).length = t.length := streamL_len
  have hch := v59 (tbl := tbl) R.h94 R.h93 R.h91 R.h92 R.h59 k n 0 hk hn (by omega)
  have hs32 : 32 ≤ (tx (chacha k n 0)).size := by rw [tx_size, chacha_len]; omega
  have hx : (tx (chacha k n 0)).extract 0 32 = tx ((chacha k n 0).take 32) := by rw [tx_extract]; rfl
  have f1 := v60 (tbl := tbl) R.h60 e (by omega)
  have f2 := v60 (tbl := tbl) R.h60 (streamL k n 1 t) (by omega)
  have l1 := fillL_len (l := e)
  have l2 := fillL_len (l := streamL k n 1 t)
  have g1 := v61 (tbl := tbl) R.h91 R.h61 (e.length : Int)
  have g2 := v61 (tbl := tbl) R.h91 R.h61 ((streamL k n 1 t).length : Int)
  have hm := msgL_len (e := e) (s := streamL k n 1 t)
  have hmsg : e ++ fillL e ++ (streamL k n 1 t ++ fillL (streamL k n 1 t)) ++ le8 e.length ++ le8 (streamL k n 1 t).length = msgL e (streamL k n 1 t) := by simp [msgL]
  have htag := v30t (tbl := tbl) R.h30 R.h64 R.h65 R.h66 R.h67 R.h68 ((chacha k n 0).take 32) (msgL e (streamL k n 1 t)) (by rw [List.length_take, chacha_len]; rfl) (by omega)
  have s1 : (tx (e ++ fillL e)).size + (tx (streamL k n 1 t ++ fillL (streamL k n 1 t))).size ≤ 9223372036854775807 := by
    rw [tx_size, tx_size, List.length_append, List.length_append]; omega
  have s2 : (tx (e ++ fillL e ++ (streamL k n 1 t ++ fillL (streamL k n 1 t)))).size + (tx (le8 e.length)).size ≤ 9223372036854775807 := by
    rw [tx_size, tx_size, List.length_append, List.length_append, List.length_append, le8_len]; omega
  have s3 : (tx (e ++ fillL e ++ (streamL k n 1 t ++ fillL (streamL k n 1 t)) ++ le8 e.length)).size + (tx (le8 (streamL k n 1 t).length)).size ≤ 9223372036854775807 := by
    rw [tx_size, tx_size, List.length_append, List.length_append, List.length_append, List.length_append, le8_len, le8_len]; omega
  have s4 : (tx (streamL k n 1 t)).size + (tx (tagL ((chacha k n 0).take 32) (msgL e (streamL k n 1 t)))).size ≤ 9223372036854775807 := by
    rw [tx_size, tx_size, tagL_len]; omega
  simp only [↓(hst _).run, ↓(hch _).run, hs32, hx, ↓(f1 _).run, ↓(f2 _).run, s1, tx_cat, go_sem, Nat.reduceEqDiff, Nat.reduceAdd, Nat.reduceLeDiff, Int.reduceEq, Int.reduceLT, Int.reduceLE, Int.reduceAdd, Int.reduceSub, Int.reduceMul, Int.reduceNeg, Int.reduceToNat, Nat.reduceMul]
  rw [tx_size, tx_size] at s2 s3 s4
  simp only [tx_size, ↓(g1 _).run, ↓(g2 _).run, s2, s3, hx, tx_cat, hmsg, ↓(htag _).run, s4, go_sem, Nat.reduceEqDiff, Nat.reduceAdd, Nat.reduceLeDiff, Int.reduceEq, Int.reduceLT, Int.reduceLE, Int.reduceAdd, Int.reduceSub, Int.reduceMul, Int.reduceNeg, Int.reduceToNat, Nat.reduceMul]
  exact hQ
end Go.Proofs.Ytildhljhbbhmmaa.AM
namespace Go.Proofs.Ytildhljhbbhmmaa.AM
open Go
set_option linter.all false
set_option maxRecDepth 10000
variable {tbl : Tbl} [hT : TMono tbl]

/-- The error of Stream. -/
def keyW (k n : List UInt8) : Int := if k.length = 32 ∧ n.length = 12 then 0 else 6
def strW (k n : List UInt8) (c : Int) (t : List UInt8) : Int :=
  if k.length = 32 ∧ n.length = 12 then (if 0 ≤ c ∧ c ≤ 4294967295 then (if t.length ≤ 1048576 then (if c + ((t.length : Int) + 63) / 64 ≤ 4294967296 then 0 else 7) else 8) else 7) else 6
def tagW (k t : List UInt8) : Int := if k.length = 32 then (if t.length ≤ 2097152 then 0 else 8) else 6
theorem v28 (T : SealT tbl) (h28 : tbl 28 = some (.code m28)) (k n : List UInt8) (c : Int) (t : List UInt8) (H : AH) :
    Val tbl 28 [.string (tx k), .string (tx n), .int .i64 c, .string (tx t)] H (if strW k n c t = 0 then .tuple #[.string (tx (streamL k n c t)), .int .i64 0] else .tuple #[.string ⟨#[]⟩, .int .i64 (strW k n c t)]) H := by
  refine Val.of_all fun Q hQ => ?_
  rw [rn_fun h28, k28]
  have h5 := v56 T k n H.enter
  simp only [↓h5.run, go_sem, Nat.reduceEqDiff, Nat.reduceAdd, Nat.reduceLeDiff, Int.reduceEq, Int.reduceLT, Int.reduceLE, Int.reduceAdd, Int.reduceSub, Int.reduceMul, Int.reduceNeg, Int.reduceToNat, Nat.reduceMul]
  unfold strW at hQ
  by_cases hkn : k.length = 32 ∧ n.length = 12
  · rw [if_pos hkn] at hQ
    simp only [hkn, and_self, if_true, go_sem, Nat.reduceEqDiff, Nat.reduceAdd, Nat.reduceLeDiff, Int.reduceEq, Int.reduceLT, Int.reduceLE, Int.reduceAdd, Int.reduceSub, Int.reduceMul, Int.reduceNeg, Int.reduceToNat, Nat.reduceMul]
    by_cases c0 : c < 0
    · rw [if_neg (by omega), if_neg (by omega)] at hQ
      simp only [c0, go_sem, Nat.reduceEqDiff, Nat.reduceAdd, Nat.reduceLeDiff, Int.reduceEq, Int.reduceLT, Int.reduceLE, Int.reduceAdd, Int.reduceSub, Int.reduceMul, Int.reduceNeg, Int.reduceToNat, Nat.reduceMul]
      exact hQ
    · by_cases c1 : 4294967295 < c
      · rw [if_neg (by omega), if_neg (by omega)] at hQ
        simp only [c0, c1, go_sem, Nat.reduceEqDiff, Nat.reduceAdd, Nat.reduceLeDiff, Int.reduceEq, Int.reduceLT, Int.reduceLE, Int.reduceAdd, Int.reduceSub, Int.reduceMul, Int.reduceNeg, Int.reduceToNat, Nat.reduceMul]
        exact hQ
      · rw [if_pos (show 0 ≤ c ∧ c ≤ 4294967295 by omega)] at hQ
        have e2 : ((1048576 : Int) < t.length) ↔ ¬ t.length ≤ 1048576 := by omega
        simp only [c0, c1, tx_size, e2, go_sem, Nat.reduceEqDiff, Nat.reduceAdd, Nat.reduceLeDiff, Int.reduceEq, Int.reduceLT, Int.reduceLE, Int.reduceAdd, Int.reduceSub, Int.reduceMul, Int.reduceNeg, Int.reduceToNat, Nat.reduceMul]
        by_cases ht : t.length ≤ 1048576
        · rw [if_pos ht] at hQ
          have w1 := w64 (x := (t.length : Int) + 63) (by omega) (by omega)
          have e1 : ((t.length : Int) + 63).tdiv 64 = ((t.length : Int) + 63) / 64 := by rw [Int.tdiv_eq_ediv_of_nonneg (by omega)]
          have w2 := w64 (x := ((t.length : Int) + 63) / 64) (by omega) (by omega)
          have w3 := w64 (x := c + ((t.length : Int) + 63) / 64) (by omega) (by omega)
          simp only [ht, c0, c1, tx_size, e2, w1, e1, w2, w3, go_sem, Nat.reduceEqDiff, Nat.reduceAdd, Nat.reduceLeDiff, Int.reduceEq, Int.reduceLT, Int.reduceLE, Int.reduceAdd, Int.reduceSub, Int.reduceMul, Int.reduceNeg, Int.reduceToNat, Nat.reduceMul]
          by_cases h4 : 4294967296 < c + ((t.length : Int) + 63) / 64
          · rw [if_neg (show ¬ c + ((t.length : Int) + 63) / 64 ≤ 4294967296 by omega), if_neg (by omega)] at hQ
            simp only [h4, go_sem, Nat.reduceEqDiff, Nat.reduceAdd, Nat.reduceLeDiff, Int.reduceEq, Int.reduceLT, Int.reduceLE, Int.reduceAdd, Int.reduceSub, Int.reduceMul, Int.reduceNeg, Int.reduceToNat, Nat.reduceMul]
            exact hQ
          · rw [if_pos (show c + ((t.length : Int) + 63) / 64 ≤ 4294967296 by omega), if_pos rfl] at hQ
            have hst := v62 (tbl := tbl) T.h121 T.h114 T.h96 T.h95 T.h62 k n c hkn.1 hkn.2 (by omega) t (by omega) (by omega)
            have w4 := u32w (n := c) (by omega) (by omega)
            simp only [h4, w4, ↓(hst _).run, go_sem, Nat.reduceEqDiff, Nat.reduceAdd, Nat.reduceLeDiff, Int.reduceEq, Int.reduceLT, Int.reduceLE, Int.reduceAdd, Int.reduceSub, Int.reduceMul, Int.reduceNeg, Int.reduceToNat, Nat.reduceMul]
            exact hQ
        · rw [if_neg ht, if_neg (by omega)] at hQ
          simp only [ht, c0, c1, tx_size, e2, go_sem, Nat.reduceEqDiff, Nat.reduceAdd, Nat.reduceLeDiff, Int.reduceEq, Int.reduceLT, Int.reduceLE, Int.reduceAdd, Int.reduceSub, Int.reduceMul, Int.reduceNeg, Int.reduceToNat, Nat.reduceMul]
          exact hQ
  · rw [if_neg hkn, if_neg (by omega)] at hQ
    simp only [hkn, if_false, go_sem, Nat.reduceEqDiff, Nat.reduceAdd, Nat.reduceLeDiff, Int.reduceEq, Int.reduceLT, Int.reduceLE, Int.reduceAdd, Int.reduceSub, Int.reduceMul, Int.reduceNeg, Int.reduceToNat, Nat.reduceMul]
    exact hQ
theorem v29a (T : SealT tbl) (h29 : tbl 29 = some (.code m29)) (k m : List UInt8) (H : AH) :
    Val tbl 29 [.string (tx k), .string (tx m)] H (if tagW k m = 0 then .tuple #[.string (tx (tagL k m)), .int .i64 0] else .tuple #[.string ⟨#[]⟩, .int .i64 (tagW k m)]) H := by
  unfold tagW
  by_cases hk : k.length = 32
  · by_cases hm : m.length ≤ 2097152
    · rw [if_pos hk, if_pos hm, if_pos rfl]
      exact v29 (fun k m hk hm H => v63 T.h96 T.h97 T.h98 T.h99 T.h115 T.h116 T.h63 k m hk (by omega) H) h29 k m hk (by omega) H
    · rw [if_pos hk, if_neg hm, if_neg (by omega)]
      refine Val.of_all fun Q hQ => ?_
      rw [rn_fun h29, k29]
      have e1 : ((k.length : Int) = 32) ↔ True := by simp [hk]
      have e2 : ((2097152 : Int) < m.length) ↔ ¬ m.length ≤ 2097152 := by omega
      simp only [tx_size, e1, go_sem, Nat.reduceEqDiff, Nat.reduceAdd, Nat.reduceLeDiff, Int.reduceEq, Int.reduceLT, Int.reduceLE, Int.reduceAdd, Int.reduceSub, Int.reduceMul, Int.reduceNeg, Int.reduceToNat, Nat.reduceMul]
      simp only [tx_size, e2, hm, go_sem, Nat.reduceEqDiff, Nat.reduceAdd, Nat.reduceLeDiff, Int.reduceEq, Int.reduceLT, Int.reduceLE, Int.reduceAdd, Int.reduceSub, Int.reduceMul, Int.reduceNeg, Int.reduceToNat, Nat.reduceMul]
      exact hQ
  · rw [if_neg hk, if_neg (by omega)]
    refine Val.of_all fun Q hQ => ?_
    rw [rn_fun h29, k29]
    have e1 : ((k.length : Int) = 32) ↔ False := ⟨fun h => hk (by omega), fun h => h.elim⟩
    simp only [tx_size, e1, go_sem, Nat.reduceEqDiff, Nat.reduceAdd, Nat.reduceLeDiff, Int.reduceEq, Int.reduceLT, Int.reduceLE, Int.reduceAdd, Int.reduceSub, Int.reduceMul, Int.reduceNeg, Int.reduceToNat, Nat.reduceMul]
    exact hQ
theorem strW_first {k n : List UInt8} {c : Int} {t : List UInt8} (ht : t.length ≤ 9223372036854775807) (d : Int) (hd : d = if 4294967296 < IntKind.wrap .i64 (c + IntKind.wrap .i64 ((IntKind.wrap .i64 ((t.length : Int) + 63)).tdiv 64)) then 7 else 0) :
    firstL [if k.length = 32 ∧ n.length = 12 then 0 else 6, if ¬ (0 ≤ c ∧ c ≤ 4294967295) then 7 else 0, if (1048576 : Int) < t.length then 8 else 0, d] = strW k n c t := by
  subst hd
  unfold strW
  by_cases h1 : k.length = 32 ∧ n.length = 12
  · by_cases h2 : 0 ≤ c ∧ c ≤ 4294967295
    · by_cases h3 : t.length ≤ 1048576
      · have w1 := w64 (x := (t.length : Int) + 63) (by omega) (by omega)
        have e1 : ((t.length : Int) + 63).tdiv 64 = ((t.length : Int) + 63) / 64 := by rw [Int.tdiv_eq_ediv_of_nonneg (by omega)]
        have w2 := w64 (x := ((t.length : Int) + 63) / 64) (by omega) (by omega)
        have w3 := w64 (x := c + ((t.length : Int) + 63) / 64) (by omega) (by omega)
        rw [w1, e1, w2, w3]
        have h3' : ¬ (1048576 : Int) < t.length := by omega
        by_cases h4 : c + ((t.length : Int) + 63) / 64 ≤ 4294967296
        · have h4' : ¬ (4294967296 < c + ((t.length : Int) + 63) / 64) := by omega
          simp [firstL, h1, h2, h3, h3', h4, h4']
        · have h4' : (4294967296 < c + ((t.length : Int) + 63) / 64) := by omega
          simp [firstL, h1, h2, h3, h3', h4, h4']
      · have h3' : (1048576 : Int) < t.length := by omega
        simp [firstL, h1, h2, h3, h3']
    · simp [firstL, h1, h2]
  · simp [firstL, h1]
theorem tagW_first {k t : List UInt8} : firstL [if ¬ k.length = 32 then 6 else 0, if (2097152 : Int) < t.length then 8 else 0] = tagW k t := by
  unfold tagW
  by_cases h1 : k.length = 32
  · by_cases h2 : t.length ≤ 2097152
    · have h2' : ¬ (2097152 : Int) < t.length := by omega
      simp [firstL, h1, h2, h2']
    · have h2' : (2097152 : Int) < t.length := by omega
      simp [firstL, h1, h2, h2']
  · simp [firstL, h1]
end Go.Proofs.Ytildhljhbbhmmaa.AM
namespace Go.Proofs.Ytildhljhbbhmmaa.AM
open Go
set_option linter.all false
set_option maxRecDepth 10000
variable {tbl : Tbl} [hT : TMono tbl]

theorem streamL_at {k n : List UInt8} {c : Int} {t : List UInt8} {j : Nat} (h : j < t.length) : gb (streamL k n c t) j = sx k n c t j := by
  simp [streamL, gb, h]
/-- The stream twice is nothing. -/
theorem streamL_twice {k n : List UInt8} {c : Int} {t : List UInt8} : streamL k n c (streamL k n c t) = t := by
  apply List.ext_getElem
  · simp [streamL]
  · intro j h1 h2
    have hl : j < t.length := h2
    have e1 : (streamL k n c (streamL k n c t))[j] = sx k n c (streamL k n c t) j := by simp [streamL]
    rw [e1, sx, streamL_at hl, sx, UInt8.xor_assoc, UInt8.xor_self, UInt8.xor_zero]
    simp [gb, hl]
/-- What is opened of a sealed block. -/
def tagOk (k n e t : List UInt8) : Prop := 16 ≤ t.length ∧ btag k n e (t.take (t.length - 16)) = t.drop (t.length - 16)
instance {k n e t : List UInt8} : Decidable (tagOk k n e t) := by unfold tagOk; infer_instance
def bodyL (k n t : List UInt8) : List UInt8 := streamL k n 1 (t.take (t.length - 16))
theorem tagOk_seal {k n e t : List UInt8} : tagOk k n e (sealL k n e t) ∧ bodyL k n (sealL k n e t) = t := by
  have hl := sealL_len (k := k) (n := n) (e := e) (t := t)
  have hs : (streamL k n 1 t).length = t.length := streamL_len
  have e1 : (sealL k n e t).take ((sealL k n e t).length - 16) = streamL k n 1 t := by
    rw [hl, sealL, List.take_append_of_le_length (by omega), List.take_of_length_le (by omega)]
  have e2 : (sealL k n e t).drop ((sealL k n e t).length - 16) = btag k n e (streamL k n 1 t) := by
    rw [hl, sealL, List.drop_append_of_le_length (by omega), List.drop_of_length_le (by omega), List.nil_append]
  refine ⟨⟨by omega, by rw [e1, e2]⟩, ?_⟩
  unfold bodyL
  rw [e1, streamL_twice]
/-- The reference's test is the tag's. -/
theorem seal_body {k n e t : List UInt8} (h : 16 ≤ t.length) : sealL k n e (bodyL k n t) = t ↔ tagOk k n e t := by
  unfold sealL bodyL tagOk
  rw [streamL_twice]
  constructor
  · intro he
    refine ⟨h, ?_⟩
    have hd := congrArg (List.drop (t.length - 16)) he
    rw [List.drop_append_of_le_length (by simp), List.drop_of_length_le (by simp), List.nil_append] at hd
    exact hd
  · intro he
    rw [he.2]
    exact List.take_append_drop _ _
theorem eqAt_bc {X Y : List UInt8} : ∀ l : List Nat, (∀ i ∈ l, i < X.length ∧ i < Y.length) → eqAt (bc X) (bc Y) (l.map fun i => (i, TK.int)) = some (l.all fun i => gb X i == gb Y i) := by
  intro l
  induction l with
  | nil => intro _; rfl
  | cons i l ih =>
    intro h
    obtain ⟨h1, h2⟩ := h i (by simp)
    have e1 : (bc X)[i]? = some (.int .u8 ((gb X i).toNat : Int)) := by simp [bc, U8, gb, h1]
    have e2 : (bc Y)[i]? = some (.int .u8 ((gb Y i).toNat : Int)) := by simp [bc, U8, gb, h2]
    simp only [List.map_cons, eqAt, e1, e2, cellEq, if_true, ih fun j hj => h j (by simp [hj]), List.all_cons]
    congr 2
    have : (((gb X i).toNat : Int) = (gb Y i).toNat) ↔ gb X i = gb Y i := by
      constructor
      · intro h; exact UInt8.toNat_inj.1 (by omega)
      · intro h; rw [h]
    by_cases hg : gb X i = gb Y i
    · simp [hg]
    · have : ¬ (((gb X i).toNat : Int) = (gb Y i).toNat) := fun h => hg (this.1 h)
      simp [hg, this]
theorem eqAt16 {X Y : List UInt8} (hX : X.length = 16) (hY : Y.length = 16) : eqAt (bc X) (bc Y) [(0, .int), (1, .int), (2, .int), (3, .int), (4, .int), (5, .int), (6, .int), (7, .int), (8, .int), (9, .int), (10, .int), (11, .int), (12, .int), (13, .int), (14, .int), (15, .int)] = some (decide (X = Y)) := by
  have h := eqAt_bc (X := X) (Y := Y) (List.range 16) (fun i hi => by rw [List.mem_range] at hi; omega)
  have e : (List.range 16).map (fun i => (i, TK.int)) = [(0, .int), (1, .int), (2, .int), (3, .int), (4, .int), (5, .int), (6, .int), (7, .int), (8, .int), (9, .int), (10, .int), (11, .int), (12, .int), (13, .int), (14, .int), (15, .int)] := rfl
  rw [e] at h
  rw [h]
  congr 1
  by_cases hXY : X = Y
  · subst hXY; simp
  · have : ¬ (∀ i, i < 16 → gb X i = gb Y i) := by
      intro hall
      apply hXY
      apply List.ext_getElem (by omega)
      intro i h1 h2
      have := hall i (by omega)
      simpa [gb, h1, h2] using this
    rw [decide_eq_false hXY]
    rw [Bool.eq_false_iff]
    intro h
    apply this
    intro i hi
    rw [List.all_eq_true] at h
    have := h i (List.mem_range.2 hi)
    simpa using this
theorem str_p1 {s : ByteArray} : p1 (.string s) = true := rfl
theorem v58 (T : SealT tbl) (h58 : tbl 58 = some (.code m58)) (k n e t : List UInt8) (hk : k.length = 32) (hn : n.length = 12) (he : e.length ≤ 1048576) (ht : t.length ≤ 1048592) (H : AH) :
    Val tbl 58 [.string (tx k), .string (tx n), .string (tx e), .string (tx t)] H (if tagOk k n e t then .tuple #[.string (tx (bodyL k n t)), .bool true] else .tuple #[.string ⟨#[]⟩, .bool false]) H := by
  refine Val.of_all fun Q hQ => ?_
  rw [rn_fun h58, k58]
  have w1 := w64 (x := (t.length : Int) - 16) (by omega) (by omega)
  by_cases h16 : (t.length : Int) - 16 < 0
  · rw [if_neg fun h => by have := h.1; omega] at hQ
    simp only [tx_size, w1, h16, go_sem, Nat.reduceEqDiff, Nat.reduceAdd, Nat.reduceLeDiff, Int.reduceEq, Int.reduceLT, Int.reduceLE, Int.reduceAdd, Int.reduceSub, Int.reduceMul, Int.reduceNeg, Int.reduceToNat, Nat.reduceMul]
    exact hQ
  · have h0 : (0 : Int) ≤ (t.length : Int) - 16 := by omega
    have hnat : ((t.length : Int) - 16).toNat = t.length - 16 := by omega
    have hle : t.length - 16 ≤ t.length := by omega
    have x1 : (tx t).extract 0 (t.length - 16) = tx (t.take (t.length - 16)) := by rw [tx_extract]; rfl
    have x2 : (tx t).extract (t.length - 16) t.length = tx (t.drop (t.length - 16)) := by rw [tx_extract, List.take_length]
    have hv := v90 T k n e (t.take (t.length - 16)) hk hn he (by rw [List.length_take]; omega) AH.lone
    have hdl : (t.drop (t.length - 16)).length = 16 := by rw [List.length_drop]; omega
    have hlim : (t.drop (t.length - 16)).length ≤ 140737488355328 := by omega
    have hu8 : (⟨bc (t.drop (t.length - 16)), 1, false⟩ : Blk) = u8r (t.drop (t.length - 16)) := rfl
    have htk : List.take 16 (u8r (t.drop (t.length - 16))).cells = bc (t.drop (t.length - 16)) := List.take_of_length_le (by rw [u8r_len]; omega)
    have h1616 : 16 ≤ 16 := Nat.le_refl _
    have heq := eqAt16 (X := btag k n e (t.take (t.length - 16))) (Y := t.drop (t.length - 16)) btag_len hdl
    simp only [tx_size, w1, h16, h0, hnat, hle, x1, x2, byteCells_eq, tx_data, hdl, hlim, hu8, loneP_some, str_p1, ↓hv.run, agg_bc, htk, h1616, u8r_len, go_sem, Nat.reduceEqDiff, Nat.reduceAdd, Nat.reduceLeDiff, Int.reduceEq, Int.reduceLT, Int.reduceLE, Int.reduceAdd, Int.reduceSub, Int.reduceMul, Int.reduceNeg, Int.reduceToNat, Nat.reduceMul]
    have hagg : aggV true [(0, .int), (1, .int), (2, .int), (3, .int), (4, .int), (5, .int), (6, .int), (7, .int), (8, .int), (9, .int), (10, .int), (11, .int), (12, .int), (13, .int), (14, .int), (15, .int)] (.agg (bc (btag k n e (t.take (t.length - 16)))).toArray) (.agg (bc (t.drop (t.length - 16))).toArray) = some (.bool (!decide (btag k n e (t.take (t.length - 16)) = t.drop (t.length - 16)))) := by
      simp only [aggV, List.toList_toArray, heq, if_true]
    simp only [hagg, go_sem, Nat.reduceEqDiff, Nat.reduceAdd, Nat.reduceLeDiff, Int.reduceEq, Int.reduceLT, Int.reduceLE, Int.reduceAdd, Int.reduceSub, Int.reduceMul, Int.reduceNeg, Int.reduceToNat, Nat.reduceMul]
    by_cases hg : btag k n e (t.take (t.length - 16)) = t.drop (t.length - 16)
    · rw [if_pos (show tagOk k n e t from ⟨by omega, hg⟩)] at hQ
      have hst := v62 (tbl := tbl) T.h121 T.h114 T.h96 T.h95 T.h62 k n 1 hk hn (by omega) (t.take (t.length - 16)) (by rw [List.length_take]; omega) (by rw [List.length_take]; omega)
      simp only [hg, tx_size, h0, hnat, hle, x1, ↓(hst _).run, go_sem, Nat.reduceEqDiff, Nat.reduceAdd, Nat.reduceLeDiff, Int.reduceEq, Int.reduceLT, Int.reduceLE, Int.reduceAdd, Int.reduceSub, Int.reduceMul, Int.reduceNeg, Int.reduceToNat, Nat.reduceMul]
      exact hQ
    · rw [if_neg (show ¬ tagOk k n e t from fun h => hg h.2)] at hQ
      simp only [hg, go_sem, Nat.reduceEqDiff, Nat.reduceAdd, Nat.reduceLeDiff, Int.reduceEq, Int.reduceLT, Int.reduceLE, Int.reduceAdd, Int.reduceSub, Int.reduceMul, Int.reduceNeg, Int.reduceToNat, Nat.reduceMul]
      exact hQ
theorem v24 (T : SealT tbl) (h58 : tbl 58 = some (.code m58)) (h24 : tbl 24 = some (.code m24)) (k n e t : List UInt8) (hk : k.length = 32) (hn : n.length = 12) (he : e.length ≤ 1048576) (ht : t.length ≤ 1048592) (H : AH) :
    Val tbl 24 [.string (tx k), .string (tx n), .string (tx e), .string (tx t)] H (if tagOk k n e t then .tuple #[.string (tx (bodyL k n t)), .int .i64 0] else .tuple #[.string ⟨#[]⟩, .int .i64 19]) H := by
  refine Val.of_all fun Q hQ => ?_
  rw [rn_fun h24, k24]
  have h5 := v56 T k n H.enter
  have hkn : k.length = 32 ∧ n.length = 12 := ⟨hk, hn⟩
  rw [if_pos hkn] at h5
  have e1 : ((1048576 : Int) < e.length) ↔ False := ⟨fun h => by omega, fun h => h.elim⟩
  have e2 : ((1048592 : Int) < t.length) ↔ False := ⟨fun h => by omega, fun h => h.elim⟩
  have hv := v58 T h58 k n e t hk hn he ht
  simp only [↓h5.run, tx_size, e1, e2, go_sem, Nat.reduceEqDiff, Nat.reduceAdd, Nat.reduceLeDiff, Int.reduceEq, Int.reduceLT, Int.reduceLE, Int.reduceAdd, Int.reduceSub, Int.reduceMul, Int.reduceNeg, Int.reduceToNat, Nat.reduceMul]
  by_cases hg : tagOk k n e t
  · rw [if_pos hg] at hQ
    simp only [hg, if_true] at hv
    simp only [↓(hv _).run, go_sem, Nat.reduceEqDiff, Nat.reduceAdd, Nat.reduceLeDiff, Int.reduceEq, Int.reduceLT, Int.reduceLE, Int.reduceAdd, Int.reduceSub, Int.reduceMul, Int.reduceNeg, Int.reduceToNat, Nat.reduceMul]
    exact hQ
  · rw [if_neg hg] at hQ
    simp only [hg, if_false] at hv
    simp only [↓(hv _).run, go_sem, Nat.reduceEqDiff, Nat.reduceAdd, Nat.reduceLeDiff, Int.reduceEq, Int.reduceLT, Int.reduceLE, Int.reduceAdd, Int.reduceSub, Int.reduceMul, Int.reduceNeg, Int.reduceToNat, Nat.reduceMul]
    exact hQ
theorem v26 (R : RefT tbl) (h26 : tbl 26 = some (.code m26)) (k n e t : List UInt8) (hk : k.length = 32) (hn : n.length = 12) (he : e.length ≤ 1048576) (ht : t.length ≤ 1048592) (H : AH) :
    Val tbl 26 [.string (tx k), .string (tx n), .string (tx e), .string (tx t)] H (.tuple #[.string (tx (if 16 ≤ t.length then bodyL k n t else [])), .bool (decide (tagOk k n e t))]) H := by
  refine Val.of_all fun Q hQ => ?_
  rw [rn_fun h26, k26]
  have w1 := w64 (x := (t.length : Int) - 16) (by omega) (by omega)
  by_cases h16 : (t.length : Int) - 16 < 0
  · have hno : ¬ tagOk k n e t := fun h => by have := h.1; omega
    rw [decide_eq_false hno, if_neg (by omega)] at hQ
    simp only [tx_size, w1, h16, go_sem, Nat.reduceEqDiff, Nat.reduceAdd, Nat.reduceLeDiff, Int.reduceEq, Int.reduceLT, Int.reduceLE, Int.reduceAdd, Int.reduceSub, Int.reduceMul, Int.reduceNeg, Int.reduceToNat, Nat.reduceMul]
    exact hQ
  · have h0 : (0 : Int) ≤ (t.length : Int) - 16 := by omega
    have hnat : ((t.length : Int) - 16).toNat = t.length - 16 := by omega
    have hle : t.length - 16 ≤ t.length := by omega
    have x1 : (tx t).extract 0 (t.length - 16) = tx (t.take (t.length - 16)) := by rw [tx_extract]; rfl
    have hst := v31 (tbl := tbl) R.h94 R.h93 R.h91 R.h92 R.h59 R.h65 R.h69 R.h31 k n 1 hk hn (by omega) (t.take (t.length - 16)) (by rw [List.length_take]; omega)
    have hb : streamL k n 1 (t.take (t.length - 16)) = bodyL k n t := rfl
    rw [hb] at hst
    have hbl : (bodyL k n t).length = t.length - 16 := by rw [bodyL, streamL_len, List.length_take]; omega
    have hv := v25 R k n e (bodyL k n t) hk hn he (by omega)
    have hiff := seal_body (k := k) (n := n) (e := e) (t := t) (by omega)
    have hd : decide (sealL k n e (bodyL k n t) = t) = decide (tagOk k n e t) := decide_eq_decide.2 hiff
    rw [if_pos (show 16 ≤ t.length by omega)] at hQ
    simp only [tx_size, w1, h16, h0, hnat, hle, x1, ↓(hst _).run, ↓(hv _).run, tx_inj, hd, go_sem, Nat.reduceEqDiff, Nat.reduceAdd, Nat.reduceLeDiff, Int.reduceEq, Int.reduceLT, Int.reduceLE, Int.reduceAdd, Int.reduceSub, Int.reduceMul, Int.reduceNeg, Int.reduceToNat, Nat.reduceMul]
    exact hQ
theorem v27 (h27 : tbl 27 = some (.code m27)) (s w : List UInt8) (e : Int) (b : Bool) (H : AH) : Val tbl 27 [.string (tx s), .int .i64 e, .string (tx w), .bool b] H (.bool (if b = true then decide (s = w ∧ e = 0) else decide (s = [] ∧ e = 19))) H := by
  refine Val.of_all fun Q hQ => ?_
  rw [rn_fun h27, k27]
  cases b with
  | false =>
    rw [if_neg (by simp)] at hQ
    by_cases hs : s = []
    · subst hs
      simp only [tx_nil, tx_inj, go_sem, Nat.reduceEqDiff, Nat.reduceAdd, Nat.reduceLeDiff, Int.reduceEq, Int.reduceLT, Int.reduceLE, Int.reduceAdd, Int.reduceSub, Int.reduceMul, Int.reduceNeg, Int.reduceToNat, Nat.reduceMul]
      exact leaf hQ (by simp) rfl
    · simp only [tx_nil, tx_inj, hs, go_sem, Nat.reduceEqDiff, Nat.reduceAdd, Nat.reduceLeDiff, Int.reduceEq, Int.reduceLT, Int.reduceLE, Int.reduceAdd, Int.reduceSub, Int.reduceMul, Int.reduceNeg, Int.reduceToNat, Nat.reduceMul]
      exact leaf hQ (by simp [hs]) rfl
  | true =>
    rw [if_pos rfl] at hQ
    by_cases hs : s = w
    · subst hs
      simp only [tx_inj, go_sem, Nat.reduceEqDiff, Nat.reduceAdd, Nat.reduceLeDiff, Int.reduceEq, Int.reduceLT, Int.reduceLE, Int.reduceAdd, Int.reduceSub, Int.reduceMul, Int.reduceNeg, Int.reduceToNat, Nat.reduceMul]
      exact leaf hQ (by simp) rfl
    · simp only [tx_inj, hs, go_sem, Nat.reduceEqDiff, Nat.reduceAdd, Nat.reduceLeDiff, Int.reduceEq, Int.reduceLT, Int.reduceLE, Int.reduceAdd, Int.reduceSub, Int.reduceMul, Int.reduceNeg, Int.reduceToNat, Nat.reduceMul]
      exact leaf hQ (by simp [hs]) rfl
/-- What is opened answers as the reference says. -/
theorem v27o (h27 : tbl 27 = some (.code m27)) (k n e t : List UInt8) (H : AH) : ∀ s c, (if tagOk k n e t then Value.tuple #[.string (tx (bodyL k n t)), .int .i64 0] else .tuple #[.string ⟨#[]⟩, .int .i64 19]) = .tuple #[.string (tx s), .int .i64 c] → Val tbl 27 [.string (tx s), .int .i64 c, .string (tx (if 16 ≤ t.length then bodyL k n t else [])), .bool (decide (tagOk k n e t))] H (.bool true) H := by
  intro s c h
  have hv := v27 (tbl := tbl) h27 s (if 16 ≤ t.length then bodyL k n t else []) c (decide (tagOk k n e t)) H
  by_cases hg : tagOk k n e t
  · rw [if_pos hg] at h
    simp only [Value.tuple.injEq, Array.mk.injEq, List.cons.injEq, Value.string.injEq, tx_inj, Value.int.injEq, true_and, and_true] at h
    obtain ⟨h1, h2⟩ := h
    rw [decide_eq_true hg] at hv ⊢
    rw [if_pos hg.1, ← h1, ← h2, if_pos rfl] at hv
    rw [if_pos hg.1, ← h1, ← h2]
    simpa using hv
  · rw [if_neg hg, tx_nil] at h
    simp only [Value.tuple.injEq, Array.mk.injEq, List.cons.injEq, Value.string.injEq, tx_inj, Value.int.injEq, true_and, and_true] at h
    obtain ⟨h1, h2⟩ := h
    rw [decide_eq_false hg] at hv ⊢
    rw [← h1, ← h2] at hv ⊢
    simpa using hv
end Go.Proofs.Ytildhljhbbhmmaa.AM
namespace Go.Proofs.Ytildhljhbbhmmaa.AM
open Go
set_option linter.all false
set_option maxRecDepth 10000
variable {tbl : Tbl} [hT : TMono tbl]

theorem v21b (h21 : tbl 21 = some (.code m21)) (b : Bool) (e : Int) (H : AH) : Val tbl 21 [.bool b, .int .i64 e] H (.int .i64 (if b = true then e else 0)) H := by
  have := v21 (tbl := tbl) h21 (b = true) e H
  rw [show decide (b = true) = b by cases b <;> rfl] at this
  exact this
theorem v19_4 (h19 : tbl 19 = some (.code m19)) (X : AH) (a b c d : Int) : Val tbl 19 [.slice (some ⟨X.next, 0, none⟩) 4 4] (X.push ⟨[.int .i64 a, .int .i64 b, .int .i64 c, .int .i64 d], 1, false⟩) (.int .i64 (firstL [a, b, c, d])) (X.push ⟨[.int .i64 a, .int .i64 b, .int .i64 c, .int .i64 d], 1, false⟩) :=
  v19 h19 _ _ [a, b, c, d] (rowS (X := X) (l := [a, b, c, d]) (by show 0 < 4; omega)) (by show 4 < 1000000000; omega)
theorem v19_2 (h19 : tbl 19 = some (.code m19)) (X : AH) (a b : Int) : Val tbl 19 [.slice (some ⟨X.next, 0, none⟩) 2 2] (X.push ⟨[.int .i64 a, .int .i64 b], 1, false⟩) (.int .i64 (firstL [a, b])) (X.push ⟨[.int .i64 a, .int .i64 b], 1, false⟩) :=
  v19 h19 _ _ [a, b] (rowS (X := X) (l := [a, b]) (by show 0 < 2; omega)) (by show 2 < 1000000000; omega)
theorem v6 (T : SealT tbl) (R : RefT tbl) (h28 : tbl 28 = some (.code m28)) (h29 : tbl 29 = some (.code m29)) (h14 : tbl 14 = some (.code m14)) (h6 : tbl 6 = some (.code m6)) (k n : List UInt8) (c : Int) (t : List UInt8) (ht : t.length ≤ 9223372036854775807) (H : AH) :
    Val tbl 6 [.string (tx k), .string (tx n), .int .i64 c, .string (tx t)] H (.bool true) H := by
  refine Val.of_all fun Q hQ => ?_
  rw [rn_fun h6, k6]
  have a28 := v28 T h28 k n c t
  have a29 := v29a T h29 k t
  have a17 := v17 T
  have a20 := v20 (tbl := tbl) R.h21 R.h20 k n
  have a14 := v14 (tbl := tbl) h14 c 0 4294967295
  have a21 := v21b (tbl := tbl) R.h21
  have a22 := v22 (tbl := tbl) R.h22 t
  have a194 := fun X a b c d => v19_4 (tbl := tbl) R.h19 X a b c d
  have a194' := fun a b c d => v19_4 (tbl := tbl) R.h19 H.enter a b c d
  simp only [nx_enter] at a194'
  have b192 := fun A a b => v19_2 (tbl := tbl) R.h19 (H.enter.push A) a b
  simp only [AH.next_push, nx_enter] at b192
  obtain ⟨W, hW⟩ : ∃ W, W = strW k n c t := ⟨_, rfl⟩
  obtain ⟨X, hX⟩ : ∃ X, X = tagW k t := ⟨_, rfl⟩
  rw [← hW] at a28
  rw [← hX] at a29
  obtain ⟨s1, hs1⟩ : ∃ s1, (if W = 0 then Value.tuple #[.string (tx (streamL k n c t)), .int .i64 0] else .tuple #[.string ⟨#[]⟩, .int .i64 W]) = .tuple #[.string (tx s1), .int .i64 W] ∧ (W = 0 → s1 = streamL k n c t) ∧ (W ≠ 0 → s1 = []) := by
    by_cases h : W = 0
    · exact ⟨streamL k n c t, by rw [if_pos h, h], fun _ => rfl, fun h' => absurd h h'⟩
    · exact ⟨[], by rw [if_neg h]; rfl, fun h' => absurd h' h, fun _ => rfl⟩
  obtain ⟨s2, hs2⟩ : ∃ s2, (if X = 0 then Value.tuple #[.string (tx (tagL k t)), .int .i64 0] else .tuple #[.string ⟨#[]⟩, .int .i64 X]) = .tuple #[.string (tx s2), .int .i64 X] ∧ (X = 0 → s2 = tagL k t) ∧ (X ≠ 0 → s2 = []) := by
    by_cases h : X = 0
    · exact ⟨tagL k t, by rw [if_pos h, h], fun _ => rfl, fun h' => absurd h h'⟩
    · exact ⟨[], by rw [if_neg h]; rfl, fun h' => absurd h' h, fun _ => rfl⟩
  obtain ⟨hs1a, hs1b, hs1c⟩ := hs1
  obtain ⟨hs2a, hs2b, hs2c⟩ := hs2
  rw [hs1a] at a28
  rw [hs2a] at a29
  have hfW : firstL [if k.length = 32 ∧ n.length = 12 then 0 else 6, if (!decide (0 ≤ c ∧ c ≤ 4294967295)) = true then 7 else 0, if (1048576 : Int) < t.length then 8 else 0, if 4294967296 < IntKind.wrap .i64 (c + IntKind.wrap .i64 ((IntKind.wrap .i64 ((t.length : Int) + 63)).tdiv 64)) then 7 else 0] = W := by
    rw [hW, ← strW_first (k := k) (n := n) (c := c) ht _ rfl]
    have : ((!decide (0 ≤ c ∧ c ≤ 4294967295)) = true) ↔ ¬ (0 ≤ c ∧ c ≤ 4294967295) := by rw [Bool.not_eq_true', decide_eq_false_iff_not]
    simp only [this]
  have e32 : ((k.length : Int) = 32) ↔ k.length = 32 := by omega
  have hfX : firstL [if ¬ k.length = 32 then 6 else 0, if (2097152 : Int) < t.length then 8 else 0] = X := by
    rw [hX, ← tagW_first]
  have hfX' : firstL [if (!decide (k.length = 32)) = true then 6 else 0, if (2097152 : Int) < t.length then 8 else 0] = X := by
    rw [hX, ← tagW_first]
    have : ((!decide (k.length = 32)) = true) ↔ ¬ k.length = 32 := by rw [Bool.not_eq_true', decide_eq_false_iff_not]
    simp only [this]
  simp only [↓(a28 _).run, ↓(a20 _).run, ↓(a14 _).run, ↓(a21 _ _ _).run, tx_size, ↓(a194' _ _ _ _).run, go_sem, Nat.reduceEqDiff, Nat.reduceAdd, Nat.reduceLeDiff, Int.reduceEq, Int.reduceLT, Int.reduceLE, Int.reduceAdd, Int.reduceSub, Int.reduceMul, Int.reduceNeg, Int.reduceToNat, Nat.reduceMul]
  simp only [hfW, e32, ↓(a29 _).run, ↓(a21 _ _ _).run, tx_size, ↓(b192 _ _ _).run, go_sem, Nat.reduceEqDiff, Nat.reduceAdd, Nat.reduceLeDiff, Int.reduceEq, Int.reduceLT, Int.reduceLE, Int.reduceAdd, Int.reduceSub, Int.reduceMul, Int.reduceNeg, Int.reduceToNat, Nat.reduceMul]
  simp only [hfX, hfX', tx_nil, tx_inj, ↓(a17 _).run, go_sem, Nat.reduceEqDiff, Nat.reduceAdd, Nat.reduceLeDiff, Int.reduceEq, Int.reduceLT, Int.reduceLE, Int.reduceAdd, Int.reduceSub, Int.reduceMul, Int.reduceNeg, Int.reduceToNat, Nat.reduceMul]
  --
  have key : ∀ (hX0 : X = 0 → k.length = 32) (hW0 : W = 0 → k.length = 32 ∧ n.length = 12 ∧ 0 ≤ c ∧ c < 4294967296), True := fun _ _ => trivial
  have hX0 : X = 0 → k.length = 32 := by
    intro h
    rw [hX] at h
    unfold tagW at h
    by_cases hk : k.length = 32
    · exact hk
    · rw [if_neg hk] at h; omega
  have hW0 : W = 0 → k.length = 32 ∧ n.length = 12 ∧ 0 ≤ c ∧ c < 4294967296 := by
    intro h
    rw [hW] at h
    unfold strW at h
    by_cases hk : k.length = 32 ∧ n.length = 12
    · rw [if_pos hk] at h
      by_cases hc : 0 ≤ c ∧ c ≤ 4294967295
      · exact ⟨hk.1, hk.2, hc.1, by omega⟩
      · rw [if_neg hc] at h; omega
    · rw [if_neg hk] at h; omega
  by_cases hx : X = 0
  · have hk := hX0 hx
    have es2 := hs2b hx
    subst es2
    simp only [hfW, hfX, hfX', hx, go_sem, Nat.reduceEqDiff, Nat.reduceAdd, Nat.reduceLeDiff, Int.reduceEq, Int.reduceLT, Int.reduceLE, Int.reduceAdd, Int.reduceSub, Int.reduceMul, Int.reduceNeg, Int.reduceToNat, Nat.reduceMul]
    by_cases hw : W = 0
    · obtain ⟨_, hn, c0, c1⟩ := hW0 hw
      have es1 := hs1b hw
      subst es1
      simp only [hfW, hfX, hfX', hw, ↓(a22 _).run, go_sem, Nat.reduceEqDiff, Nat.reduceAdd, Nat.reduceLeDiff, Int.reduceEq, Int.reduceLT, Int.reduceLE, Int.reduceAdd, Int.reduceSub, Int.reduceMul, Int.reduceNeg, Int.reduceToNat, Nat.reduceMul]
      by_cases hb : t.length ≤ 10000
      · have a30 := v30t (tbl := tbl) R.h30 R.h64 R.h65 R.h66 R.h67 R.h68 k t hk (by omega)
        have a31 := v31 (tbl := tbl) R.h94 R.h93 R.h91 R.h92 R.h59 R.h65 R.h69 R.h31 k n c hk hn ⟨c0, c1⟩ t (by omega)
        simp only [hfW, hfX, hfX', hb, hw, hx, tx_inj, ↓(a30 _).run, go_sem, Nat.reduceEqDiff, Nat.reduceAdd, Nat.reduceLeDiff, Int.reduceEq, Int.reduceLT, Int.reduceLE, Int.reduceAdd, Int.reduceSub, Int.reduceMul, Int.reduceNeg, Int.reduceToNat, Nat.reduceMul]
        simp only [hfW, hfX, hfX', hw, ↓(a31 _).run, tx_inj, go_sem, Nat.reduceEqDiff, Nat.reduceAdd, Nat.reduceLeDiff, Int.reduceEq, Int.reduceLT, Int.reduceLE, Int.reduceAdd, Int.reduceSub, Int.reduceMul, Int.reduceNeg, Int.reduceToNat, Nat.reduceMul]
        exact hQ
      · simp only [hfW, hfX, hfX', hb, go_sem, Nat.reduceEqDiff, Nat.reduceAdd, Nat.reduceLeDiff, Int.reduceEq, Int.reduceLT, Int.reduceLE, Int.reduceAdd, Int.reduceSub, Int.reduceMul, Int.reduceNeg, Int.reduceToNat, Nat.reduceMul]
        exact hQ
    · have es1 := hs1c hw
      subst es1
      simp only [hfW, hfX, hfX', hw, tx_nil, tx_inj, ↓(a22 _).run, go_sem, Nat.reduceEqDiff, Nat.reduceAdd, Nat.reduceLeDiff, Int.reduceEq, Int.reduceLT, Int.reduceLE, Int.reduceAdd, Int.reduceSub, Int.reduceMul, Int.reduceNeg, Int.reduceToNat, Nat.reduceMul]
      by_cases hb : t.length ≤ 10000
      · have a30 := v30t (tbl := tbl) R.h30 R.h64 R.h65 R.h66 R.h67 R.h68 k t hk (by omega)
        simp only [hfW, hfX, hfX', hb, hw, hx, tx_inj, ↓(a30 _).run, go_sem, Nat.reduceEqDiff, Nat.reduceAdd, Nat.reduceLeDiff, Int.reduceEq, Int.reduceLT, Int.reduceLE, Int.reduceAdd, Int.reduceSub, Int.reduceMul, Int.reduceNeg, Int.reduceToNat, Nat.reduceMul]
        exact hQ
      · simp only [hfW, hfX, hfX', hb, go_sem, Nat.reduceEqDiff, Nat.reduceAdd, Nat.reduceLeDiff, Int.reduceEq, Int.reduceLT, Int.reduceLE, Int.reduceAdd, Int.reduceSub, Int.reduceMul, Int.reduceNeg, Int.reduceToNat, Nat.reduceMul]
        exact hQ
  · have es2 := hs2c hx
    subst es2
    simp only [hfW, hfX, hfX', hx, tx_nil, tx_inj, go_sem, Nat.reduceEqDiff, Nat.reduceAdd, Nat.reduceLeDiff, Int.reduceEq, Int.reduceLT, Int.reduceLE, Int.reduceAdd, Int.reduceSub, Int.reduceMul, Int.reduceNeg, Int.reduceToNat, Nat.reduceMul]
    by_cases hw : W = 0
    · obtain ⟨hk, hn, c0, c1⟩ := hW0 hw
      have es1 := hs1b hw
      subst es1
      simp only [hfW, hfX, hfX', hw, ↓(a22 _).run, go_sem, Nat.reduceEqDiff, Nat.reduceAdd, Nat.reduceLeDiff, Int.reduceEq, Int.reduceLT, Int.reduceLE, Int.reduceAdd, Int.reduceSub, Int.reduceMul, Int.reduceNeg, Int.reduceToNat, Nat.reduceMul]
      by_cases hb : t.length ≤ 10000
      · have a31 := v31 (tbl := tbl) R.h94 R.h93 R.h91 R.h92 R.h59 R.h65 R.h69 R.h31 k n c hk hn ⟨c0, c1⟩ t (by omega)
        simp only [hfW, hfX, hfX', hb, hw, hx, tx_inj, go_sem, Nat.reduceEqDiff, Nat.reduceAdd, Nat.reduceLeDiff, Int.reduceEq, Int.reduceLT, Int.reduceLE, Int.reduceAdd, Int.reduceSub, Int.reduceMul, Int.reduceNeg, Int.reduceToNat, Nat.reduceMul]
        simp only [hfW, hfX, hfX', hw, ↓(a31 _).run, tx_inj, go_sem, Nat.reduceEqDiff, Nat.reduceAdd, Nat.reduceLeDiff, Int.reduceEq, Int.reduceLT, Int.reduceLE, Int.reduceAdd, Int.reduceSub, Int.reduceMul, Int.reduceNeg, Int.reduceToNat, Nat.reduceMul]
        exact hQ
      · simp only [hfW, hfX, hfX', hb, go_sem, Nat.reduceEqDiff, Nat.reduceAdd, Nat.reduceLeDiff, Int.reduceEq, Int.reduceLT, Int.reduceLE, Int.reduceAdd, Int.reduceSub, Int.reduceMul, Int.reduceNeg, Int.reduceToNat, Nat.reduceMul]
        exact hQ
    · have es1 := hs1c hw
      subst es1
      simp only [hfW, hfX, hfX', hw, tx_nil, tx_inj, ↓(a22 _).run, go_sem, Nat.reduceEqDiff, Nat.reduceAdd, Nat.reduceLeDiff, Int.reduceEq, Int.reduceLT, Int.reduceLE, Int.reduceAdd, Int.reduceSub, Int.reduceMul, Int.reduceNeg, Int.reduceToNat, Nat.reduceMul]
      by_cases hb : t.length ≤ 10000
      · simp only [hfW, hfX, hfX', hb, hw, hx, tx_inj, go_sem, Nat.reduceEqDiff, Nat.reduceAdd, Nat.reduceLeDiff, Int.reduceEq, Int.reduceLT, Int.reduceLE, Int.reduceAdd, Int.reduceSub, Int.reduceMul, Int.reduceNeg, Int.reduceToNat, Nat.reduceMul]
        exact hQ
      · simp only [hfW, hfX, hfX', hb, go_sem, Nat.reduceEqDiff, Nat.reduceAdd, Nat.reduceLeDiff, Int.reduceEq, Int.reduceLT, Int.reduceLE, Int.reduceAdd, Int.reduceSub, Int.reduceMul, Int.reduceNeg, Int.reduceToNat, Nat.reduceMul]
        exact hQ
end Go.Proofs.Ytildhljhbbhmmaa.AM
namespace Go.Proofs.Ytildhljhbbhmmaa.AM
open Go
set_option linter.all false
set_option maxRecDepth 10000
variable {tbl : Tbl} [hT : TMono tbl]

theorem v4 (T : SealT tbl) (R : RefT tbl) (h58 : tbl 58 = some (.code m58)) (h24 : tbl 24 = some (.code m24)) (h4 : tbl 4 = some (.code m4)) (k n e t : List UInt8) (H : AH) :
    Val tbl 4 [.string (tx k), .string (tx n), .string (tx e), .string (tx t)] H (.bool true) H := by
  refine Val.of_all fun Q hQ => ?_
  rw [rn_fun h4, k4]
  have a18 := v18 T k n e t
  have a17 := v17 T
  have a20 := v20 (tbl := tbl) R.h21 R.h20 k n
  have a21 := v21b (tbl := tbl) R.h21
  have a23 := fun s u x w => v23 (tbl := tbl) R.h23 s u x w
  have a22e := v22 (tbl := tbl) R.h22 e
  have a22t := v22 (tbl := tbl) R.h22 t
  have b192 := fun a b => v19_2 (tbl := tbl) R.h19 H.enter a b
  simp only [nx_enter] at b192
  have e1 : ((1048576 : Int) < e.length) ↔ ¬ e.length ≤ 1048576 := by omega
  have e2 : ((1048576 : Int) < t.length) ↔ ¬ t.length ≤ 1048576 := by omega
  have o8 := a23 [] [] 8 8
  have o6 := a23 [] [] 6 6
  have n80 : ¬ (8 : Int) = 0 := by decide
  have n60 : ¬ (6 : Int) = 0 := by decide
  by_cases hkn : k.length = 32 ∧ n.length = 12
  · rw [if_pos hkn] at a18
    simp only [if_pos hkn] at a20
    by_cases he : e.length ≤ 1048576
    · by_cases ht : t.length ≤ 1048576
      · rw [if_pos ⟨he, ht⟩] at a18
        obtain ⟨s, hs⟩ : ∃ s, s = sealL k n e t := ⟨_, rfl⟩
        rw [← hs] at a18
        have oo := a23 s s 0 0
        simp only [↓(a18 _).run, ↓(a20 _).run, tx_size, e1, he, go_sem, Nat.reduceEqDiff, Nat.reduceAdd, Nat.reduceLeDiff, Int.reduceEq, Int.reduceLT, Int.reduceLE, Int.reduceAdd, Int.reduceSub, Int.reduceMul, Int.reduceNeg, Int.reduceToNat, Nat.reduceMul]
        simp only [tx_size, e2, ht, ↓(a21 _ _ _).run, ↓(b192 _ _).run, go_sem, Nat.reduceEqDiff, Nat.reduceAdd, Nat.reduceLeDiff, Int.reduceEq, Int.reduceLT, Int.reduceLE, Int.reduceAdd, Int.reduceSub, Int.reduceMul, Int.reduceNeg, Int.reduceToNat, Nat.reduceMul]
        by_cases hbe : e.length ≤ 10000
        · by_cases hbt : t.length ≤ 10000
          · have hsl : s.length = t.length + 16 := by rw [hs, sealL_len]
            have a24 := v24 T h58 h24 k n e s hkn.1 hkn.2 he (by omega)
            obtain ⟨g1, g2⟩ := tagOk_seal (k := k) (n := n) (e := e) (t := t)
            rw [← hs] at g1 g2
            rw [if_pos g1, g2] at a24
            have a25 := v25 R k n e t hkn.1 hkn.2 he ht
            rw [← hs] at a25
            simp only [firstL, if_true, ↓(a22e _).run, ↓(a22t _).run, hbe, hbt, ↓(a24 _).run, ↓(a17 _).run, ↓(a25 _).run, ↓(oo _).run, tx_inj, go_sem, Nat.reduceEqDiff, Nat.reduceAdd, Nat.reduceLeDiff, Int.reduceEq, Int.reduceLT, Int.reduceLE, Int.reduceAdd, Int.reduceSub, Int.reduceMul, Int.reduceNeg, Int.reduceToNat, Nat.reduceMul]
            exact hQ
          · simp only [firstL, if_true, ↓(a22e _).run, ↓(a22t _).run, hbe, hbt, ↓(a17 _).run, ↓(oo _).run, tx_inj, go_sem, Nat.reduceEqDiff, Nat.reduceAdd, Nat.reduceLeDiff, Int.reduceEq, Int.reduceLT, Int.reduceLE, Int.reduceAdd, Int.reduceSub, Int.reduceMul, Int.reduceNeg, Int.reduceToNat, Nat.reduceMul]
            exact hQ
        · simp only [firstL, if_true, ↓(a22e _).run, ↓(a22t _).run, hbe, ↓(a17 _).run, ↓(oo _).run, tx_inj, go_sem, Nat.reduceEqDiff, Nat.reduceAdd, Nat.reduceLeDiff, Int.reduceEq, Int.reduceLT, Int.reduceLE, Int.reduceAdd, Int.reduceSub, Int.reduceMul, Int.reduceNeg, Int.reduceToNat, Nat.reduceMul]
          exact hQ
      · rw [if_neg fun h => ht h.2, tx_nil] at a18
        simp only [↓(a18 _).run, ↓(a20 _).run, tx_size, e1, he, go_sem, Nat.reduceEqDiff, Nat.reduceAdd, Nat.reduceLeDiff, Int.reduceEq, Int.reduceLT, Int.reduceLE, Int.reduceAdd, Int.reduceSub, Int.reduceMul, Int.reduceNeg, Int.reduceToNat, Nat.reduceMul]
        simp only [tx_size, e2, ht, ↓(a21 _ _ _).run, ↓(b192 _ _).run, go_sem, Nat.reduceEqDiff, Nat.reduceAdd, Nat.reduceLeDiff, Int.reduceEq, Int.reduceLT, Int.reduceLE, Int.reduceAdd, Int.reduceSub, Int.reduceMul, Int.reduceNeg, Int.reduceToNat, Nat.reduceMul]
        simp only [firstL, if_true, n80, if_false, ↓(a17 _).run, ↓(o8 _).run, go_sem, Nat.reduceEqDiff, Nat.reduceAdd, Nat.reduceLeDiff, Int.reduceEq, Int.reduceLT, Int.reduceLE, Int.reduceAdd, Int.reduceSub, Int.reduceMul, Int.reduceNeg, Int.reduceToNat, Nat.reduceMul]
        exact hQ
    · rw [if_neg fun h => he h.1, tx_nil] at a18
      simp only [↓(a18 _).run, ↓(a20 _).run, tx_size, e1, he, go_sem, Nat.reduceEqDiff, Nat.reduceAdd, Nat.reduceLeDiff, Int.reduceEq, Int.reduceLT, Int.reduceLE, Int.reduceAdd, Int.reduceSub, Int.reduceMul, Int.reduceNeg, Int.reduceToNat, Nat.reduceMul]
      simp only [↓(a21 _ _ _).run, ↓(b192 _ _).run, go_sem, Nat.reduceEqDiff, Nat.reduceAdd, Nat.reduceLeDiff, Int.reduceEq, Int.reduceLT, Int.reduceLE, Int.reduceAdd, Int.reduceSub, Int.reduceMul, Int.reduceNeg, Int.reduceToNat, Nat.reduceMul]
      simp only [firstL, if_true, n80, if_false, ↓(a17 _).run, ↓(o8 _).run, go_sem, Nat.reduceEqDiff, Nat.reduceAdd, Nat.reduceLeDiff, Int.reduceEq, Int.reduceLT, Int.reduceLE, Int.reduceAdd, Int.reduceSub, Int.reduceMul, Int.reduceNeg, Int.reduceToNat, Nat.reduceMul]
      exact hQ
  · rw [if_neg hkn, tx_nil] at a18
    simp only [if_neg hkn] at a20
    simp only [↓(a18 _).run, ↓(a20 _).run, tx_size, e1, go_sem, Nat.reduceEqDiff, Nat.reduceAdd, Nat.reduceLeDiff, Int.reduceEq, Int.reduceLT, Int.reduceLE, Int.reduceAdd, Int.reduceSub, Int.reduceMul, Int.reduceNeg, Int.reduceToNat, Nat.reduceMul]
    by_cases he : e.length ≤ 1048576
    · simp only [tx_size, e1, e2, he, ↓(a21 _ _ _).run, ↓(b192 _ _).run, go_sem, Nat.reduceEqDiff, Nat.reduceAdd, Nat.reduceLeDiff, Int.reduceEq, Int.reduceLT, Int.reduceLE, Int.reduceAdd, Int.reduceSub, Int.reduceMul, Int.reduceNeg, Int.reduceToNat, Nat.reduceMul]
      simp only [firstL, if_true, n60, if_false, ↓(a17 _).run, ↓(o6 _).run, go_sem, Nat.reduceEqDiff, Nat.reduceAdd, Nat.reduceLeDiff, Int.reduceEq, Int.reduceLT, Int.reduceLE, Int.reduceAdd, Int.reduceSub, Int.reduceMul, Int.reduceNeg, Int.reduceToNat, Nat.reduceMul]
      exact hQ
    · simp only [tx_size, e1, e2, he, ↓(a21 _ _ _).run, ↓(b192 _ _).run, go_sem, Nat.reduceEqDiff, Nat.reduceAdd, Nat.reduceLeDiff, Int.reduceEq, Int.reduceLT, Int.reduceLE, Int.reduceAdd, Int.reduceSub, Int.reduceMul, Int.reduceNeg, Int.reduceToNat, Nat.reduceMul]
      simp only [firstL, if_true, n60, if_false, ↓(a17 _).run, ↓(o6 _).run, go_sem, Nat.reduceEqDiff, Nat.reduceAdd, Nat.reduceLeDiff, Int.reduceEq, Int.reduceLT, Int.reduceLE, Int.reduceAdd, Int.reduceSub, Int.reduceMul, Int.reduceNeg, Int.reduceToNat, Nat.reduceMul]
      exact hQ
end Go.Proofs.Ytildhljhbbhmmaa.AM
namespace Go.Proofs.Ytildhljhbbhmmaa.AM
open Go Go.RowKit Go.ChangeShapes Go.WideShapes Go.ChangeAt
set_option linter.all false

theorem cell_str {P : Program} {w : World} {r : Reach} {b : Nat} {u : TypeId} {v : Value} (hu : P.underlying u = some .string) (h : Cell.okWide P w r b u v) : ∃ s, v = .string s ∧ s.size ≤ 9223372036854775807 := by
  unfold Cell.okWide at h
  rw [hu] at h
  cases v <;> simp only [Cell.ok, hu] at h
  refine ⟨_, rfl, ?_⟩
  have e : IntKind.i64.max = 9223372036854775807 := rfl
  rw [e] at h
  omega
theorem val_str {P : Program} {w : World} {r : Reach} {b : Nat} {u : TypeId} {v : Value} (hu : P.underlying u = some .string) (h : Value.okWide P w r b u v) : ∃ s, v = .string s ∧ s.size ≤ 9223372036854775807 := by
  unfold Value.okWide at h
  rw [hu] at h
  exact cell_str hu h
theorem val_bool {P : Program} {w : World} {r : Reach} {b : Nat} {u : TypeId} {v : Value} (hu : P.underlying u = some .bool) (h : Value.okWide P w r b u v) : ∃ s, v = .bool s := by
  unfold Value.okWide at h
  rw [hu] at h
  simp only at h
  unfold Cell.okWide at h
  rw [hu] at h
  cases v <;> simp only [Cell.ok, hu] at h
  exact ⟨_, rfl⟩
theorem has_i64 {n : Int} (h : IntKind.i64.has n) : -9223372036854775808 ≤ n ∧ n ≤ 9223372036854775807 := h
theorem has_u8 {n : Int} (h : IntKind.u8.has n) : 0 ≤ n ∧ n ≤ 255 := h
end Go.Proofs.Ytildhljhbbhmmaa.AM
namespace Go.Proofs.Ytildhljhbbhmmaa.AM
open Go
set_option linter.all false
set_option maxRecDepth 10000
variable {tbl : Tbl} [hT : TMono tbl]

/-- A place in a row of L cells, out of any number. -/
theorem place_eq {a : Int} {L : Nat} (hL : 0 < L) (hL2 : L ≤ 1000000000) (ha : -9223372036854775808 ≤ a ∧ a ≤ 9223372036854775807) : ∃ p : Nat, p < L ∧ IntKind.wrap .i64 (a.tmod L + L) = a.tmod L + L ∧ (a.tmod L + L).tmod L = p := by
  have h1 := Int.emod_add_mul_ediv a L
  have hpos : (0 : Int) < L := by omega
  have e : a.tmod L = if 0 ≤ a then a % L else -((-a) % L) := by
    split
    · exact Int.tmod_eq_emod_of_nonneg (by omega)
    · have : a = -(-a) := by omega
      rw [this, Int.neg_tmod, Int.tmod_eq_emod_of_nonneg (by omega), Int.neg_neg]
  have b1 := Int.emod_nonneg a (show (L : Int) ≠ 0 by omega)
  have b2 := Int.emod_lt_of_pos a hpos
  have b3 := Int.emod_nonneg (-a) (show (L : Int) ≠ 0 by omega)
  have b4 := Int.emod_lt_of_pos (-a) hpos
  have r : 0 < a.tmod L + L ∧ a.tmod L + L < 2 * L := by rw [e]; split <;> omega
  have w := w64 (x := a.tmod L + L) (by omega) (by omega)
  have r2 := Int.emod_nonneg (a.tmod L + L) (show (L : Int) ≠ 0 by omega)
  have r3 := Int.emod_lt_of_pos (a.tmod L + L) hpos
  exact ⟨((a.tmod L + L) % L).toNat, by omega, w, by rw [Int.tmod_eq_emod_of_nonneg (by omega)]; omega⟩
theorem slcAt_pre {H : AH} {k n c h : Nat} {l : List UInt8} (hk : H.get k = some (u8r l)) (hc : h ≤ c) : slcAt H 1 (.slice (some ⟨k, 0, none⟩) n c) 0 h = some (.slice (some ⟨k, 0, none⟩) h c) := by
  simp only [slcAt, hk, u8r_es, if_true]
  rw [if_pos hc]
theorem v5 (T : SealT tbl) (R : RefT tbl) (h58 : tbl 58 = some (.code m58)) (h24 : tbl 24 = some (.code m24)) (h26 : tbl 26 = some (.code m26)) (h27 : tbl 27 = some (.code m27)) (h5 : tbl 5 = some (.code m5)) (k n e t : List UInt8) (a b : Int) (ha : -9223372036854775808 ≤ a ∧ a ≤ 9223372036854775807) (hb : 0 ≤ b ∧ b ≤ 255) (cut : Bool) (H : AH) :
    Val tbl 5 [.string (tx k), .string (tx n), .string (tx e), .string (tx t), .int .i64 a, .int .u8 b, .bool cut] H (.bool true) H := by
  refine Val.of_all fun Q hQ => ?_
  rw [rn_fun h5, k5]
  have a18 := v18 T k n e t
  have a17 := v17 T
  have a22e := v22 (tbl := tbl) R.h22 e
  have a22t := v22 (tbl := tbl) R.h22 t
  by_cases hok : (k.length = 32 ∧ n.length = 12) ∧ e.length ≤ 1048576 ∧ t.length ≤ 1048576
  · obtain ⟨hkn, he, ht⟩ := hok
    rw [if_pos hkn, if_pos ⟨he, ht⟩] at a18
    obtain ⟨s, hs⟩ : ∃ s, s = sealL k n e t := ⟨_, rfl⟩
    rw [← hs] at a18
    by_cases hb0 : b = 0
    · simp only [↓(a18 _).run, ↓(a17 _).run, hb0, go_sem, Nat.reduceEqDiff, Nat.reduceAdd, Nat.reduceLeDiff, Int.reduceEq, Int.reduceLT, Int.reduceLE, Int.reduceAdd, Int.reduceSub, Int.reduceMul, Int.reduceNeg, Int.reduceToNat, Nat.reduceMul]
      exact hQ
    · by_cases hbt : t.length ≤ 10000
      · by_cases hbe : e.length ≤ 10000
        · have hsl : s.length = t.length + 16 := by rw [hs, sealL_len]
          obtain ⟨p, hp, hw, hm⟩ := place_eq (a := a) (L := s.length) (by omega) (by omega) ha
          have hL0 : ¬ (s.length : Int) = 0 := by omega
          have hlim : s.length ≤ 140737488355328 := by omega
          have hu : (⟨bc s, 1, false⟩ : Blk) = u8r s := rfl
          simp only [↓(a18 _).run, ↓(a17 _).run, ↓(a22t _).run, ↓(a22e _).run, hb0, hbt, hbe, tx_size, byteCells_eq, tx_data, hlim, hu, hL0, hw, hm, go_sem, Nat.reduceEqDiff, Nat.reduceAdd, Nat.reduceLeDiff, Int.reduceEq, Int.reduceLT, Int.reduceLE, Int.reduceAdd, Int.reduceSub, Int.reduceMul, Int.reduceNeg, Int.reduceToNat, Nat.reduceMul]
          have hxs : (⟨#[120]⟩ : ByteArray) = tx [120] := rfl
          have z1 : e.length + 1 ≤ 9223372036854775807 := by omega
          have z2 : e.length ≤ 9223372036854775806 := by omega
          have z3 : e.length + [(120 : UInt8)].length ≤ 9223372036854775807 := z1
          have hxl : (e ++ [120]).length ≤ 1048576 := by rw [List.length_append]; show e.length + 1 ≤ 1048576; omega
          have x24 := v24 T h58 h24 k n (e ++ [120]) s hkn.1 hkn.2 hxl (by omega)
          have x26 := v26 R h26 k n (e ++ [120]) s hkn.1 hkn.2 hxl (by omega)
          obtain ⟨s2, c2, hr2⟩ : ∃ s2 c2, (if tagOk k n (e ++ [120]) s then Value.tuple #[.string (tx (bodyL k n s)), .int .i64 0] else .tuple #[.string ⟨#[]⟩, .int .i64 19]) = .tuple #[.string (tx s2), .int .i64 c2] := by
            by_cases h : tagOk k n (e ++ [120]) s
            · exact ⟨_, _, by rw [if_pos h]⟩
            · exact ⟨[], 19, by rw [if_neg h]; rfl⟩
          have x27 := fun X => v27o (tbl := tbl) h27 k n (e ++ [120]) s X s2 c2 hr2
          rw [hr2] at x24
          have p0 : (0 : Int) ≤ p := by omega
          cases cut with
          | true =>
            have hg : (H.enter.push (u8r s)).get H.next = some (u8r s) := AH.get_push_eq H.enter _
            have hsl2 := slcAt_pre (n := s.length) (c := s.length) (h := p) hg (by omega)
            have hsb := slcBytes_take (n := p) (c := s.length) hg (by omega)
            have tbl1 : (s.take p).length ≤ 1048592 := by rw [List.length_take]; omega
            have y24 := v24 T h58 h24 k n e (s.take p) hkn.1 hkn.2 he tbl1
            have y26 := v26 R h26 k n e (s.take p) hkn.1 hkn.2 he tbl1
            obtain ⟨s1, c1, hr1⟩ : ∃ s1 c1, (if tagOk k n e (s.take p) then Value.tuple #[.string (tx (bodyL k n (s.take p))), .int .i64 0] else .tuple #[.string ⟨#[]⟩, .int .i64 19]) = .tuple #[.string (tx s1), .int .i64 c1] := by
              by_cases h : tagOk k n e (s.take p)
              · exact ⟨_, _, by rw [if_pos h]⟩
              · exact ⟨[], 19, by rw [if_neg h]; rfl⟩
            have y27 := fun X => v27o (tbl := tbl) h27 k n e (s.take p) X s1 c1 hr1
            rw [hr1] at y24
            have hps : p ≤ s.length := by omega
            simp only [byteCells_eq, tx_data, hu, p0, hps, Int.toNat_natCast, hsl2, hsb, hxs, tx_size, tx_cat, z1, z2, z3, ↓(y24 _).run, ↓(x24 _).run, ↓(y26 _).run, ↓(x26 _).run, ↓(y27 _).run, ↓(x27 _).run, go_sem, Nat.reduceEqDiff, Nat.reduceAdd, Nat.reduceLeDiff, Int.reduceEq, Int.reduceLT, Int.reduceLE, Int.reduceAdd, Int.reduceSub, Int.reduceMul, Int.reduceNeg, Int.reduceToNat, Nat.reduceMul]
            exact hQ
          | false =>
            obtain ⟨u, rfl⟩ : ∃ u : UInt8, b = (u.toNat : Int) := ⟨UInt8.ofNat b.toNat, by
              have : (UInt8.ofNat b.toNat).toNat = b.toNat := by rw [UInt8.toNat_ofNat']; omega
              omega⟩
            have hg : (H.enter.push (u8r s)).get H.next = some (u8r s) := AH.get_push_eq H.enter _
            have hgs : ∀ X : Option Blk, ((H.enter.push (u8r s)).set H.next X).get H.next = X := fun X => AH.get_set_eq _ _ (by rw [AH.next_push, nx_enter]; omega)
            obtain ⟨sb', hsb'⟩ : ∃ sb', sb' = s.set p (gb s p ^^^ u) := ⟨_, rfl⟩
            have hsbl : sb'.length = s.length := by rw [hsb', List.length_set]
            have hat := u8r_at (l := s) (i := p) hp
            have hx8 := xor8 (gb s p) u
            have hsb := slcBytes_row (n := s.length) (c := s.length) (hgs (some (u8r sb'))) hsbl.symm
            have tbl1 : sb'.length ≤ 1048592 := by omega
            have y24 := v24 T h58 h24 k n e sb' hkn.1 hkn.2 he tbl1
            have y26 := v26 R h26 k n e sb' hkn.1 hkn.2 he tbl1
            obtain ⟨s1, c1, hr1⟩ : ∃ s1 c1, (if tagOk k n e sb' then Value.tuple #[.string (tx (bodyL k n sb')), .int .i64 0] else .tuple #[.string ⟨#[]⟩, .int .i64 19]) = .tuple #[.string (tx s1), .int .i64 c1] := by
              by_cases h : tagOk k n e sb'
              · exact ⟨_, _, by rw [if_pos h]⟩
              · exact ⟨[], 19, by rw [if_neg h]; rfl⟩
            have y27 := fun X => v27o (tbl := tbl) h27 k n e sb' X s1 c1 hr1
            rw [hr1] at y24
            have hps : (p : Int) < s.length := by omega
            have hp1 : p + 1 ≤ s.length := by omega
            have hlt : H.next < H.next + 1 := by omega
            simp only [byteCells_eq, tx_data, hu, p0, hps, hp1, hlt, Int.toNat_natCast, hg, hat, hx8, u8r_len, u8r_ro, u8r_es, u8r_set, ← hsb', hgs, hsb, idxSP_slc, stc_eq, stB_some, splice_one, addA, Nat.zero_add, hxs, tx_size, tx_cat, z1, z2, z3, ↓(y24 _).run, ↓(x24 _).run, ↓(y26 _).run, ↓(x26 _).run, ↓(y27 _).run, ↓(x27 _).run, go_sem, Nat.reduceEqDiff, Nat.reduceAdd, Nat.reduceLeDiff, Int.reduceEq, Int.reduceLT, Int.reduceLE, Int.reduceAdd, Int.reduceSub, Int.reduceMul, Int.reduceNeg, Int.reduceToNat, Nat.reduceMul]
            rw [back_p3 (by rw [lw_set, lw_push, lw_enter]; omega) rfl]
            exact hQ
        · simp only [↓(a18 _).run, ↓(a17 _).run, ↓(a22t _).run, ↓(a22e _).run, hb0, hbt, hbe, go_sem, Nat.reduceEqDiff, Nat.reduceAdd, Nat.reduceLeDiff, Int.reduceEq, Int.reduceLT, Int.reduceLE, Int.reduceAdd, Int.reduceSub, Int.reduceMul, Int.reduceNeg, Int.reduceToNat, Nat.reduceMul]
          exact hQ
      · simp only [↓(a18 _).run, ↓(a17 _).run, ↓(a22t _).run, hb0, hbt, go_sem, Nat.reduceEqDiff, Nat.reduceAdd, Nat.reduceLeDiff, Int.reduceEq, Int.reduceLT, Int.reduceLE, Int.reduceAdd, Int.reduceSub, Int.reduceMul, Int.reduceNeg, Int.reduceToNat, Nat.reduceMul]
        exact hQ
  · obtain ⟨w, hw, hres⟩ : ∃ w : Int, w ≠ 0 ∧ (if k.length = 32 ∧ n.length = 12 then (if e.length ≤ 1048576 ∧ t.length ≤ 1048576 then Value.tuple #[.string (tx (sealL k n e t)), .int .i64 0] else .tuple #[.string ⟨#[]⟩, .int .i64 8]) else .tuple #[.string ⟨#[]⟩, .int .i64 6]) = .tuple #[.string ⟨#[]⟩, .int .i64 w] := by
      by_cases h1 : k.length = 32 ∧ n.length = 12
      · by_cases h2 : e.length ≤ 1048576 ∧ t.length ≤ 1048576
        · exact absurd ⟨h1, h2⟩ hok
        · exact ⟨8, by decide, by rw [if_pos h1, if_neg h2]⟩
      · exact ⟨6, by decide, by rw [if_neg h1]⟩
    rw [hres] at a18
    simp only [↓(a18 _).run, ↓(a17 _).run, hw, go_sem, Nat.reduceEqDiff, Nat.reduceAdd, Nat.reduceLeDiff, Int.reduceEq, Int.reduceLT, Int.reduceLE, Int.reduceAdd, Int.reduceSub, Int.reduceMul, Int.reduceNeg, Int.reduceToNat, Nat.reduceMul]
    exact hQ
end Go.Proofs.Ytildhljhbbhmmaa.AM
namespace Go.Proofs.Ytildhljhbbhmmaa.AM
open Go
set_option maxRecDepth 100000
set_option linter.all false
def k120 : MCode := (.seq (.ops [⟨(some 4), none, false, (.mov (.const (.string ⟨#[]⟩)))⟩]) (.seq (.ops [⟨(some 7), none, false, (.mov (.tmp 1))⟩, ⟨(some 8), none, false, (.mkSlice [(.int .u8 0)] 1 1 (.tmp 7) (.tmp 7))⟩, ⟨(some 5), none, false, (.mov (.tmp 8))⟩]) (.seq (.seq (.ops [⟨(some 9), none, false, (.mov (.tmp 1))⟩, ⟨(some 10), none, false, (.bin .int .sub (.tmp 9) (.const (.int .i64 1)))⟩, ⟨(some 6), none, false, (.mov (.tmp 10))⟩]) (.block 0 (.loop (.seq (.seq (.ops [⟨(some 11), none, false, (.mov (.tmp 6))⟩, ⟨(some 12), none, false, (.bin .int .geq (.tmp 11) (.const (.int .i64 0)))⟩]) (.cond (.tmp 12) .skip (.exit 0))) (.seq (.block 1 (.seq (.ops [⟨(some 15), none, false, (.mov (.tmp 5))⟩, ⟨(some 16), none, false, (.mov (.tmp 6))⟩, ⟨(some 17), none, false, (.mov (.tmp 0))⟩, ⟨(some 18), none, false, (.conv .u8 (.tmp 17))⟩, ⟨(some 19), none, false, (.idxS 1 (.tmp 15) (.tmp 16))⟩, ⟨none, none, false, (.store 1 (.tmp 19) (.tmp 18))⟩]) (.ops [⟨(some 20), none, false, (.mov (.tmp 0))⟩, ⟨(some 21), none, false, (.bin .int .shr (.tmp 20) (.const (.int .u64 8)))⟩, ⟨(some 0), none, false, (.mov (.tmp 21))⟩]))) (.ops [⟨(some 13), none, false, (.mov (.tmp 6))⟩, ⟨(some 14), none, false, (.bin .int .sub (.tmp 13) (.const (.int .i64 1)))⟩, ⟨(some 6), none, false, (.mov (.tmp 14))⟩])))))) (.seq (.ops [⟨(some 22), none, false, (.mov (.tmp 5))⟩, ⟨(some 23), none, false, (.toStr (.tmp 22))⟩, ⟨(some 4), none, false, (.mov (.tmp 23))⟩]) .ret))))
def m120 : MFun := ⟨k120, [(.tmp 4)]⟩
theorem c120 : compFn Try.prog Try.f120 = some m120 := by kernel_rfl
def k107 : MCode := (.seq (.ops [⟨(some 6), none, false, (.mov (.const (.string ⟨#[]⟩)))⟩, ⟨(some 7), none, false, (.mov (.const (.string ⟨#[]⟩)))⟩]) (.seq (.ops [⟨(some 12), none, false, (.mov (.tmp 0))⟩, ⟨(some 13), none, false, (.sliceStr (.tmp 12) (some (.const (.int .i64 8))) none)⟩, ⟨(some 8), none, false, (.mov (.tmp 13))⟩]) (.seq (.ops [⟨(some 9), none, false, (.mov (.const (.int .i64 0)))⟩]) (.seq (.seq (.ops [⟨(some 10), none, false, (.mov (.const (.int .i64 8)))⟩]) (.block 0 (.loop (.seq (.seq (.ops [⟨(some 14), none, false, (.mov (.tmp 10))⟩, ⟨(some 15), none, false, (.bin .int .lss (.tmp 14) (.const (.int .i64 12)))⟩]) (.cond (.tmp 15) .skip (.exit 0))) (.seq (.block 1 (.ops [⟨(some 18), none, false, (.mov (.tmp 9))⟩, ⟨(some 19), none, false, (.bin .int .shl (.tmp 18) (.const (.int .u64 8)))⟩, ⟨(some 20), none, false, (.mov (.tmp 8))⟩, ⟨(some 21), none, false, (.mov (.tmp 10))⟩, ⟨(some 22), none, false, (.strIdx (.tmp 20) (.tmp 21))⟩, ⟨(some 23), none, false, (.conv .i64 (.tmp 22))⟩, ⟨(some 24), none, false, (.bin .int .or (.tmp 19) (.tmp 23))⟩, ⟨(some 9), none, false, (.mov (.tmp 24))⟩])) (.ops [⟨(some 16), none, false, (.mov (.tmp 10))⟩, ⟨(some 17), none, false, (.bin .int .add (.tmp 16) (.const (.int .i64 1)))⟩, ⟨(some 10), none, false, (.mov (.tmp 17))⟩])))))) (.seq (.ops [⟨(some 11), none, false, (.mov (.const (.string ⟨#[0]⟩)))⟩]) (.seq (.seq (.ops [⟨(some 25), none, false, (.mov (.tmp 2))⟩]) (.cond (.tmp 25) (.ops [⟨(some 11), none, false, (.mov (.const (.string ⟨#[1]⟩)))⟩]) .skip)) (.seq (.opsD [⟨(some 26), none, false, (.mov (.tmp 8))⟩, ⟨(some 27), none, false, (.sliceStr (.tmp 26) none (some (.const (.int .i64 8))))⟩, ⟨(some 28), none, false, (.mov (.tmp 9))⟩, ⟨(some 29), none, false, (.mov (.tmp 1))⟩, ⟨(some 30), none, false, (.bin .int .add (.tmp 28) (.tmp 29))⟩, ⟨(some 31), none, false, (.call false (.func 120) [(.tmp 30), (.const (.int .i64 4))])⟩, ⟨(some 32), none, false, (.bin .str .add (.tmp 27) (.tmp 31))⟩, ⟨(some 33), none, false, (.mov (.tmp 0))⟩, ⟨(some 34), none, false, (.mov (.tmp 1))⟩, ⟨(some 35), none, false, (.call false (.func 120) [(.tmp 34), (.const (.int .i64 8))])⟩, ⟨(some 36), none, false, (.mov (.tmp 11))⟩, ⟨(some 37), none, false, (.buildSlice [(.string ⟨#[]⟩), (.string ⟨#[]⟩), (.string ⟨#[]⟩)] 1 3 [(0, (1, (.tmp 33))), (1, (1, (.tmp 35))), (2, (1, (.tmp 36)))])⟩, ⟨(some 38), none, false, (.call false (.func 113) [(.tmp 37)])⟩, ⟨(some 6), none, false, (.mov (.tmp 32))⟩, ⟨(some 7), none, false, (.mov (.tmp 38))⟩]) .ret)))))))
def m107 : MFun := ⟨k107, [(.tmp 6), (.tmp 7)]⟩
theorem c107 : compFn Try.prog Try.f107 = some m107 := by kernel_rfl
def k104 : MCode := (.seq (.ops [⟨(some 5), none, false, (.box 1 (.tmp 0))⟩, ⟨(some 10), none, false, (.mov (.const (.string ⟨#[]⟩)))⟩, ⟨(some 11), none, false, (.mov (.const (.bool false)))⟩]) (.seq (.ops [⟨(some 15), none, false, (.mov (.tmp 1))⟩, ⟨(some 16), none, false, (.mov (.tmp 2))⟩, ⟨(some 17), none, false, (.mov (.tmp 3))⟩, ⟨(some 18), none, false, (.call false (.func 107) [(.tmp 15), (.tmp 16), (.tmp 17)])⟩, ⟨(some 14), none, false, (.mov (.tmp 18))⟩, ⟨(some 19), none, false, (.extract (.tmp 14) 0)⟩, ⟨(some 20), none, false, (.extract (.tmp 14) 1)⟩, ⟨(some 12), none, false, (.mov (.tmp 19))⟩, ⟨(some 13), none, false, (.mov (.tmp 20))⟩]) (.seq (.ops [⟨(some 21), none, false, (.addOff 0 (.tmp 5))⟩, ⟨(some 22), none, false, (.load false 1 (.tmp 21))⟩, ⟨(some 23), none, false, (.mov (.tmp 12))⟩, ⟨(some 24), none, false, (.mov (.tmp 13))⟩, ⟨(some 25), none, false, (.mov (.tmp 4))⟩, ⟨(some 26), none, false, (.call false (.func 58) [(.tmp 22), (.tmp 23), (.tmp 24), (.tmp 25)])⟩, ⟨(some 27), none, false, (.extract (.tmp 26) 0)⟩, ⟨(some 28), none, false, (.extract (.tmp 26) 1)⟩, ⟨(some 10), none, false, (.mov (.tmp 27))⟩, ⟨(some 11), none, false, (.mov (.tmp 28))⟩]) .ret)))
def m104 : MFun := ⟨k104, [(.tmp 10), (.tmp 11)]⟩
theorem c104 : compFn Try.prog Try.f104 = some m104 := by kernel_rfl
def k85 : MCode := (.seq (.ops [⟨(some 5), none, false, (.box 1 (.tmp 0))⟩, ⟨(some 10), none, false, (.mov (.const (.string ⟨#[]⟩)))⟩]) (.seq (.ops [⟨(some 14), none, false, (.mov (.tmp 1))⟩, ⟨(some 15), none, false, (.mov (.tmp 2))⟩, ⟨(some 16), none, false, (.mov (.tmp 3))⟩, ⟨(some 17), none, false, (.call false (.func 107) [(.tmp 14), (.tmp 15), (.tmp 16)])⟩, ⟨(some 13), none, false, (.mov (.tmp 17))⟩, ⟨(some 18), none, false, (.extract (.tmp 13) 0)⟩, ⟨(some 19), none, false, (.extract (.tmp 13) 1)⟩, ⟨(some 11), none, false, (.mov (.tmp 18))⟩, ⟨(some 12), none, false, (.mov (.tmp 19))⟩]) (.seq (.ops [⟨(some 20), none, false, (.addOff 0 (.tmp 5))⟩, ⟨(some 21), none, false, (.load false 1 (.tmp 20))⟩, ⟨(some 22), none, false, (.mov (.tmp 11))⟩, ⟨(some 23), none, false, (.mov (.tmp 12))⟩, ⟨(some 24), none, false, (.mov (.tmp 4))⟩, ⟨(some 25), none, false, (.call false (.func 57) [(.tmp 21), (.tmp 22), (.tmp 23), (.tmp 24)])⟩, ⟨(some 10), none, false, (.mov (.tmp 25))⟩]) .ret)))
def m85 : MFun := ⟨k85, [(.tmp 10)]⟩
theorem c85 : compFn Try.prog Try.f85 = some m85 := by kernel_rfl
def k78 : MCode := (.seq (.ops [⟨(some 1), none, false, (.box 1 (.tmp 0))⟩, ⟨(some 2), none, false, (.mov (.const (.int .i64 0)))⟩]) (.seq (.seq (.ops [⟨(some 3), none, false, (.addOff 0 (.tmp 1))⟩, ⟨(some 4), none, false, (.load false 1 (.tmp 3))⟩, ⟨(some 5), none, false, (.lenStr (.tmp 4))⟩, ⟨(some 6), none, false, (.bin .int .neq (.tmp 5) (.const (.int .i64 32)))⟩, ⟨(some 7), none, false, (.mov (.tmp 6))⟩, ⟨(some 8), (some (7, false)), false, (.addOff 1 (.tmp 1))⟩, ⟨(some 9), (some (7, false)), false, (.load false 1 (.tmp 8))⟩, ⟨(some 10), (some (7, false)), false, (.lenStr (.tmp 9))⟩, ⟨(some 11), (some (7, false)), false, (.bin .int .neq (.tmp 10) (.const (.int .i64 32)))⟩, ⟨(some 12), none, false, (.pick (.tmp 7) (.const (.bool true)) (.tmp 11))⟩, ⟨(some 13), none, false, (.mov (.tmp 12))⟩, ⟨(some 14), (some (13, false)), false, (.addOff 2 (.tmp 1))⟩, ⟨(some 15), (some (13, false)), false, (.load false 1 (.tmp 14))⟩, ⟨(some 16), (some (13, false)), false, (.lenStr (.tmp 15))⟩, ⟨(some 17), (some (13, false)), false, (.bin .int .neq (.tmp 16) (.const (.int .i64 16)))⟩, ⟨(some 18), none, false, (.pick (.tmp 13) (.const (.bool true)) (.tmp 17))⟩]) (.cond (.tmp 18) (.seq (.ops [⟨(some 2), none, false, (.mov (.const (.int .i64 6)))⟩]) .ret) .skip)) (.seq (.ops [⟨(some 2), none, false, (.mov (.const (.int .i64 0)))⟩]) .ret)))
def m78 : MFun := ⟨k78, [(.tmp 2)]⟩
theorem c78 : compFn Try.prog Try.f78 = some m78 := by kernel_rfl
def k40 : MCode := (.seq (.ops [⟨(some 1), none, false, (.box 1 (.tmp 0))⟩, ⟨(some 2), none, false, (.mov (.const (.int .i64 0)))⟩]) (.seq (.seq (.ops [⟨(some 3), none, false, (.addOff 0 (.tmp 1))⟩, ⟨(some 4), none, false, (.load false 1 (.tmp 3))⟩, ⟨(some 5), none, false, (.lenStr (.tmp 4))⟩, ⟨(some 6), none, false, (.bin .int .neq (.tmp 5) (.const (.int .i64 32)))⟩, ⟨(some 7), none, false, (.mov (.tmp 6))⟩, ⟨(some 8), (some (7, false)), false, (.addOff 1 (.tmp 1))⟩, ⟨(some 9), (some (7, false)), false, (.load false 1 (.tmp 8))⟩, ⟨(some 10), (some (7, false)), false, (.lenStr (.tmp 9))⟩, ⟨(some 11), (some (7, false)), false, (.bin .int .neq (.tmp 10) (.const (.int .i64 32)))⟩, ⟨(some 12), none, false, (.pick (.tmp 7) (.const (.bool true)) (.tmp 11))⟩, ⟨(some 13), none, false, (.mov (.tmp 12))⟩, ⟨(some 14), (some (13, false)), false, (.addOff 2 (.tmp 1))⟩, ⟨(some 15), (some (13, false)), false, (.load false 1 (.tmp 14))⟩, ⟨(some 16), (some (13, false)), false, (.lenStr (.tmp 15))⟩, ⟨(some 17), (some (13, false)), false, (.bin .int .neq (.tmp 16) (.const (.int .i64 16)))⟩, ⟨(some 18), none, false, (.pick (.tmp 13) (.const (.bool true)) (.tmp 17))⟩]) (.cond (.tmp 18) (.seq (.ops [⟨(some 2), none, false, (.mov (.const (.int .i64 6)))⟩]) .ret) .skip)) (.seq (.ops [⟨(some 2), none, false, (.mov (.const (.int .i64 0)))⟩]) .ret)))
def m40 : MFun := ⟨k40, [(.tmp 2)]⟩
theorem c40 : compFn Try.prog Try.f40 = some m40 := by kernel_rfl
def k102 : MCode := (.seq (.ops [⟨(some 2), none, false, (.mov (.const (.string ⟨#[]⟩)))⟩]) (.seq (.ops [⟨(some 3), none, false, (.mov (.tmp 0))⟩, ⟨(some 4), none, false, (.bin .int .shr (.tmp 3) (.const (.int .u64 24)))⟩, ⟨(some 5), none, false, (.conv .u8 (.tmp 4))⟩, ⟨(some 6), none, false, (.mov (.tmp 0))⟩, ⟨(some 7), none, false, (.bin .int .shr (.tmp 6) (.const (.int .u64 16)))⟩, ⟨(some 8), none, false, (.conv .u8 (.tmp 7))⟩, ⟨(some 9), none, false, (.mov (.tmp 0))⟩, ⟨(some 10), none, false, (.bin .int .shr (.tmp 9) (.const (.int .u64 8)))⟩, ⟨(some 11), none, false, (.conv .u8 (.tmp 10))⟩, ⟨(some 12), none, false, (.mov (.tmp 0))⟩, ⟨(some 13), none, false, (.conv .u8 (.tmp 12))⟩, ⟨(some 14), none, false, (.buildSlice [(.int .u8 0), (.int .u8 0), (.int .u8 0), (.int .u8 0)] 1 4 [(0, (1, (.tmp 5))), (1, (1, (.tmp 8))), (2, (1, (.tmp 11))), (3, (1, (.tmp 13)))])⟩, ⟨(some 15), none, false, (.toStr (.tmp 14))⟩, ⟨(some 2), none, false, (.mov (.tmp 15))⟩]) .ret))
def m102 : MFun := ⟨k102, [(.tmp 2)]⟩
theorem c102 : compFn Try.prog Try.f102 = some m102 := by kernel_rfl
def k77 : MCode := (.seq (.ops [⟨(some 2), none, false, (.mov (.const (.string ⟨#[]⟩)))⟩]) (.seq (.ops [⟨(some 3), none, false, (.mov (.tmp 0))⟩, ⟨(some 4), none, false, (.bin .int .shr (.tmp 3) (.const (.int .u64 32)))⟩, ⟨(some 5), none, false, (.conv .u32 (.tmp 4))⟩, ⟨(some 6), none, false, (.call false (.func 102) [(.tmp 5)])⟩, ⟨(some 7), none, false, (.mov (.tmp 0))⟩, ⟨(some 8), none, false, (.conv .u32 (.tmp 7))⟩, ⟨(some 9), none, false, (.call false (.func 102) [(.tmp 8)])⟩, ⟨(some 10), none, false, (.bin .str .add (.tmp 6) (.tmp 9))⟩, ⟨(some 2), none, false, (.mov (.tmp 10))⟩]) .ret))
def m77 : MFun := ⟨k77, [(.tmp 2)]⟩
theorem c77 : compFn Try.prog Try.f77 = some m77 := by kernel_rfl
def k103 : MCode := (.seq (.ops [⟨(some 4), none, false, (.mov (.const (.int .u32 0)))⟩]) (.seq (.opsD [⟨(some 5), none, false, (.mov (.tmp 0))⟩, ⟨(some 6), none, false, (.mov (.tmp 1))⟩, ⟨(some 7), none, false, (.strIdx (.tmp 5) (.tmp 6))⟩, ⟨(some 8), none, false, (.conv .u32 (.tmp 7))⟩, ⟨(some 9), none, false, (.bin .int .shl (.tmp 8) (.const (.int .u64 24)))⟩, ⟨(some 10), none, false, (.mov (.tmp 0))⟩, ⟨(some 11), none, false, (.mov (.tmp 1))⟩, ⟨(some 12), none, false, (.bin .int .add (.tmp 11) (.const (.int .i64 1)))⟩, ⟨(some 13), none, false, (.strIdx (.tmp 10) (.tmp 12))⟩, ⟨(some 14), none, false, (.conv .u32 (.tmp 13))⟩, ⟨(some 15), none, false, (.bin .int .shl (.tmp 14) (.const (.int .u64 16)))⟩, ⟨(some 16), none, false, (.bin .int .or (.tmp 9) (.tmp 15))⟩, ⟨(some 17), none, false, (.mov (.tmp 0))⟩, ⟨(some 18), none, false, (.mov (.tmp 1))⟩, ⟨(some 19), none, false, (.bin .int .add (.tmp 18) (.const (.int .i64 2)))⟩, ⟨(some 20), none, false, (.strIdx (.tmp 17) (.tmp 19))⟩, ⟨(some 21), none, false, (.conv .u32 (.tmp 20))⟩, ⟨(some 22), none, false, (.bin .int .shl (.tmp 21) (.const (.int .u64 8)))⟩, ⟨(some 23), none, false, (.bin .int .or (.tmp 16) (.tmp 22))⟩, ⟨(some 24), none, false, (.mov (.tmp 0))⟩, ⟨(some 25), none, false, (.mov (.tmp 1))⟩, ⟨(some 26), none, false, (.bin .int .add (.tmp 25) (.const (.int .i64 3)))⟩, ⟨(some 27), none, false, (.strIdx (.tmp 24) (.tmp 26))⟩, ⟨(some 28), none, false, (.conv .u32 (.tmp 27))⟩, ⟨(some 29), none, false, (.bin .int .or (.tmp 23) (.tmp 28))⟩, ⟨(some 4), none, false, (.mov (.tmp 29))⟩]) .ret))
def m103 : MFun := ⟨k103, [(.tmp 4)]⟩
theorem c103 : compFn Try.prog Try.f103 = some m103 := by kernel_rfl
def k76 : MCode := (.seq (.ops [⟨(some 4), none, false, (.mov (.const (.string ⟨#[]⟩)))⟩]) (.seq (.opsD [⟨(some 5), none, false, (.mov (.tmp 0))⟩, ⟨(some 6), none, false, (.sliceStr (.tmp 5) none (some (.const (.int .i64 8))))⟩, ⟨(some 7), none, false, (.mov (.tmp 0))⟩, ⟨(some 8), none, false, (.call false (.func 103) [(.tmp 7), (.const (.int .i64 8))])⟩, ⟨(some 9), none, false, (.mov (.tmp 1))⟩, ⟨(some 10), none, false, (.conv .u32 (.tmp 9))⟩, ⟨(some 11), none, false, (.bin .int .add (.tmp 8) (.tmp 10))⟩, ⟨(some 12), none, false, (.call false (.func 102) [(.tmp 11)])⟩, ⟨(some 13), none, false, (.bin .str .add (.tmp 6) (.tmp 12))⟩, ⟨(some 4), none, false, (.mov (.tmp 13))⟩]) .ret))
def m76 : MFun := ⟨k76, [(.tmp 4)]⟩
theorem c76 : compFn Try.prog Try.f76 = some m76 := by kernel_rfl
def k84 : MCode := (.seq (.ops [⟨(some 2), none, false, (.mov (.const (.string ⟨#[]⟩)))⟩]) (.seq (.seq (.ops [⟨(some 3), none, false, (.mov (.tmp 0))⟩, ⟨(some 4), none, false, (.nilCheck (.tmp 3))⟩, ⟨(some 5), none, false, (.addOff 4 (.tmp 4))⟩, ⟨(some 6), none, false, (.load false 1 (.tmp 5))⟩]) (.cond (.tmp 6) (.seq (.ops [⟨(some 2), none, false, (.mov (.const (.string ⟨#[]⟩)))⟩]) .ret) .skip)) (.seq (.ops [⟨(some 7), none, false, (.mov (.tmp 0))⟩, ⟨(some 8), none, false, (.nilCheck (.tmp 7))⟩, ⟨(some 9), none, false, (.addOff 4 (.tmp 8))⟩, ⟨none, none, false, (.store 1 (.tmp 9) (.const (.bool true)))⟩]) (.seq (.ops [⟨(some 10), none, false, (.mov (.tmp 0))⟩, ⟨(some 11), none, false, (.nilCheck (.tmp 10))⟩, ⟨(some 12), none, false, (.addOff 3 (.tmp 11))⟩, ⟨(some 13), none, false, (.load false 1 (.tmp 12))⟩, ⟨(some 2), none, false, (.mov (.tmp 13))⟩]) .ret))))
def m84 : MFun := ⟨k84, [(.tmp 2)]⟩
theorem c84 : compFn Try.prog Try.f84 = some m84 := by kernel_rfl
def k52 : MCode := (.seq (.ops [⟨(some 2), none, false, (.mov (.const (.string ⟨#[]⟩)))⟩, ⟨(some 3), none, false, (.mov (.const (.int .i64 0)))⟩]) (.seq (.seq (.ops [⟨(some 4), none, false, (.mov (.tmp 0))⟩, ⟨(some 5), none, false, (.nilCheck (.tmp 4))⟩, ⟨(some 6), none, false, (.addOff 5 (.tmp 5))⟩, ⟨(some 7), none, false, (.load false 1 (.tmp 6))⟩]) (.cond (.tmp 7) (.seq (.ops [⟨(some 2), none, false, (.mov (.const (.string ⟨#[]⟩)))⟩, ⟨(some 3), none, false, (.mov (.const (.int .i64 22)))⟩]) .ret) .skip)) (.seq (.ops [⟨(some 8), none, false, (.mov (.tmp 0))⟩, ⟨(some 9), none, false, (.nilCheck (.tmp 8))⟩, ⟨(some 10), none, false, (.addOff 5 (.tmp 9))⟩, ⟨none, none, false, (.store 1 (.tmp 10) (.const (.bool true)))⟩]) (.seq (.opsD [⟨(some 11), none, false, (.mov (.tmp 0))⟩, ⟨(some 12), none, false, (.call true (.func 84) [(.tmp 11)])⟩, ⟨(some 13), none, false, (.mov (.tmp 0))⟩, ⟨(some 14), none, false, (.nilCheck (.tmp 13))⟩, ⟨(some 15), none, false, (.addOff 0 (.tmp 14))⟩, ⟨(some 16), none, true, (.load true 3 (.tmp 15))⟩, ⟨(some 17), none, false, (.mov (.tmp 0))⟩, ⟨(some 18), none, false, (.nilCheck (.tmp 17))⟩, ⟨(some 19), none, false, (.addOff 3 (.tmp 18))⟩, ⟨(some 20), none, true, (.load false 1 (.tmp 19))⟩, ⟨(some 21), none, false, (.mov (.tmp 0))⟩, ⟨(some 22), none, false, (.nilCheck (.tmp 21))⟩, ⟨(some 23), none, false, (.addOff 7 (.tmp 22))⟩, ⟨(some 24), none, true, (.load false 1 (.tmp 23))⟩, ⟨(some 25), none, false, (.mov (.tmp 0))⟩, ⟨(some 26), none, false, (.nilCheck (.tmp 25))⟩, ⟨(some 27), none, false, (.addOff 6 (.tmp 26))⟩, ⟨(some 28), none, true, (.load false 1 (.tmp 27))⟩, ⟨(some 29), none, false, (.call false (.func 85) [(.tmp 16), (.tmp 20), (.tmp 24), (.const (.bool true)), (.tmp 28)])⟩, ⟨(some 30), none, false, (.bin .str .add (.tmp 12) (.tmp 29))⟩, ⟨(some 2), none, false, (.mov (.tmp 30))⟩, ⟨(some 3), none, false, (.mov (.const (.int .i64 0)))⟩]) .ret))))
def m52 : MFun := ⟨k52, [(.tmp 2), (.tmp 3)]⟩
theorem c52 : compFn Try.prog Try.f52 = some m52 := by kernel_rfl
def k50 : MCode := (.seq (.ops [⟨(some 2), none, false, (.box 1 (.tmp 0))⟩, ⟨(some 4), none, false, (.mov (.const (.pointer none)))⟩, ⟨(some 5), none, false, (.mov (.const (.int .i64 0)))⟩]) (.seq (.seq (.ops [⟨(some 7), none, false, (.load true 3 (.tmp 2))⟩, ⟨(some 8), none, false, (.call false (.func 78) [(.tmp 7)])⟩, ⟨(some 6), none, false, (.mov (.tmp 8))⟩]) (.seq (.ops [⟨(some 9), none, false, (.mov (.tmp 6))⟩, ⟨(some 10), none, false, (.bin .int .neq (.tmp 9) (.const (.int .i64 0)))⟩]) (.cond (.tmp 10) (.seq (.ops [⟨(some 11), none, false, (.mov (.tmp 6))⟩, ⟨(some 4), none, false, (.mov (.const (.pointer none)))⟩, ⟨(some 5), none, false, (.mov (.tmp 11))⟩]) .ret) .skip))) (.seq (.seq (.ops [⟨(some 12), none, false, (.mov (.tmp 1))⟩, ⟨(some 13), none, false, (.lenStr (.tmp 12))⟩, ⟨(some 14), none, false, (.bin .int .neq (.tmp 13) (.const (.int .i64 12)))⟩]) (.cond (.tmp 14) (.seq (.ops [⟨(some 4), none, false, (.mov (.const (.pointer none)))⟩, ⟨(some 5), none, false, (.mov (.const (.int .i64 6)))⟩]) .ret) .skip)) (.seq (.ops [⟨(some 15), none, false, (.load true 3 (.tmp 2))⟩, ⟨(some 16), none, false, (.mov (.tmp 1))⟩, ⟨(some 17), none, false, (.bin .str .add (.const (.string ⟨#[87, 72, 83, 69, 65, 76, 48, 49]⟩)) (.tmp 16))⟩, ⟨(some 18), none, false, (.build [(.string ⟨#[]⟩), (.string ⟨#[]⟩), (.string ⟨#[]⟩), (.string ⟨#[]⟩), (.bool false), (.bool false), (.string ⟨#[]⟩), (.int .i64 0), (.int .i64 0)] [(0, (3, (.tmp 15))), (3, (1, (.tmp 17)))])⟩, ⟨(some 19), none, false, (.box 1 (.tmp 18))⟩, ⟨(some 4), none, false, (.mov (.tmp 19))⟩, ⟨(some 5), none, false, (.mov (.const (.int .i64 0)))⟩]) .ret))))
def m50 : MFun := ⟨k50, [(.tmp 4), (.tmp 5)]⟩
theorem c50 : compFn Try.prog Try.f50 = some m50 := by kernel_rfl
def k44 : MCode := (.seq (.ops [⟨(some 3), none, false, (.box 1 (.tmp 0))⟩, ⟨(some 6), none, false, (.mov (.const (.string ⟨#[]⟩)))⟩, ⟨(some 7), none, false, (.mov (.const (.int .i64 0)))⟩]) (.seq (.ops [⟨(some 15), none, false, (.load true 3 (.tmp 3))⟩, ⟨(some 16), none, false, (.mov (.tmp 1))⟩, ⟨(some 17), none, false, (.call false (.func 50) [(.tmp 15), (.tmp 16)])⟩, ⟨(some 14), none, false, (.mov (.tmp 17))⟩, ⟨(some 18), none, false, (.extract (.tmp 14) 0)⟩, ⟨(some 19), none, false, (.extract (.tmp 14) 1)⟩, ⟨(some 8), none, false, (.mov (.tmp 18))⟩, ⟨(some 9), none, false, (.mov (.tmp 19))⟩]) (.seq (.seq (.ops [⟨(some 20), none, false, (.mov (.tmp 9))⟩, ⟨(some 21), none, false, (.bin .int .neq (.tmp 20) (.const (.int .i64 0)))⟩]) (.cond (.tmp 21) (.seq (.ops [⟨(some 22), none, false, (.mov (.tmp 9))⟩, ⟨(some 6), none, false, (.mov (.const (.string ⟨#[]⟩)))⟩, ⟨(some 7), none, false, (.mov (.tmp 22))⟩]) .ret) .skip)) (.seq (.seq (.ops [⟨(some 23), none, false, (.mov (.tmp 2))⟩, ⟨(some 24), none, false, (.lenStr (.tmp 23))⟩, ⟨(some 25), none, false, (.bin .int .gtr (.tmp 24) (.const (.int .i64 1048576)))⟩]) (.cond (.tmp 25) (.seq (.ops [⟨(some 6), none, false, (.mov (.const (.string ⟨#[]⟩)))⟩, ⟨(some 7), none, false, (.mov (.const (.int .i64 8)))⟩]) .ret) .skip)) (.seq (.ops [⟨(some 27), none, false, (.mov (.tmp 8))⟩, ⟨(some 28), none, false, (.mov (.tmp 2))⟩, ⟨(some 29), none, false, (.call false (.func 51) [(.tmp 27), (.tmp 28)])⟩, ⟨(some 26), none, false, (.mov (.tmp 29))⟩, ⟨(some 30), none, false, (.extract (.tmp 26) 0)⟩, ⟨(some 31), none, false, (.extract (.tmp 26) 1)⟩, ⟨(some 10), none, false, (.mov (.tmp 30))⟩, ⟨(some 11), none, false, (.mov (.tmp 31))⟩]) (.seq (.ops [⟨(some 33), none, false, (.mov (.tmp 8))⟩, ⟨(some 34), none, false, (.call false (.func 52) [(.tmp 33)])⟩, ⟨(some 32), none, false, (.mov (.tmp 34))⟩, ⟨(some 35), none, false, (.extract (.tmp 32) 0)⟩, ⟨(some 36), none, false, (.extract (.tmp 32) 1)⟩, ⟨(some 12), none, false, (.mov (.tmp 35))⟩, ⟨(some 13), none, false, (.mov (.tmp 36))⟩]) (.seq (.ops [⟨(some 37), none, false, (.mov (.tmp 10))⟩, ⟨(some 38), none, false, (.mov (.tmp 12))⟩, ⟨(some 39), none, false, (.bin .str .add (.tmp 37) (.tmp 38))⟩, ⟨(some 6), none, false, (.mov (.tmp 39))⟩, ⟨(some 7), none, false, (.mov (.const (.int .i64 0)))⟩]) .ret)))))))
def m44 : MFun := ⟨k44, [(.tmp 6), (.tmp 7)]⟩
theorem c44 : compFn Try.prog Try.f44 = some m44 := by kernel_rfl
def k48 : MCode := (.seq (.ops [⟨(some 2), none, false, (.box 1 (.tmp 0))⟩, ⟨(some 4), none, false, (.mov (.const (.string ⟨#[]⟩)))⟩, ⟨(some 5), none, false, (.mov (.const (.int .i64 0)))⟩]) (.seq (.seq (.ops [⟨(some 11), none, false, (.load true 3 (.tmp 2))⟩, ⟨(some 12), none, false, (.call false (.func 78) [(.tmp 11)])⟩, ⟨(some 6), none, false, (.mov (.tmp 12))⟩]) (.seq (.ops [⟨(some 13), none, false, (.mov (.tmp 6))⟩, ⟨(some 14), none, false, (.bin .int .neq (.tmp 13) (.const (.int .i64 0)))⟩]) (.cond (.tmp 14) (.seq (.ops [⟨(some 15), none, false, (.mov (.tmp 6))⟩, ⟨(some 4), none, false, (.mov (.const (.string ⟨#[]⟩)))⟩, ⟨(some 5), none, false, (.mov (.tmp 15))⟩]) .ret) .skip))) (.seq (.ops [⟨(some 17), none, false, (.mov (.tmp 1))⟩, ⟨(some 18), none, false, (.lenStr (.tmp 17))⟩, ⟨(some 19), none, false, (.call false (.func 16) [(.tmp 18)])⟩, ⟨(some 16), none, false, (.mov (.tmp 19))⟩, ⟨(some 20), none, false, (.extract (.tmp 16) 0)⟩, ⟨(some 21), none, false, (.extract (.tmp 16) 1)⟩, ⟨(some 7), none, false, (.mov (.tmp 20))⟩, ⟨(some 8), none, false, (.mov (.tmp 21))⟩]) (.seq (.seq (.ops [⟨(some 22), none, false, (.mov (.tmp 8))⟩, ⟨(some 23), none, false, (.bin .int .neq (.tmp 22) (.const (.int .i64 0)))⟩]) (.cond (.tmp 23) (.seq (.ops [⟨(some 4), none, false, (.mov (.const (.string ⟨#[]⟩)))⟩, ⟨(some 5), none, false, (.mov (.const (.int .i64 19)))⟩]) .ret) .skip)) (.seq (.opsD [⟨(some 25), none, false, (.load true 3 (.tmp 2))⟩, ⟨(some 26), none, false, (.mov (.tmp 1))⟩, ⟨(some 27), none, false, (.sliceStr (.tmp 26) none (some (.const (.int .i64 20))))⟩, ⟨(some 28), none, false, (.mov (.tmp 1))⟩, ⟨(some 29), none, false, (.sliceStr (.tmp 28) (some (.const (.int .i64 20))) none)⟩, ⟨(some 30), none, false, (.mov (.tmp 7))⟩, ⟨(some 31), none, false, (.call false (.func 79) [(.tmp 25), (.tmp 27), (.tmp 29), (.tmp 30), (.const (.int .i64 0))])⟩, ⟨(some 24), none, false, (.mov (.tmp 31))⟩, ⟨(some 32), none, false, (.extract (.tmp 24) 0)⟩, ⟨(some 33), none, false, (.extract (.tmp 24) 1)⟩, ⟨(some 9), none, false, (.mov (.tmp 32))⟩, ⟨(some 10), none, false, (.mov (.tmp 33))⟩]) (.seq (.seq (.ops [⟨(some 34), none, false, (.mov (.tmp 10))⟩, ⟨(some 35), none, false, (.un .not (.tmp 34))⟩]) (.cond (.tmp 35) (.seq (.ops [⟨(some 4), none, false, (.mov (.const (.string ⟨#[]⟩)))⟩, ⟨(some 5), none, false, (.mov (.const (.int .i64 19)))⟩]) .ret) .skip)) (.seq (.ops [⟨(some 36), none, false, (.mov (.tmp 9))⟩, ⟨(some 4), none, false, (.mov (.tmp 36))⟩, ⟨(some 5), none, false, (.mov (.const (.int .i64 0)))⟩]) .ret)))))))
def m48 : MFun := ⟨k48, [(.tmp 4), (.tmp 5)]⟩
theorem c48 : compFn Try.prog Try.f48 = some m48 := by kernel_rfl
def k42 : MCode := (.seq (.ops [⟨(some 4), none, false, (.box 1 (.tmp 0))⟩, ⟨(some 5), none, false, (.box 1 (.tmp 1))⟩, ⟨(some 8), none, false, (.mov (.const (.string ⟨#[]⟩)))⟩, ⟨(some 9), none, false, (.mov (.const (.int .i64 0)))⟩]) (.seq (.ops [⟨(some 13), none, false, (.load true 3 (.tmp 4))⟩, ⟨(some 14), none, false, (.mov (.tmp 3))⟩, ⟨(some 15), none, false, (.call false (.func 48) [(.tmp 13), (.tmp 14)])⟩, ⟨(some 12), none, false, (.mov (.tmp 15))⟩, ⟨(some 16), none, false, (.extract (.tmp 12) 0)⟩, ⟨(some 17), none, false, (.extract (.tmp 12) 1)⟩, ⟨(some 10), none, false, (.mov (.tmp 16))⟩, ⟨(some 11), none, false, (.mov (.tmp 17))⟩]) (.seq (.seq (.ops [⟨(some 18), none, false, (.mov (.tmp 11))⟩, ⟨(some 19), none, false, (.bin .int .neq (.tmp 18) (.const (.int .i64 0)))⟩]) (.cond (.tmp 19) (.seq (.ops [⟨(some 20), none, false, (.mov (.tmp 11))⟩, ⟨(some 8), none, false, (.mov (.const (.string ⟨#[]⟩)))⟩, ⟨(some 9), none, false, (.mov (.tmp 20))⟩]) .ret) .skip)) (.seq (.ops [⟨(some 21), none, false, (.load true 3 (.tmp 5))⟩, ⟨(some 22), none, false, (.mov (.tmp 2))⟩, ⟨(some 23), none, false, (.mov (.tmp 10))⟩, ⟨(some 24), none, false, (.call false (.func 44) [(.tmp 21), (.tmp 22), (.tmp 23)])⟩, ⟨(some 25), none, false, (.extract (.tmp 24) 0)⟩, ⟨(some 26), none, false, (.extract (.tmp 24) 1)⟩, ⟨(some 8), none, false, (.mov (.tmp 25))⟩, ⟨(some 9), none, false, (.mov (.tmp 26))⟩]) .ret))))
def m42 : MFun := ⟨k42, [(.tmp 8), (.tmp 9)]⟩
theorem c42 : compFn Try.prog Try.f42 = some m42 := by kernel_rfl
def k53 : MCode := (.seq (.ops [⟨(some 6), none, false, (.mov (.const (.int .i64 0)))⟩, ⟨(some 7), none, false, (.mov (.const (.int .i64 0)))⟩, ⟨(some 8), none, false, (.mov (.const (.int .i64 0)))⟩]) (.seq (.seq (.ops [⟨(some 13), none, false, (.mov (.tmp 0))⟩, ⟨(some 14), none, false, (.bin .int .lss (.tmp 13) (.const (.int .i64 0)))⟩, ⟨(some 15), none, false, (.mov (.tmp 14))⟩, ⟨(some 16), (some (15, false)), false, (.mov (.tmp 0))⟩, ⟨(some 17), (some (15, false)), false, (.bin .int .gtr (.tmp 16) (.const (.int .i64 1048576)))⟩, ⟨(some 18), none, false, (.pick (.tmp 15) (.const (.bool true)) (.tmp 17))⟩, ⟨(some 19), none, false, (.mov (.tmp 18))⟩, ⟨(some 20), (some (19, false)), false, (.mov (.tmp 1))⟩, ⟨(some 21), (some (19, false)), false, (.bin .int .lss (.tmp 20) (.const (.int .i64 0)))⟩, ⟨(some 22), none, false, (.pick (.tmp 19) (.const (.bool true)) (.tmp 21))⟩, ⟨(some 23), none, false, (.mov (.tmp 22))⟩, ⟨(some 24), (some (23, false)), false, (.mov (.tmp 2))⟩, ⟨(some 25), (some (23, false)), false, (.bin .int .lss (.tmp 24) (.const (.int .i64 0)))⟩, ⟨(some 26), none, false, (.pick (.tmp 23) (.const (.bool true)) (.tmp 25))⟩]) (.cond (.tmp 26) (.seq (.ops [⟨(some 6), none, false, (.mov (.const (.int .i64 0)))⟩, ⟨(some 7), none, false, (.mov (.const (.int .i64 0)))⟩, ⟨(some 8), none, false, (.mov (.const (.int .i64 7)))⟩]) .ret) .skip)) (.seq (.ops [⟨(some 27), none, false, (.mov (.tmp 2))⟩, ⟨(some 28), none, false, (.mov (.tmp 0))⟩, ⟨(some 29), none, false, (.mov (.tmp 1))⟩, ⟨(some 30), none, false, (.bin .int .sub (.tmp 28) (.tmp 29))⟩, ⟨(some 31), none, false, (.min (.tmp 27) [(.tmp 30)])⟩, ⟨(some 9), none, false, (.mov (.tmp 31))⟩]) (.seq (.seq (.ops [⟨(some 32), none, false, (.mov (.tmp 9))⟩, ⟨(some 33), none, false, (.bin .int .leq (.tmp 32) (.const (.int .i64 0)))⟩]) (.cond (.tmp 33) (.seq (.ops [⟨(some 6), none, false, (.mov (.const (.int .i64 0)))⟩, ⟨(some 7), none, false, (.mov (.const (.int .i64 0)))⟩, ⟨(some 8), none, false, (.mov (.const (.int .i64 0)))⟩]) .ret) .skip)) (.seq (.ops [⟨(some 34), none, false, (.mov (.tmp 1))⟩, ⟨(some 35), none, false, (.bin .int .quo (.tmp 34) (.const (.int .i64 1024)))⟩, ⟨(some 36), none, false, (.mov (.tmp 1))⟩, ⟨(some 37), none, false, (.mov (.tmp 9))⟩, ⟨(some 38), none, false, (.bin .int .add (.tmp 36) (.tmp 37))⟩, ⟨(some 39), none, false, (.bin .int .sub (.tmp 38) (.const (.int .i64 1)))⟩, ⟨(some 40), none, false, (.bin .int .quo (.tmp 39) (.const (.int .i64 1024)))⟩, ⟨(some 10), none, false, (.mov (.tmp 35))⟩, ⟨(some 11), none, false, (.mov (.tmp 40))⟩]) (.seq (.ops [⟨(some 41), none, false, (.mov (.tmp 10))⟩, ⟨(some 42), none, false, (.bin .int .mul (.tmp 41) (.const (.int .i64 1040)))⟩, ⟨(some 43), none, false, (.bin .int .add (.const (.int .i64 20)) (.tmp 42))⟩, ⟨(some 6), none, false, (.mov (.tmp 43))⟩]) (.seq (.ops [⟨(some 44), none, false, (.mov (.tmp 11))⟩, ⟨(some 45), none, false, (.bin .int .add (.tmp 44) (.const (.int .i64 1)))⟩, ⟨(some 46), none, false, (.bin .int .mul (.tmp 45) (.const (.int .i64 1040)))⟩, ⟨(some 47), none, false, (.bin .int .add (.const (.int .i64 20)) (.tmp 46))⟩, ⟨(some 48), none, false, (.mov (.tmp 0))⟩, ⟨(some 49), none, false, (.call false (.func 54) [(.tmp 48)])⟩, ⟨(some 50), none, false, (.min (.tmp 47) [(.tmp 49)])⟩, ⟨(some 12), none, false, (.mov (.tmp 50))⟩]) (.seq (.ops [⟨(some 51), none, false, (.mov (.tmp 6))⟩, ⟨(some 52), none, false, (.mov (.tmp 12))⟩, ⟨(some 53), none, false, (.mov (.tmp 6))⟩, ⟨(some 54), none, false, (.bin .int .sub (.tmp 52) (.tmp 53))⟩, ⟨(some 6), none, false, (.mov (.tmp 51))⟩, ⟨(some 7), none, false, (.mov (.tmp 54))⟩, ⟨(some 8), none, false, (.mov (.const (.int .i64 0)))⟩]) .ret))))))))
def m53 : MFun := ⟨k53, [(.tmp 6), (.tmp 7), (.tmp 8)]⟩
theorem c53 : compFn Try.prog Try.f53 = some m53 := by kernel_rfl
def k46 : MCode := (.seq (.ops [⟨(some 6), none, false, (.box 1 (.tmp 0))⟩, ⟨(some 12), none, false, (.mov (.const (.string ⟨#[]⟩)))⟩, ⟨(some 13), none, false, (.mov (.const (.int .i64 0)))⟩]) (.seq (.seq (.ops [⟨(some 21), none, false, (.load true 3 (.tmp 6))⟩, ⟨(some 22), none, false, (.call false (.func 78) [(.tmp 21)])⟩, ⟨(some 14), none, false, (.mov (.tmp 22))⟩]) (.seq (.ops [⟨(some 23), none, false, (.mov (.tmp 14))⟩, ⟨(some 24), none, false, (.bin .int .neq (.tmp 23) (.const (.int .i64 0)))⟩]) (.cond (.tmp 24) (.seq (.ops [⟨(some 25), none, false, (.mov (.tmp 14))⟩, ⟨(some 12), none, false, (.mov (.const (.string ⟨#[]⟩)))⟩, ⟨(some 13), none, false, (.mov (.tmp 25))⟩]) .ret) .skip))) (.seq (.ops [⟨(some 27), none, false, (.mov (.tmp 3))⟩, ⟨(some 28), none, false, (.mov (.tmp 4))⟩, ⟨(some 29), none, false, (.mov (.tmp 5))⟩, ⟨(some 30), none, false, (.call false (.func 53) [(.tmp 27), (.tmp 28), (.tmp 29)])⟩, ⟨(some 26), none, false, (.mov (.tmp 30))⟩, ⟨(some 31), none, false, (.extract (.tmp 26) 0)⟩, ⟨(some 32), none, false, (.extract (.tmp 26) 1)⟩, ⟨(some 33), none, false, (.extract (.tmp 26) 2)⟩, ⟨(some 15), none, false, (.mov (.tmp 31))⟩, ⟨(some 16), none, false, (.mov (.tmp 32))⟩, ⟨(some 17), none, false, (.mov (.tmp 33))⟩]) (.seq (.seq (.ops [⟨(some 34), none, false, (.mov (.tmp 17))⟩, ⟨(some 35), none, false, (.bin .int .neq (.tmp 34) (.const (.int .i64 0)))⟩]) (.cond (.tmp 35) (.seq (.ops [⟨(some 36), none, false, (.mov (.tmp 17))⟩, ⟨(some 12), none, false, (.mov (.const (.string ⟨#[]⟩)))⟩, ⟨(some 13), none, false, (.mov (.tmp 36))⟩]) .ret) .skip)) (.seq (.seq (.ops [⟨(some 37), none, false, (.mov (.tmp 2))⟩, ⟨(some 38), none, false, (.lenStr (.tmp 37))⟩, ⟨(some 39), none, false, (.mov (.tmp 16))⟩, ⟨(some 40), none, false, (.bin .int .neq (.tmp 38) (.tmp 39))⟩]) (.cond (.tmp 40) (.seq (.ops [⟨(some 12), none, false, (.mov (.const (.string ⟨#[]⟩)))⟩, ⟨(some 13), none, false, (.mov (.const (.int .i64 19)))⟩]) .ret) .skip)) (.seq (.ops [⟨(some 41), none, false, (.mov (.tmp 4))⟩, ⟨(some 42), none, false, (.bin .int .quo (.tmp 41) (.const (.int .i64 1024)))⟩, ⟨(some 18), none, false, (.mov (.tmp 42))⟩]) (.seq (.ops [⟨(some 44), none, false, (.load true 3 (.tmp 6))⟩, ⟨(some 45), none, false, (.mov (.tmp 1))⟩, ⟨(some 46), none, false, (.mov (.tmp 2))⟩, ⟨(some 47), none, false, (.mov (.tmp 3))⟩, ⟨(some 48), none, false, (.mov (.tmp 18))⟩, ⟨(some 49), none, false, (.call false (.func 79) [(.tmp 44), (.tmp 45), (.tmp 46), (.tmp 47), (.tmp 48)])⟩, ⟨(some 43), none, false, (.mov (.tmp 49))⟩, ⟨(some 50), none, false, (.extract (.tmp 43) 0)⟩, ⟨(some 51), none, false, (.extract (.tmp 43) 1)⟩, ⟨(some 19), none, false, (.mov (.tmp 50))⟩, ⟨(some 20), none, false, (.mov (.tmp 51))⟩]) (.seq (.seq (.ops [⟨(some 52), none, false, (.mov (.tmp 20))⟩, ⟨(some 53), none, false, (.un .not (.tmp 52))⟩]) (.cond (.tmp 53) (.seq (.ops [⟨(some 12), none, false, (.mov (.const (.string ⟨#[]⟩)))⟩, ⟨(some 13), none, false, (.mov (.const (.int .i64 19)))⟩]) .ret) .skip)) (.seq (.seq (.ops [⟨(some 54), none, false, (.mov (.tmp 19))⟩, ⟨(some 55), none, false, (.bin .str .eql (.tmp 54) (.const (.string ⟨#[]⟩)))⟩]) (.cond (.tmp 55) (.seq (.ops [⟨(some 12), none, false, (.mov (.const (.string ⟨#[]⟩)))⟩, ⟨(some 13), none, false, (.mov (.const (.int .i64 0)))⟩]) .ret) .skip)) (.seq (.ops [⟨(some 56), none, false, (.mov (.tmp 19))⟩, ⟨(some 57), none, false, (.mov (.tmp 4))⟩, ⟨(some 58), none, false, (.mov (.tmp 18))⟩, ⟨(some 59), none, false, (.bin .int .mul (.tmp 58) (.const (.int .i64 1024)))⟩, ⟨(some 60), none, false, (.bin .int .sub (.tmp 57) (.tmp 59))⟩, ⟨(some 61), none, false, (.sliceStr (.tmp 56) (some (.tmp 60)) none)⟩, ⟨(some 19), none, false, (.mov (.tmp 61))⟩]) (.seq (.ops [⟨(some 62), none, false, (.mov (.tmp 19))⟩, ⟨(some 63), none, false, (.mov (.tmp 5))⟩, ⟨(some 64), none, false, (.mov (.tmp 19))⟩, ⟨(some 65), none, false, (.lenStr (.tmp 64))⟩, ⟨(some 66), none, false, (.min (.tmp 63) [(.tmp 65)])⟩, ⟨(some 67), none, false, (.sliceStr (.tmp 62) none (some (.tmp 66)))⟩, ⟨(some 12), none, false, (.mov (.tmp 67))⟩, ⟨(some 13), none, false, (.mov (.const (.int .i64 0)))⟩]) .ret)))))))))))
def m46 : MFun := ⟨k46, [(.tmp 12), (.tmp 13)]⟩
theorem c46 : compFn Try.prog Try.f46 = some m46 := by kernel_rfl
def k41 : MCode := (.seq (.ops [⟨(some 3), none, false, (.box 1 (.tmp 0))⟩, ⟨(some 6), none, false, (.mov (.const (.string ⟨#[]⟩)))⟩]) (.seq (.ops [⟨(some 13), none, false, (.mov (.tmp 1))⟩, ⟨(some 14), none, false, (.bin .str .add (.const (.string ⟨#[87, 72, 83, 69, 65, 76, 48, 49]⟩)) (.tmp 13))⟩, ⟨(some 7), none, false, (.mov (.tmp 14))⟩]) (.seq (.ops [⟨(some 15), none, false, (.mov (.tmp 7))⟩, ⟨(some 8), none, false, (.mov (.tmp 15))⟩]) (.seq (.ops [⟨(some 16), none, false, (.mov (.tmp 2))⟩, ⟨(some 17), none, false, (.call false (.func 65) [(.tmp 16), (.const (.int .i64 1024))])⟩, ⟨(some 9), none, false, (.mov (.tmp 17))⟩]) (.seq (.seq (.ops [⟨(some 18), none, false, (.mov (.tmp 9))⟩, ⟨(some 19), none, false, (.len (.tmp 18))⟩, ⟨(some 20), none, false, (.bin .int .eql (.tmp 19) (.const (.int .i64 0)))⟩]) (.cond (.tmp 20) (.ops [⟨(some 21), none, false, (.buildSlice [(.string ⟨#[]⟩)] 1 1 [(0, (1, (.const (.string ⟨#[]⟩))))])⟩, ⟨(some 9), none, false, (.mov (.tmp 21))⟩]) .skip)) (.seq (.seq (.ops [⟨(some 22), none, false, (.mov (.tmp 9))⟩, ⟨(some 23), none, false, (.len (.tmp 22))⟩, ⟨(some 24), none, false, (.mov (.const (.int .i64 0)))⟩]) (.block 0 (.loop (.seq (.ops [⟨(some 25), none, false, (.bin .int .lss (.tmp 24) (.tmp 23))⟩]) (.seq (.cond (.tmp 25) .skip (.exit 0)) (.seq (.block 1 (.seq (.ops [⟨(some 26), none, false, (.mov (.tmp 24))⟩, ⟨(some 27), none, false, (.idxS 1 (.tmp 22) (.tmp 24))⟩, ⟨(some 28), none, false, (.load false 1 (.tmp 27))⟩, ⟨(some 10), none, false, (.mov (.tmp 26))⟩, ⟨(some 11), none, false, (.mov (.tmp 28))⟩]) (.seq (.ops [⟨(some 12), none, false, (.mov (.const (.string ⟨#[0]⟩)))⟩]) (.seq (.seq (.ops [⟨(some 29), none, false, (.mov (.tmp 10))⟩, ⟨(some 30), none, false, (.mov (.tmp 9))⟩, ⟨(some 31), none, false, (.len (.tmp 30))⟩, ⟨(some 32), none, false, (.bin .int .sub (.tmp 31) (.const (.int .i64 1)))⟩, ⟨(some 33), none, false, (.bin .int .eql (.tmp 29) (.tmp 32))⟩]) (.cond (.tmp 33) (.ops [⟨(some 12), none, false, (.mov (.const (.string ⟨#[1]⟩)))⟩]) .skip)) (.opsD [⟨(some 34), none, false, (.mov (.tmp 8))⟩, ⟨(some 35), none, false, (.addOff 0 (.tmp 3))⟩, ⟨(some 36), none, false, (.load false 1 (.tmp 35))⟩, ⟨(some 37), none, false, (.mov (.tmp 1))⟩, ⟨(some 38), none, false, (.mov (.tmp 10))⟩, ⟨(some 39), none, false, (.call true (.func 76) [(.tmp 37), (.tmp 38)])⟩, ⟨(some 40), none, false, (.mov (.tmp 7))⟩, ⟨(some 41), none, false, (.mov (.tmp 10))⟩, ⟨(some 42), none, false, (.call true (.func 77) [(.tmp 41)])⟩, ⟨(some 43), none, false, (.bin .str .add (.tmp 40) (.tmp 42))⟩, ⟨(some 44), none, false, (.mov (.tmp 12))⟩, ⟨(some 45), none, false, (.bin .str .add (.tmp 43) (.tmp 44))⟩, ⟨(some 46), none, false, (.mov (.tmp 11))⟩, ⟨(some 47), none, false, (.call false (.func 25) [(.tmp 36), (.tmp 39), (.tmp 45), (.tmp 46)])⟩, ⟨(some 48), none, false, (.bin .str .add (.tmp 34) (.tmp 47))⟩, ⟨(some 8), none, false, (.mov (.tmp 48))⟩]))))) (.ops [⟨(some 49), none, false, (.bin .int .add (.tmp 24) (.const (.int .i64 1)))⟩, ⟨(some 24), none, false, (.mov (.tmp 49))⟩]))))))) (.seq (.ops [⟨(some 50), none, false, (.mov (.tmp 8))⟩, ⟨(some 6), none, false, (.mov (.tmp 50))⟩]) .ret)))))))
def m41 : MFun := ⟨k41, [(.tmp 6)]⟩
theorem c41 : compFn Try.prog Try.f41 = some m41 := by kernel_rfl
def k43 : MCode := (.seq (.ops [⟨(some 2), none, false, (.box 1 (.tmp 0))⟩, ⟨(some 4), none, false, (.mov (.const (.string ⟨#[]⟩)))⟩, ⟨(some 5), none, false, (.mov (.const (.bool false)))⟩]) (.seq (.seq (.ops [⟨(some 14), none, false, (.mov (.tmp 1))⟩, ⟨(some 15), none, false, (.lenStr (.tmp 14))⟩, ⟨(some 16), none, false, (.bin .int .lss (.tmp 15) (.const (.int .i64 36)))⟩, ⟨(some 17), none, false, (.mov (.tmp 16))⟩, ⟨(some 18), (some (17, false)), false, (.mov (.tmp 1))⟩, ⟨(some 19), (some (17, false)), false, (.sliceStr (.tmp 18) none (some (.const (.int .i64 8))))⟩, ⟨(some 20), (some (17, false)), false, (.bin .str .neq (.tmp 19) (.const (.string ⟨#[87, 72, 83, 69, 65, 76, 48, 49]⟩)))⟩, ⟨(some 21), none, false, (.pick (.tmp 17) (.const (.bool true)) (.tmp 20))⟩]) (.cond (.tmp 21) (.seq (.ops [⟨(some 4), none, false, (.mov (.const (.string ⟨#[]⟩)))⟩, ⟨(some 5), none, false, (.mov (.const (.bool false)))⟩]) .ret) .skip)) (.seq (.ops [⟨(some 22), none, false, (.mov (.tmp 1))⟩, ⟨(some 23), none, false, (.sliceStr (.tmp 22) (some (.const (.int .i64 8))) (some (.const (.int .i64 20))))⟩, ⟨(some 6), none, false, (.mov (.tmp 23))⟩]) (.seq (.ops [⟨(some 7), none, false, (.mov (.const (.string ⟨#[]⟩)))⟩]) (.seq (.ops [⟨(some 24), none, false, (.mov (.tmp 1))⟩, ⟨(some 25), none, false, (.sliceStr (.tmp 24) (some (.const (.int .i64 20))) none)⟩, ⟨(some 8), none, false, (.mov (.tmp 25))⟩]) (.seq (.seq (.ops [⟨(some 9), none, false, (.mov (.const (.int .i64 0)))⟩]) (.block 0 (.loop (.seq (.seq (.ops [⟨(some 26), none, false, (.mov (.tmp 8))⟩, ⟨(some 27), none, false, (.bin .str .neq (.tmp 26) (.const (.string ⟨#[]⟩)))⟩, ⟨(some 28), none, false, (.mov (.tmp 27))⟩, ⟨(some 29), (some (28, false)), false, (.mov (.tmp 9))⟩, ⟨(some 30), (some (28, false)), false, (.bin .int .eql (.tmp 29) (.const (.int .i64 0)))⟩, ⟨(some 31), none, false, (.pick (.tmp 28) (.const (.bool true)) (.tmp 30))⟩]) (.cond (.tmp 31) .skip (.exit 0))) (.seq (.block 1 (.seq (.ops [⟨(some 34), none, false, (.mov (.tmp 8))⟩, ⟨(some 35), none, false, (.lenStr (.tmp 34))⟩, ⟨(some 36), none, false, (.min (.tmp 35) [(.const (.int .i64 1040))])⟩, ⟨(some 10), none, false, (.mov (.tmp 36))⟩]) (.seq (.ops [⟨(some 11), none, false, (.mov (.const (.string ⟨#[0]⟩)))⟩]) (.seq (.seq (.ops [⟨(some 37), none, false, (.mov (.tmp 10))⟩, ⟨(some 38), none, false, (.mov (.tmp 8))⟩, ⟨(some 39), none, false, (.lenStr (.tmp 38))⟩, ⟨(some 40), none, false, (.bin .int .eql (.tmp 37) (.tmp 39))⟩]) (.cond (.tmp 40) (.ops [⟨(some 11), none, false, (.mov (.const (.string ⟨#[1]⟩)))⟩]) .skip)) (.seq (.opsD [⟨(some 42), none, false, (.addOff 0 (.tmp 2))⟩, ⟨(some 43), none, false, (.load false 1 (.tmp 42))⟩, ⟨(some 44), none, false, (.mov (.tmp 6))⟩, ⟨(some 45), none, false, (.mov (.tmp 9))⟩, ⟨(some 46), none, false, (.call true (.func 76) [(.tmp 44), (.tmp 45)])⟩, ⟨(some 47), none, false, (.mov (.tmp 1))⟩, ⟨(some 48), none, false, (.sliceStr (.tmp 47) none (some (.const (.int .i64 20))))⟩, ⟨(some 49), none, false, (.mov (.tmp 9))⟩, ⟨(some 50), none, false, (.call true (.func 77) [(.tmp 49)])⟩, ⟨(some 51), none, false, (.bin .str .add (.tmp 48) (.tmp 50))⟩, ⟨(some 52), none, false, (.mov (.tmp 11))⟩, ⟨(some 53), none, false, (.bin .str .add (.tmp 51) (.tmp 52))⟩, ⟨(some 54), none, false, (.mov (.tmp 8))⟩, ⟨(some 55), none, false, (.mov (.tmp 10))⟩, ⟨(some 56), none, false, (.sliceStr (.tmp 54) none (some (.tmp 55)))⟩, ⟨(some 57), none, false, (.call false (.func 26) [(.tmp 43), (.tmp 46), (.tmp 53), (.tmp 56)])⟩, ⟨(some 41), none, false, (.mov (.tmp 57))⟩, ⟨(some 58), none, false, (.extract (.tmp 41) 0)⟩, ⟨(some 59), none, false, (.extract (.tmp 41) 1)⟩, ⟨(some 12), none, false, (.mov (.tmp 58))⟩, ⟨(some 13), none, false, (.mov (.tmp 59))⟩]) (.seq (.seq (.ops [⟨(some 60), none, false, (.mov (.tmp 13))⟩, ⟨(some 61), none, false, (.un .not (.tmp 60))⟩]) (.cond (.tmp 61) (.seq (.ops [⟨(some 4), none, false, (.mov (.const (.string ⟨#[]⟩)))⟩, ⟨(some 5), none, false, (.mov (.const (.bool false)))⟩]) .ret) .skip)) (.seq (.ops [⟨(some 62), none, false, (.mov (.tmp 7))⟩, ⟨(some 63), none, false, (.mov (.tmp 12))⟩, ⟨(some 64), none, false, (.bin .str .add (.tmp 62) (.tmp 63))⟩, ⟨(some 7), none, false, (.mov (.tmp 64))⟩]) (.ops [⟨(some 65), none, false, (.mov (.tmp 8))⟩, ⟨(some 66), none, false, (.mov (.tmp 10))⟩, ⟨(some 67), none, false, (.sliceStr (.tmp 65) (some (.tmp 66)) none)⟩, ⟨(some 8), none, false, (.mov (.tmp 67))⟩])))))))) (.ops [⟨(some 32), none, false, (.mov (.tmp 9))⟩, ⟨(some 33), none, false, (.bin .int .add (.tmp 32) (.const (.int .i64 1)))⟩, ⟨(some 9), none, false, (.mov (.tmp 33))⟩])))))) (.seq (.ops [⟨(some 68), none, false, (.mov (.tmp 7))⟩, ⟨(some 69), none, false, (.load true 3 (.tmp 2))⟩, ⟨(some 70), none, false, (.mov (.tmp 6))⟩, ⟨(some 71), none, false, (.mov (.tmp 7))⟩, ⟨(some 72), none, false, (.call false (.func 41) [(.tmp 69), (.tmp 70), (.tmp 71)])⟩, ⟨(some 73), none, false, (.mov (.tmp 1))⟩, ⟨(some 74), none, false, (.bin .str .eql (.tmp 72) (.tmp 73))⟩, ⟨(some 75), none, false, (.mov (.tmp 74))⟩, ⟨(some 76), (some (75, true)), false, (.mov (.tmp 7))⟩, ⟨(some 77), (some (75, true)), false, (.lenStr (.tmp 76))⟩, ⟨(some 78), (some (75, true)), false, (.bin .int .leq (.tmp 77) (.const (.int .i64 1048576)))⟩, ⟨(some 79), none, false, (.pick (.tmp 75) (.tmp 78) (.const (.bool false)))⟩, ⟨(some 4), none, false, (.mov (.tmp 68))⟩, ⟨(some 5), none, false, (.mov (.tmp 79))⟩]) .ret)))))))
def m43 : MFun := ⟨k43, [(.tmp 4), (.tmp 5)]⟩
theorem c43 : compFn Try.prog Try.f43 = some m43 := by kernel_rfl
def k45 : MCode := (.seq (.ops [⟨(some 6), none, false, (.mov (.const (.int .i64 0)))⟩, ⟨(some 7), none, false, (.mov (.const (.int .i64 0)))⟩]) (.seq (.ops [⟨(some 13), none, false, (.mov (.tmp 0))⟩, ⟨(some 8), none, false, (.mov (.tmp 13))⟩]) (.seq (.seq (.ops [⟨(some 14), none, false, (.mov (.tmp 2))⟩, ⟨(some 15), none, false, (.mov (.tmp 0))⟩, ⟨(some 16), none, false, (.mov (.tmp 1))⟩, ⟨(some 17), none, false, (.bin .int .sub (.tmp 15) (.tmp 16))⟩, ⟨(some 18), none, false, (.bin .int .lss (.tmp 14) (.tmp 17))⟩]) (.cond (.tmp 18) (.ops [⟨(some 19), none, false, (.mov (.tmp 1))⟩, ⟨(some 20), none, false, (.mov (.tmp 2))⟩, ⟨(some 21), none, false, (.bin .int .add (.tmp 19) (.tmp 20))⟩, ⟨(some 8), none, false, (.mov (.tmp 21))⟩]) .skip)) (.seq (.seq (.ops [⟨(some 22), none, false, (.mov (.tmp 1))⟩, ⟨(some 23), none, false, (.mov (.tmp 0))⟩, ⟨(some 24), none, false, (.bin .int .geq (.tmp 22) (.tmp 23))⟩, ⟨(some 25), none, false, (.mov (.tmp 24))⟩, ⟨(some 26), (some (25, false)), false, (.mov (.tmp 8))⟩, ⟨(some 27), (some (25, false)), false, (.mov (.tmp 1))⟩, ⟨(some 28), (some (25, false)), false, (.bin .int .leq (.tmp 26) (.tmp 27))⟩, ⟨(some 29), none, false, (.pick (.tmp 25) (.const (.bool true)) (.tmp 28))⟩]) (.cond (.tmp 29) (.seq (.ops [⟨(some 6), none, false, (.mov (.const (.int .i64 0)))⟩, ⟨(some 7), none, false, (.mov (.const (.int .i64 0)))⟩]) .ret) .skip)) (.seq (.ops [⟨(some 30), none, false, (.mov (.tmp 1))⟩, ⟨(some 31), none, false, (.bin .int .quo (.tmp 30) (.const (.int .i64 1024)))⟩, ⟨(some 32), none, false, (.mov (.tmp 8))⟩, ⟨(some 33), none, false, (.bin .int .sub (.tmp 32) (.const (.int .i64 1)))⟩, ⟨(some 34), none, false, (.bin .int .quo (.tmp 33) (.const (.int .i64 1024)))⟩, ⟨(some 9), none, false, (.mov (.tmp 31))⟩, ⟨(some 10), none, false, (.mov (.tmp 34))⟩]) (.seq (.ops [⟨(some 35), none, false, (.mov (.tmp 9))⟩, ⟨(some 36), none, false, (.bin .int .mul (.tmp 35) (.const (.int .i64 1040)))⟩, ⟨(some 37), none, false, (.bin .int .add (.const (.int .i64 20)) (.tmp 36))⟩, ⟨(some 11), none, false, (.mov (.tmp 37))⟩]) (.seq (.ops [⟨(some 38), none, false, (.mov (.tmp 0))⟩, ⟨(some 39), none, false, (.call false (.func 15) [(.tmp 38)])⟩, ⟨(some 40), none, false, (.mov (.tmp 10))⟩, ⟨(some 41), none, false, (.bin .int .add (.tmp 40) (.const (.int .i64 1)))⟩, ⟨(some 42), none, false, (.bin .int .mul (.tmp 41) (.const (.int .i64 1040)))⟩, ⟨(some 43), none, false, (.bin .int .add (.const (.int .i64 20)) (.tmp 42))⟩, ⟨(some 44), none, false, (.min (.tmp 39) [(.tmp 43)])⟩, ⟨(some 12), none, false, (.mov (.tmp 44))⟩]) (.seq (.ops [⟨(some 45), none, false, (.mov (.tmp 11))⟩, ⟨(some 46), none, false, (.mov (.tmp 12))⟩, ⟨(some 47), none, false, (.mov (.tmp 11))⟩, ⟨(some 48), none, false, (.bin .int .sub (.tmp 46) (.tmp 47))⟩, ⟨(some 6), none, false, (.mov (.tmp 45))⟩, ⟨(some 7), none, false, (.mov (.tmp 48))⟩]) .ret))))))))
def m45 : MFun := ⟨k45, [(.tmp 6), (.tmp 7)]⟩
theorem c45 : compFn Try.prog Try.f45 = some m45 := by kernel_rfl
def k88 : MCode := (.seq (.ops [⟨(some 4), none, false, (.mov (.const (.bool false)))⟩]) (.seq (.ops [⟨(some 5), none, false, (.mov (.tmp 0))⟩, ⟨(some 6), none, false, (.mov (.tmp 1))⟩, ⟨(some 7), none, false, (.call false (.func 110) [(.tmp 5), (.tmp 6)])⟩, ⟨(some 4), none, false, (.mov (.tmp 7))⟩]) .ret))
def m88 : MFun := ⟨k88, [(.tmp 4)]⟩
theorem c88 : compFn Try.prog Try.f88 = some m88 := by kernel_rfl
def k110 : MCode := (.seq (.ops [⟨(some 4), none, false, (.mov (.const (.bool false)))⟩]) (.seq (.ops [⟨(some 5), none, false, (.mov (.tmp 0))⟩, ⟨(some 6), none, false, (.lenStr (.tmp 5))⟩, ⟨(some 7), none, false, (.mov (.tmp 1))⟩, ⟨(some 8), none, false, (.lenStr (.tmp 7))⟩, ⟨(some 9), none, false, (.bin .int .geq (.tmp 6) (.tmp 8))⟩, ⟨(some 10), none, false, (.mov (.tmp 9))⟩, ⟨(some 11), (some (10, true)), false, (.mov (.tmp 0))⟩, ⟨(some 12), (some (10, true)), false, (.mov (.tmp 1))⟩, ⟨(some 13), (some (10, true)), false, (.lenStr (.tmp 12))⟩, ⟨(some 14), (some (10, true)), false, (.sliceStr (.tmp 11) none (some (.tmp 13)))⟩, ⟨(some 15), (some (10, true)), false, (.mov (.tmp 1))⟩, ⟨(some 16), (some (10, true)), false, (.bin .str .eql (.tmp 14) (.tmp 15))⟩, ⟨(some 17), none, false, (.pick (.tmp 10) (.tmp 16) (.const (.bool false)))⟩, ⟨(some 4), none, false, (.mov (.tmp 17))⟩]) .ret))
def m110 : MFun := ⟨k110, [(.tmp 4)]⟩
theorem c110 : compFn Try.prog Try.f110 = some m110 := by kernel_rfl
def k9 : MCode := (.seq (.ops [⟨(some 5), none, false, (.box 1 (.tmp 0))⟩, ⟨(some 6), none, false, (.box 1 (.tmp 1))⟩, ⟨(some 10), none, false, (.mov (.const (.bool false)))⟩]) (.seq (.seq (.ops [⟨(some 19), none, false, (.call false (.func 17) [])⟩, ⟨(some 20), none, false, (.un .not (.tmp 19))⟩, ⟨(some 21), none, false, (.mov (.tmp 20))⟩, ⟨(some 22), (some (21, false)), false, (.mov (.tmp 4))⟩, ⟨(some 23), (some (21, false)), false, (.call false (.func 22) [(.tmp 22)])⟩, ⟨(some 24), (some (21, false)), false, (.un .not (.tmp 23))⟩, ⟨(some 25), none, false, (.pick (.tmp 21) (.const (.bool true)) (.tmp 24))⟩, ⟨(some 26), none, false, (.mov (.tmp 25))⟩, ⟨(some 27), (some (26, false)), false, (.load true 3 (.tmp 5))⟩, ⟨(some 28), (some (26, false)), false, (.call false (.func 40) [(.tmp 27)])⟩, ⟨(some 29), (some (26, false)), false, (.bin .int .neq (.tmp 28) (.const (.int .i64 0)))⟩, ⟨(some 30), none, false, (.pick (.tmp 26) (.const (.bool true)) (.tmp 29))⟩, ⟨(some 31), none, false, (.mov (.tmp 30))⟩, ⟨(some 32), (some (31, false)), false, (.mov (.tmp 2))⟩, ⟨(some 33), (some (31, false)), false, (.lenStr (.tmp 32))⟩, ⟨(some 34), (some (31, false)), false, (.bin .int .neq (.tmp 33) (.const (.int .i64 12)))⟩, ⟨(some 35), none, false, (.pick (.tmp 31) (.const (.bool true)) (.tmp 34))⟩]) (.cond (.tmp 35) (.seq (.ops [⟨(some 36), none, false, (.call false (.func 17) [])⟩, ⟨(some 10), none, false, (.mov (.tmp 36))⟩]) .ret) .skip)) (.seq (.ops [⟨(some 37), none, false, (.load true 3 (.tmp 5))⟩, ⟨(some 38), none, false, (.mov (.tmp 2))⟩, ⟨(some 39), none, false, (.mov (.tmp 4))⟩, ⟨(some 40), none, false, (.call false (.func 41) [(.tmp 37), (.tmp 38), (.tmp 39)])⟩, ⟨(some 11), none, false, (.mov (.tmp 40))⟩]) (.seq (.ops [⟨(some 42), none, false, (.load true 3 (.tmp 5))⟩, ⟨(some 43), none, false, (.load true 3 (.tmp 6))⟩, ⟨(some 44), none, false, (.mov (.tmp 3))⟩, ⟨(some 45), none, false, (.mov (.tmp 11))⟩, ⟨(some 46), none, false, (.call false (.func 42) [(.tmp 42), (.tmp 43), (.tmp 44), (.tmp 45)])⟩, ⟨(some 41), none, false, (.mov (.tmp 46))⟩, ⟨(some 47), none, false, (.extract (.tmp 41) 0)⟩, ⟨(some 48), none, false, (.extract (.tmp 41) 1)⟩, ⟨(some 12), none, false, (.mov (.tmp 47))⟩, ⟨(some 13), none, false, (.mov (.tmp 48))⟩]) (.seq (.ops [⟨(some 49), none, false, (.load true 3 (.tmp 6))⟩, ⟨(some 50), none, false, (.call false (.func 40) [(.tmp 49)])⟩, ⟨(some 51), none, false, (.mov (.tmp 3))⟩, ⟨(some 52), none, false, (.lenStr (.tmp 51))⟩, ⟨(some 53), none, false, (.bin .int .neq (.tmp 52) (.const (.int .i64 12)))⟩, ⟨(some 54), none, false, (.call false (.func 21) [(.tmp 53), (.const (.int .i64 6))])⟩, ⟨(some 55), none, false, (.buildSlice [(.int .i64 0), (.int .i64 0)] 1 2 [(0, (1, (.tmp 50))), (1, (1, (.tmp 54)))])⟩, ⟨(some 56), none, false, (.call false (.func 19) [(.tmp 55)])⟩, ⟨(some 14), none, false, (.mov (.tmp 56))⟩]) (.seq (.seq (.ops [⟨(some 57), none, false, (.mov (.tmp 14))⟩, ⟨(some 58), none, false, (.bin .int .neq (.tmp 57) (.const (.int .i64 0)))⟩]) (.cond (.tmp 58) (.seq (.ops [⟨(some 59), none, false, (.mov (.tmp 12))⟩, ⟨(some 60), none, false, (.bin .str .eql (.tmp 59) (.const (.string ⟨#[]⟩)))⟩, ⟨(some 61), none, false, (.mov (.tmp 60))⟩, ⟨(some 62), (some (61, true)), false, (.mov (.tmp 13))⟩, ⟨(some 63), (some (61, true)), false, (.mov (.tmp 14))⟩, ⟨(some 64), (some (61, true)), false, (.bin .int .eql (.tmp 62) (.tmp 63))⟩, ⟨(some 65), none, false, (.pick (.tmp 61) (.tmp 64) (.const (.bool false)))⟩, ⟨(some 10), none, false, (.mov (.tmp 65))⟩]) .ret) .skip)) (.seq (.seq (.ops [⟨(some 66), none, false, (.mov (.tmp 12))⟩, ⟨(some 67), none, false, (.load true 3 (.tmp 6))⟩, ⟨(some 68), none, false, (.mov (.tmp 3))⟩, ⟨(some 69), none, false, (.mov (.tmp 4))⟩, ⟨(some 70), none, false, (.call false (.func 41) [(.tmp 67), (.tmp 68), (.tmp 69)])⟩, ⟨(some 71), none, false, (.bin .str .neq (.tmp 66) (.tmp 70))⟩, ⟨(some 72), none, false, (.mov (.tmp 71))⟩, ⟨(some 73), (some (72, false)), false, (.mov (.tmp 13))⟩, ⟨(some 74), (some (72, false)), false, (.bin .int .neq (.tmp 73) (.const (.int .i64 0)))⟩, ⟨(some 75), none, false, (.pick (.tmp 72) (.const (.bool true)) (.tmp 74))⟩]) (.cond (.tmp 75) (.seq (.ops [⟨(some 10), none, false, (.mov (.const (.bool false)))⟩]) .ret) .skip)) (.seq (.ops [⟨(some 77), none, false, (.load true 3 (.tmp 6))⟩, ⟨(some 78), none, false, (.load true 3 (.tmp 5))⟩, ⟨(some 79), none, false, (.mov (.tmp 2))⟩, ⟨(some 80), none, false, (.mov (.tmp 11))⟩, ⟨(some 81), none, false, (.call false (.func 42) [(.tmp 77), (.tmp 78), (.tmp 79), (.tmp 80)])⟩, ⟨(some 76), none, false, (.mov (.tmp 81))⟩, ⟨(some 82), none, false, (.extract (.tmp 76) 0)⟩, ⟨(some 83), none, false, (.extract (.tmp 76) 1)⟩, ⟨(some 15), none, false, (.mov (.tmp 82))⟩, ⟨(some 16), none, false, (.mov (.tmp 83))⟩]) (.seq (.ops [⟨(some 85), none, false, (.load true 3 (.tmp 6))⟩, ⟨(some 86), none, false, (.mov (.tmp 11))⟩, ⟨(some 87), none, false, (.call false (.func 43) [(.tmp 85), (.tmp 86)])⟩, ⟨(some 84), none, false, (.mov (.tmp 87))⟩, ⟨(some 88), none, false, (.extract (.tmp 84) 0)⟩, ⟨(some 89), none, false, (.extract (.tmp 84) 1)⟩, ⟨(some 17), none, false, (.mov (.tmp 88))⟩, ⟨(some 18), none, false, (.mov (.tmp 89))⟩]) (.seq (.ops [⟨(some 90), none, false, (.mov (.tmp 15))⟩, ⟨(some 91), none, false, (.mov (.tmp 16))⟩, ⟨(some 92), none, false, (.load true 3 (.tmp 5))⟩, ⟨(some 93), none, false, (.mov (.tmp 2))⟩, ⟨(some 94), none, false, (.mov (.tmp 17))⟩, ⟨(some 95), none, false, (.call false (.func 41) [(.tmp 92), (.tmp 93), (.tmp 94)])⟩, ⟨(some 96), none, false, (.mov (.tmp 18))⟩, ⟨(some 97), none, false, (.call false (.func 27) [(.tmp 90), (.tmp 91), (.tmp 95), (.tmp 96)])⟩, ⟨(some 10), none, false, (.mov (.tmp 97))⟩]) .ret))))))))))
def m9 : MFun := ⟨k9, [(.tmp 10)]⟩
theorem c9 : compFn Try.prog Try.f9 = some m9 := by kernel_rfl
def k10 : MCode := (.seq (.ops [⟨(some 7), none, false, (.box 1 (.tmp 0))⟩, ⟨(some 14), none, false, (.mov (.const (.bool false)))⟩]) (.seq (.ops [⟨(some 31), none, false, (.load true 3 (.tmp 7))⟩, ⟨(some 32), none, false, (.mov (.tmp 1))⟩, ⟨(some 33), none, false, (.mov (.tmp 2))⟩, ⟨(some 34), none, false, (.call false (.func 44) [(.tmp 31), (.tmp 32), (.tmp 33)])⟩, ⟨(some 30), none, false, (.mov (.tmp 34))⟩, ⟨(some 35), none, false, (.extract (.tmp 30) 0)⟩, ⟨(some 36), none, false, (.extract (.tmp 30) 1)⟩, ⟨(some 15), none, false, (.mov (.tmp 35))⟩, ⟨(some 16), none, false, (.mov (.tmp 36))⟩]) (.seq (.seq (.ops [⟨(some 37), none, false, (.call false (.func 17) [])⟩, ⟨(some 38), none, false, (.un .not (.tmp 37))⟩, ⟨(some 39), none, false, (.mov (.tmp 38))⟩, ⟨(some 40), (some (39, false)), false, (.mov (.tmp 16))⟩, ⟨(some 41), (some (39, false)), false, (.bin .int .neq (.tmp 40) (.const (.int .i64 0)))⟩, ⟨(some 42), none, false, (.pick (.tmp 39) (.const (.bool true)) (.tmp 41))⟩, ⟨(some 43), none, false, (.mov (.tmp 42))⟩, ⟨(some 44), (some (43, false)), false, (.mov (.tmp 2))⟩, ⟨(some 45), (some (43, false)), false, (.call false (.func 22) [(.tmp 44)])⟩, ⟨(some 46), (some (43, false)), false, (.un .not (.tmp 45))⟩, ⟨(some 47), none, false, (.pick (.tmp 43) (.const (.bool true)) (.tmp 46))⟩, ⟨(some 48), none, false, (.mov (.tmp 47))⟩, ⟨(some 49), (some (48, false)), false, (.mov (.tmp 6))⟩, ⟨(some 50), (some (48, false)), false, (.bin .int .eql (.tmp 49) (.const (.int .u8 0)))⟩, ⟨(some 51), none, false, (.pick (.tmp 48) (.const (.bool true)) (.tmp 50))⟩, ⟨(some 52), none, false, (.mov (.tmp 51))⟩, ⟨(some 53), (some (52, false)), false, (.mov (.tmp 3))⟩, ⟨(some 54), (some (52, false)), false, (.bin .int .lss (.tmp 53) (.const (.int .i64 0)))⟩, ⟨(some 55), none, false, (.pick (.tmp 52) (.const (.bool true)) (.tmp 54))⟩, ⟨(some 56), none, false, (.mov (.tmp 55))⟩, ⟨(some 57), (some (56, false)), false, (.mov (.tmp 4))⟩, ⟨(some 58), (some (56, false)), false, (.bin .int .lss (.tmp 57) (.const (.int .i64 0)))⟩, ⟨(some 59), none, false, (.pick (.tmp 56) (.const (.bool true)) (.tmp 58))⟩]) (.cond (.tmp 59) (.seq (.ops [⟨(some 60), none, false, (.call false (.func 17) [])⟩, ⟨(some 14), none, false, (.mov (.tmp 60))⟩]) .ret) .skip)) (.seq (.ops [⟨(some 62), none, false, (.mov (.tmp 2))⟩, ⟨(some 63), none, false, (.lenStr (.tmp 62))⟩, ⟨(some 64), none, false, (.mov (.tmp 3))⟩, ⟨(some 65), none, false, (.mov (.tmp 4))⟩, ⟨(some 66), none, false, (.call false (.func 45) [(.tmp 63), (.tmp 64), (.tmp 65)])⟩, ⟨(some 61), none, false, (.mov (.tmp 66))⟩, ⟨(some 67), none, false, (.extract (.tmp 61) 0)⟩, ⟨(some 68), none, false, (.extract (.tmp 61) 1)⟩, ⟨(some 17), none, false, (.mov (.tmp 67))⟩, ⟨(some 18), none, false, (.mov (.tmp 68))⟩]) (.seq (.seq (.ops [⟨(some 69), none, false, (.mov (.tmp 18))⟩, ⟨(some 70), none, false, (.bin .int .eql (.tmp 69) (.const (.int .i64 0)))⟩]) (.cond (.tmp 70) (.seq (.opsD [⟨(some 72), none, false, (.load true 3 (.tmp 7))⟩, ⟨(some 73), none, false, (.mov (.tmp 15))⟩, ⟨(some 74), none, false, (.sliceStr (.tmp 73) none (some (.const (.int .i64 20))))⟩, ⟨(some 75), none, false, (.mov (.tmp 2))⟩, ⟨(some 76), none, false, (.lenStr (.tmp 75))⟩, ⟨(some 77), none, false, (.mov (.tmp 3))⟩, ⟨(some 78), none, false, (.mov (.tmp 4))⟩, ⟨(some 79), none, false, (.call false (.func 46) [(.tmp 72), (.tmp 74), (.const (.string ⟨#[120]⟩)), (.tmp 76), (.tmp 77), (.tmp 78)])⟩, ⟨(some 71), none, false, (.mov (.tmp 79))⟩, ⟨(some 80), none, false, (.extract (.tmp 71) 0)⟩, ⟨(some 81), none, false, (.extract (.tmp 71) 1)⟩, ⟨(some 19), none, false, (.mov (.tmp 80))⟩, ⟨(some 20), none, false, (.mov (.tmp 81))⟩]) (.seq (.ops [⟨(some 82), none, false, (.mov (.tmp 19))⟩, ⟨(some 83), none, false, (.bin .str .eql (.tmp 82) (.const (.string ⟨#[]⟩)))⟩, ⟨(some 84), none, false, (.mov (.tmp 83))⟩, ⟨(some 85), (some (84, true)), false, (.mov (.tmp 20))⟩, ⟨(some 86), (some (84, true)), false, (.bin .int .eql (.tmp 85) (.const (.int .i64 19)))⟩, ⟨(some 87), none, false, (.pick (.tmp 84) (.tmp 86) (.const (.bool false)))⟩, ⟨(some 14), none, false, (.mov (.tmp 87))⟩]) .ret)) .skip)) (.seq (.ops [⟨(some 88), none, false, (.mov (.tmp 15))⟩, ⟨(some 89), none, false, (.mov (.tmp 17))⟩, ⟨(some 90), none, false, (.mov (.tmp 17))⟩, ⟨(some 91), none, false, (.mov (.tmp 18))⟩, ⟨(some 92), none, false, (.bin .int .add (.tmp 90) (.tmp 91))⟩, ⟨(some 93), none, false, (.sliceStr (.tmp 88) (some (.tmp 89)) (some (.tmp 92)))⟩, ⟨(some 94), none, false, (.toBytes (.tmp 93))⟩, ⟨(some 21), none, false, (.mov (.tmp 94))⟩]) (.seq (.ops [⟨(some 95), none, false, (.mov (.tmp 5))⟩, ⟨(some 96), none, false, (.mov (.tmp 18))⟩, ⟨(some 97), none, false, (.bin .int .rem (.tmp 95) (.tmp 96))⟩, ⟨(some 98), none, false, (.mov (.tmp 18))⟩, ⟨(some 99), none, false, (.bin .int .add (.tmp 97) (.tmp 98))⟩, ⟨(some 100), none, false, (.mov (.tmp 18))⟩, ⟨(some 101), none, false, (.bin .int .rem (.tmp 99) (.tmp 100))⟩, ⟨(some 5), none, false, (.mov (.tmp 101))⟩]) (.seq (.ops [⟨(some 102), none, false, (.mov (.tmp 21))⟩, ⟨(some 103), none, false, (.mov (.tmp 5))⟩, ⟨(some 104), none, false, (.idxS 1 (.tmp 102) (.tmp 103))⟩, ⟨(some 105), none, false, (.load false 1 (.tmp 104))⟩, ⟨(some 106), none, false, (.mov (.tmp 6))⟩, ⟨(some 107), none, false, (.bin .int .xor (.tmp 105) (.tmp 106))⟩, ⟨(some 108), none, false, (.idxS 1 (.tmp 102) (.tmp 103))⟩, ⟨none, none, false, (.store 1 (.tmp 108) (.tmp 107))⟩]) (.seq (.opsD [⟨(some 110), none, false, (.load true 3 (.tmp 7))⟩, ⟨(some 111), none, false, (.mov (.tmp 15))⟩, ⟨(some 112), none, false, (.sliceStr (.tmp 111) none (some (.const (.int .i64 20))))⟩, ⟨(some 113), none, false, (.mov (.tmp 21))⟩, ⟨(some 114), none, false, (.toStr (.tmp 113))⟩, ⟨(some 115), none, false, (.mov (.tmp 2))⟩, ⟨(some 116), none, false, (.lenStr (.tmp 115))⟩, ⟨(some 117), none, false, (.mov (.tmp 3))⟩, ⟨(some 118), none, false, (.mov (.tmp 4))⟩, ⟨(some 119), none, false, (.call false (.func 46) [(.tmp 110), (.tmp 112), (.tmp 114), (.tmp 116), (.tmp 117), (.tmp 118)])⟩, ⟨(some 109), none, false, (.mov (.tmp 119))⟩, ⟨(some 120), none, false, (.extract (.tmp 109) 0)⟩, ⟨(some 121), none, false, (.extract (.tmp 109) 1)⟩, ⟨(some 22), none, false, (.mov (.tmp 120))⟩, ⟨(some 23), none, false, (.mov (.tmp 121))⟩]) (.seq (.opsD [⟨(some 123), none, false, (.load true 3 (.tmp 7))⟩, ⟨(some 124), none, false, (.mov (.tmp 15))⟩, ⟨(some 125), none, false, (.sliceStr (.tmp 124) none (some (.const (.int .i64 20))))⟩, ⟨(some 126), none, false, (.mov (.tmp 15))⟩, ⟨(some 127), none, false, (.mov (.tmp 17))⟩, ⟨(some 128), none, false, (.mov (.tmp 17))⟩, ⟨(some 129), none, false, (.mov (.tmp 18))⟩, ⟨(some 130), none, false, (.bin .int .add (.tmp 128) (.tmp 129))⟩, ⟨(some 131), none, false, (.bin .int .sub (.tmp 130) (.const (.int .i64 1)))⟩, ⟨(some 132), none, false, (.sliceStr (.tmp 126) (some (.tmp 127)) (some (.tmp 131)))⟩, ⟨(some 133), none, false, (.mov (.tmp 2))⟩, ⟨(some 134), none, false, (.lenStr (.tmp 133))⟩, ⟨(some 135), none, false, (.mov (.tmp 3))⟩, ⟨(some 136), none, false, (.mov (.tmp 4))⟩, ⟨(some 137), none, false, (.call false (.func 46) [(.tmp 123), (.tmp 125), (.tmp 132), (.tmp 134), (.tmp 135), (.tmp 136)])⟩, ⟨(some 122), none, false, (.mov (.tmp 137))⟩, ⟨(some 138), none, false, (.extract (.tmp 122) 0)⟩, ⟨(some 139), none, false, (.extract (.tmp 122) 1)⟩, ⟨(some 24), none, false, (.mov (.tmp 138))⟩, ⟨(some 25), none, false, (.mov (.tmp 139))⟩]) (.seq (.opsD [⟨(some 141), none, false, (.load true 3 (.tmp 7))⟩, ⟨(some 142), none, false, (.mov (.tmp 15))⟩, ⟨(some 143), none, false, (.sliceStr (.tmp 142) (some (.const (.int .i64 1))) (some (.const (.int .i64 20))))⟩, ⟨(some 144), none, false, (.bin .str .add (.const (.string ⟨#[120]⟩)) (.tmp 143))⟩, ⟨(some 145), none, false, (.mov (.tmp 15))⟩, ⟨(some 146), none, false, (.mov (.tmp 17))⟩, ⟨(some 147), none, false, (.mov (.tmp 17))⟩, ⟨(some 148), none, false, (.mov (.tmp 18))⟩, ⟨(some 149), none, false, (.bin .int .add (.tmp 147) (.tmp 148))⟩, ⟨(some 150), none, false, (.sliceStr (.tmp 145) (some (.tmp 146)) (some (.tmp 149)))⟩, ⟨(some 151), none, false, (.mov (.tmp 2))⟩, ⟨(some 152), none, false, (.lenStr (.tmp 151))⟩, ⟨(some 153), none, false, (.mov (.tmp 3))⟩, ⟨(some 154), none, false, (.mov (.tmp 4))⟩, ⟨(some 155), none, false, (.call false (.func 46) [(.tmp 141), (.tmp 144), (.tmp 150), (.tmp 152), (.tmp 153), (.tmp 154)])⟩, ⟨(some 140), none, false, (.mov (.tmp 155))⟩, ⟨(some 156), none, false, (.extract (.tmp 140) 0)⟩, ⟨(some 157), none, false, (.extract (.tmp 140) 1)⟩, ⟨(some 26), none, false, (.mov (.tmp 156))⟩, ⟨(some 27), none, false, (.mov (.tmp 157))⟩]) (.seq (.opsD [⟨(some 159), none, false, (.load true 3 (.tmp 7))⟩, ⟨(some 160), none, false, (.mov (.tmp 15))⟩, ⟨(some 161), none, false, (.mov (.tmp 17))⟩, ⟨(some 162), none, false, (.sliceStr (.tmp 160) none (some (.tmp 161)))⟩, ⟨(some 163), none, false, (.mov (.tmp 21))⟩, ⟨(some 164), none, false, (.toStr (.tmp 163))⟩, ⟨(some 165), none, false, (.bin .str .add (.tmp 162) (.tmp 164))⟩, ⟨(some 166), none, false, (.mov (.tmp 15))⟩, ⟨(some 167), none, false, (.mov (.tmp 17))⟩, ⟨(some 168), none, false, (.mov (.tmp 18))⟩, ⟨(some 169), none, false, (.bin .int .add (.tmp 167) (.tmp 168))⟩, ⟨(some 170), none, false, (.sliceStr (.tmp 166) (some (.tmp 169)) none)⟩, ⟨(some 171), none, false, (.bin .str .add (.tmp 165) (.tmp 170))⟩, ⟨(some 172), none, false, (.call false (.func 43) [(.tmp 159), (.tmp 171)])⟩, ⟨(some 158), none, false, (.mov (.tmp 172))⟩, ⟨(some 173), none, false, (.extract (.tmp 158) 0)⟩, ⟨(some 174), none, false, (.extract (.tmp 158) 1)⟩, ⟨(some 28), none, false, (.mov (.tmp 173))⟩, ⟨(some 29), none, false, (.mov (.tmp 174))⟩]) (.seq (.ops [⟨(some 175), none, false, (.mov (.tmp 29))⟩, ⟨(some 176), none, false, (.mov (.tmp 175))⟩, ⟨(some 177), (some (176, false)), false, (.mov (.tmp 22))⟩, ⟨(some 178), (some (176, false)), false, (.bin .str .eql (.tmp 177) (.const (.string ⟨#[]⟩)))⟩, ⟨(some 179), (some (176, false)), false, (.mov (.tmp 178))⟩, ⟨(some 180), (some (179, true)), false, (.mov (.tmp 23))⟩, ⟨(some 181), (some (179, true)), false, (.bin .int .eql (.tmp 180) (.const (.int .i64 19)))⟩, ⟨(some 182), (some (176, false)), false, (.pick (.tmp 179) (.tmp 181) (.const (.bool false)))⟩, ⟨(some 183), none, false, (.pick (.tmp 176) (.const (.bool true)) (.tmp 182))⟩, ⟨(some 184), none, false, (.mov (.tmp 183))⟩, ⟨(some 185), (some (184, true)), false, (.mov (.tmp 24))⟩, ⟨(some 186), (some (184, true)), false, (.bin .str .eql (.tmp 185) (.const (.string ⟨#[]⟩)))⟩, ⟨(some 187), none, false, (.pick (.tmp 184) (.tmp 186) (.const (.bool false)))⟩, ⟨(some 188), none, false, (.mov (.tmp 187))⟩, ⟨(some 189), (some (188, true)), false, (.mov (.tmp 25))⟩, ⟨(some 190), (some (188, true)), false, (.bin .int .eql (.tmp 189) (.const (.int .i64 19)))⟩, ⟨(some 191), none, false, (.pick (.tmp 188) (.tmp 190) (.const (.bool false)))⟩, ⟨(some 192), none, false, (.mov (.tmp 191))⟩, ⟨(some 193), (some (192, true)), false, (.mov (.tmp 26))⟩, ⟨(some 194), (some (192, true)), false, (.bin .str .eql (.tmp 193) (.const (.string ⟨#[]⟩)))⟩, ⟨(some 195), none, false, (.pick (.tmp 192) (.tmp 194) (.const (.bool false)))⟩, ⟨(some 196), none, false, (.mov (.tmp 195))⟩, ⟨(some 197), (some (196, true)), false, (.mov (.tmp 27))⟩, ⟨(some 198), (some (196, true)), false, (.bin .int .eql (.tmp 197) (.const (.int .i64 19)))⟩, ⟨(some 199), none, false, (.pick (.tmp 196) (.tmp 198) (.const (.bool false)))⟩, ⟨(some 14), none, false, (.mov (.tmp 199))⟩]) .ret)))))))))))))
def m10 : MFun := ⟨k10, [(.tmp 14)]⟩
theorem c10 : compFn Try.prog Try.f10 = some m10 := by kernel_rfl
end Go.Proofs.Ytildhljhbbhmmaa.AM
namespace Go.Proofs.Ytildhljhbbhmmaa.AM
open Go
set_option linter.all false
set_option maxRecDepth 10000
variable {tbl : Tbl} [hT : TMono tbl]

/-! ### Numbers in bytes, the highest one first -/
def be4 (n : Int) : List UInt8 := [b8 (n / 16777216), b8 (n / 65536), b8 (n / 256), b8 n]
def be8 (n : Int) : List UInt8 := be4 (n / 4294967296) ++ be4 n
theorem be4_congr {x y : Int} (h : x % 4294967296 = y % 4294967296) : be4 x = be4 y := by
  unfold be4
  rw [b8_congr (x := x) (y := y) (by omega), b8_congr (x := x / 256) (y := y / 256) (by omega), b8_congr (x := x / 65536) (y := y / 65536) (by omega), b8_congr (x := x / 16777216) (y := y / 16777216) (by omega)]
theorem be4_len {n : Int} : (be4 n).length = 4 := rfl
theorem be8_len {n : Int} : (be8 n).length = 8 := rfl
/-- What stands behind j rounds. -/
def beP (m : Nat) (n : Int) (j : Nat) : List UInt8 := zb (m - j) ++ ((List.range j).map fun i => b8 (n / 256 ^ (j - 1 - i)))
theorem beP_len {m : Nat} {n : Int} {j : Nat} (h : j ≤ m) : (beP m n j).length = m := by simp [beP, zb]; omega
theorem beP_step {m : Nat} {n : Int} {j : Nat} (h : j < m) : (beP m n j).set (m - 1 - j) (b8 (n / 256 ^ j)) = beP m n (j + 1) := by
  have hz : zb (m - j) = zb (m - (j + 1)) ++ [0] := by rw [zb_succ]; congr 1; omega
  unfold beP
  rw [hz, List.append_assoc, set_mid (j := m - 1 - j) (i := 0) (y := 0) (by rw [zb_len]; omega)]
  congr 1
  show b8 (n / 256 ^ j) :: ((List.range j).map fun i => b8 (n / 256 ^ (j - 1 - i))) = _
  rw [List.range_succ_eq_map, List.map_cons, List.map_map]
  congr 1
  apply List.map_congr_left
  intro i hi
  rw [List.mem_range] at hi
  show b8 (n / 256 ^ (j - 1 - i)) = b8 (n / 256 ^ (j + 1 - 1 - (i + 1)))
  congr 3
  omega
theorem v120 (h120 : tbl 120 = some (.code m120)) (n : Int) (hn : 0 ≤ n) (m : Nat) (hm : 0 < m) (hm2 : m ≤ 1000) (H : AH) : Val tbl 120 [.int .i64 n, .int .i64 m] H (.string (tx (beP m n m))) H := by
  refine Val.of_all fun Q hQ => ?_
  rw [rn_fun h120, k120]
  have c1 : (0 : Int) ≤ m := by omega
  have c2 : (m : Int) ≤ m := by omega
  have c3 : m * 1 ≤ 140737488355328 := by omega
  have c3' : m ≤ 140737488355328 := by omega
  have c4 : (m : Int) ≤ 9223372036854775807 := by omega
  have w0 := w64 (x := (m : Int) - 1) (by omega) (by omega)
  have hz : (⟨rep m [Value.int .u8 0], 1, false⟩ : Blk) = u8r (zb m) := by
    simp [rep, u8r, bc, zb, U8]
  simp only [c1, c2, c3, c3', c4, w0, hz, Int.toNat_natCast, go_sem, Nat.reduceEqDiff, Nat.reduceAdd, Nat.reduceLeDiff, Int.reduceEq, Int.reduceLT, Int.reduceLE, Int.reduceAdd, Int.reduceSub, Int.reduceMul, Int.reduceNeg, Int.reduceToNat, Nat.reduceMul]
  refine rn_loop (fun r f H' => ∃ j : Nat, j ≤ m ∧ r = m - j ∧ f 0 = .int .i64 (n / 256 ^ j) ∧ f 5 = .slice (some ⟨H.next, 0, none⟩) m m ∧ f 6 = .int .i64 ((m : Int) - 1 - j) ∧ H'.next = H.next + 1 ∧ H.next ≤ H'.low ∧ H'.get H.next = some (u8r (beP m n j))) ?_ (n := m)
    ⟨0, by omega, by omega, by simp only [Int.pow_zero, Int.ediv_one, go_sem, Nat.reduceEqDiff, Nat.reduceAdd, Nat.reduceLeDiff, Int.reduceEq, Int.reduceLT, Int.reduceLE, Int.reduceAdd, Int.reduceSub, Int.reduceMul, Int.reduceNeg, Int.reduceToNat, Nat.reduceMul], by simp only [go_sem, Nat.reduceEqDiff, Nat.reduceAdd, Nat.reduceLeDiff, Int.reduceEq, Int.reduceLT, Int.reduceLE, Int.reduceAdd, Int.reduceSub, Int.reduceMul, Int.reduceNeg, Int.reduceToNat, Nat.reduceMul], by simp only [go_sem, Nat.reduceEqDiff, Nat.reduceAdd, Nat.reduceLeDiff, Int.reduceEq, Int.reduceLT, Int.reduceLE, Int.reduceAdd, Int.reduceSub, Int.reduceMul, Int.reduceNeg, Int.reduceToNat, Nat.reduceMul] <;> (congr 1; omega), by rw [AH.next_push, nx_enter], by rw [lw_push, lw_enter]; omega, by
      have : beP m n 0 = zb m := by simp [beP]
      rw [this]; exact AH.get_push_eq H.enter _⟩
  rintro r f H' ⟨j, hj, rfl, f0, f5, f6, nx, l1, g⟩
  by_cases hlt : 0 ≤ (m : Int) - 1 - j
  · have e1 : ((m : Int) - 1 - j) = ((m - 1 - j : Nat) : Int) := by omega
    have i0 : (0 : Int) ≤ ((m - 1 - j : Nat) : Int) := by omega
    have i1 : ((m - 1 - j : Nat) : Int) < m := by omega
    have hlen : (beP m n j).length = m := beP_len hj
    have hle : m - 1 - j + 1 ≤ m := by omega
    have hst := beP_step (n := n) (j := j) (m := m) (by omega)
    have hs8 := shr8 (x := n / 256 ^ j)
    have hg : H.next < H'.next := by omega
    have wj := w64 (x := ((m - 1 - j : Nat) : Int) - 1) (by omega) (by omega)
    have hd : n / 256 ^ j / 256 = n / 256 ^ (j + 1) := by rw [Int.ediv_ediv_of_nonneg (Int.le_of_lt (Int.pow_pos (by omega))), Int.pow_succ]
    rw [e1] at f6
    simp only [f0, f5, f6, i0, i1, g, hg, hlen, hle, hs8, hst, wj, b8_nat, u8r_len, u8r_ro, u8r_es, u8r_set, idxSP_slc, Int.toNat_natCast, stc_eq, stB_some, splice_one, addA, Nat.zero_add, go_sem, Nat.reduceEqDiff, Nat.reduceAdd, Nat.reduceLeDiff, Int.reduceEq, Int.reduceLT, Int.reduceLE, Int.reduceAdd, Int.reduceSub, Int.reduceMul, Int.reduceNeg, Int.reduceToNat, Nat.reduceMul]
    refine ⟨m - (j + 1), by omega, j + 1, by omega, rfl, by simp only [hd, go_sem, Nat.reduceEqDiff, Nat.reduceAdd, Nat.reduceLeDiff, Int.reduceEq, Int.reduceLT, Int.reduceLE, Int.reduceAdd, Int.reduceSub, Int.reduceMul, Int.reduceNeg, Int.reduceToNat, Nat.reduceMul], by simp only [f5, go_sem, Nat.reduceEqDiff, Nat.reduceAdd, Nat.reduceLeDiff, Int.reduceEq, Int.reduceLT, Int.reduceLE, Int.reduceAdd, Int.reduceSub, Int.reduceMul, Int.reduceNeg, Int.reduceToNat, Nat.reduceMul], by simp only [go_sem, Nat.reduceEqDiff, Nat.reduceAdd, Nat.reduceLeDiff, Int.reduceEq, Int.reduceLT, Int.reduceLE, Int.reduceAdd, Int.reduceSub, Int.reduceMul, Int.reduceNeg, Int.reduceToNat, Nat.reduceMul] <;> (congr 1; omega), by rw [AH.next_set]; exact nx, by rw [lw_set]; omega, AH.get_set_eq _ _ (by omega)⟩
  · have hje : j = m := by omega
    subst hje
    have hsb := slcBytes_row (n := j) (c := j) g (beP_len (Nat.le_refl _)).symm
    simp only [f0, f5, f6, hlt, hsb, go_sem, Nat.reduceEqDiff, Nat.reduceAdd, Nat.reduceLeDiff, Int.reduceEq, Int.reduceLT, Int.reduceLE, Int.reduceAdd, Int.reduceSub, Int.reduceMul, Int.reduceNeg, Int.reduceToNat, Nat.reduceMul]
    rw [back_p3 (by omega) rfl]
    exact hQ
theorem beP4 {n : Int} : beP 4 n 4 = be4 n := by
  show [b8 (n / 256 ^ 3), b8 (n / 256 ^ 2), b8 (n / 256 ^ 1), b8 (n / 256 ^ 0)] = _
  unfold be4
  rw [show (256 : Int) ^ 3 = 16777216 from rfl, show (256 : Int) ^ 2 = 65536 from rfl, show (256 : Int) ^ 1 = 256 from rfl, show (256 : Int) ^ 0 = 1 from rfl, Int.ediv_one]
theorem beP8 {n : Int} : beP 8 n 8 = be8 n := by
  show [b8 (n / 256 ^ 7), b8 (n / 256 ^ 6), b8 (n / 256 ^ 5), b8 (n / 256 ^ 4), b8 (n / 256 ^ 3), b8 (n / 256 ^ 2), b8 (n / 256 ^ 1), b8 (n / 256 ^ 0)] = _
  unfold be8 be4
  rw [show (256 : Int) ^ 7 = 4294967296 * 16777216 from rfl, show (256 : Int) ^ 6 = 4294967296 * 65536 from rfl, show (256 : Int) ^ 5 = 4294967296 * 256 from rfl, show (256 : Int) ^ 4 = 4294967296 from rfl, show (256 : Int) ^ 3 = 16777216 from rfl, show (256 : Int) ^ 2 = 65536 from rfl, show (256 : Int) ^ 1 = 256 from rfl, show (256 : Int) ^ 0 = 1 from rfl, Int.ediv_one]
  rw [← Int.ediv_ediv_of_nonneg (by omega), ← Int.ediv_ediv_of_nonneg (by omega), ← Int.ediv_ediv_of_nonneg (by omega)]
  rfl
theorem v102 (h102 : tbl 102 = some (.code m102)) (n : Int) (H : AH) : Val tbl 102 [.int .u32 n] H (.string (tx (be4 n))) H := by
  refine Val.of_all fun Q hQ => ?_
  rw [rn_fun h102, k102]
  have s1 := shr32 n 8 (by omega)
  have s2 := shr32 n 16 (by omega)
  have s3 := shr32 n 24 (by omega)
  rw [show ((8 : Nat) : Int) = 8 from rfl, show (2 : Int) ^ 8 = 256 from rfl] at s1
  rw [show ((16 : Nat) : Int) = 16 from rfl, show (2 : Int) ^ 16 = 65536 from rfl] at s2
  rw [show ((24 : Nat) : Int) = 24 from rfl, show (2 : Int) ^ 24 = 16777216 from rfl] at s3
  have hr : (H.enter.push (u8r (be4 n))).get H.next = some (u8r (be4 n)) := AH.get_push_eq H.enter _
  have hs := slcBytes_row (n := 4) (c := 4) hr rfl
  simp only [u8r, bc, be4, U8, List.map_cons, List.map_nil] at hs
  simp only [s1, s2, s3, b8_nat, hs, go_sem, Nat.reduceEqDiff, Nat.reduceAdd, Nat.reduceLeDiff, Int.reduceEq, Int.reduceLT, Int.reduceLE, Int.reduceAdd, Int.reduceSub, Int.reduceMul, Int.reduceNeg, Int.reduceToNat, Nat.reduceMul]
  exact hQ
theorem v77 (h102 : tbl 102 = some (.code m102)) (h77 : tbl 77 = some (.code m77)) (n : Int) (H : AH) : Val tbl 77 [.int .i64 n] H (.string (tx (be8 n))) H := by
  refine Val.of_all fun Q hQ => ?_
  rw [rn_fun h77, k77]
  have h32 := shr63 (n := n) (j := 32) (by omega)
  rw [show ((32 : Nat) : Int) = 32 from rfl, show (2 : Int) ^ 32 = 4294967296 from rfl] at h32
  have a1 := v102 (tbl := tbl) h102 (IntKind.wrap .u32 (n / 4294967296))
  have a2 := v102 (tbl := tbl) h102 (IntKind.wrap .u32 n)
  have e1 : be4 (IntKind.wrap .u32 (n / 4294967296)) = be4 (n / 4294967296) := be4_congr (by rw [IntKind.wrap_u32]; omega)
  have e2 : be4 (IntKind.wrap .u32 n) = be4 n := be4_congr (by rw [IntKind.wrap_u32]; omega)
  rw [e1] at a1
  rw [e2] at a2
  have hsz : (tx (be4 (n / 4294967296))).size + (tx (be4 n)).size ≤ 9223372036854775807 := by rw [tx_size, tx_size, be4_len, be4_len]; omega
  simp only [h32, ↓(a1 _).run, ↓(a2 _).run, hsz, tx_cat, go_sem, Nat.reduceEqDiff, Nat.reduceAdd, Nat.reduceLeDiff, Int.reduceEq, Int.reduceLT, Int.reduceLE, Int.reduceAdd, Int.reduceSub, Int.reduceMul, Int.reduceNeg, Int.reduceToNat, Nat.reduceMul]
  exact hQ
end Go.Proofs.Ytildhljhbbhmmaa.AM
namespace Go.Proofs.Ytildhljhbbhmmaa.AM
open Go
set_option linter.all false
set_option maxRecDepth 10000
variable {tbl : Tbl} [hT : TMono tbl]

theorem or_add32 (n p : Nat) (hp : p = 2 ^ n) {x y : Int} (h0 : 0 ≤ y) (h1 : y < (p : Int)) (x0 : 0 ≤ x) (hx : x % (p : Int) = 0) (hs : x + y < 4294967296) : bitsK .or .u32 x y = x + y := by
  obtain ⟨a, rfl⟩ : ∃ a : Nat, y = a := ⟨y.toNat, by omega⟩
  obtain ⟨b, rfl⟩ : ∃ b : Nat, x = b := ⟨x.toNat, by omega⟩
  have hb : b % p = 0 := by
    have : ((b % p : Nat) : Int) = 0 := by rw [Int.natCast_emod]; exact hx
    omega
  have e : b = 2 ^ n * (b / p) := by
    have := Nat.div_add_mod b p
    rw [← hp]
    omega
  simp only [bitsK, BitVec.toNat_or, ofInt_nat]
  have e1 : a % 2 ^ IntKind.u32.bits = a := Nat.mod_eq_of_lt (by show a < 2 ^ 32; omega)
  have e2 : b % 2 ^ IntKind.u32.bits = b := Nat.mod_eq_of_lt (by show b < 2 ^ 32; omega)
  rw [e1, e2]
  have h := Nat.two_pow_add_eq_or_of_lt (i := n) (b := a) (by rw [← hp]; omega) (b / p)
  rw [← e] at h
  rw [← h, u32w (by omega) (by omega)]
  omega
theorem or_add63 (n p : Nat) (hp : p = 2 ^ n) {x y : Int} (h0 : 0 ≤ y) (h1 : y < (p : Int)) (x0 : 0 ≤ x) (hx : x % (p : Int) = 0) (hs : x + y < 9223372036854775807) : bitsK .or .i64 x y = x + y := by
  obtain ⟨a, rfl⟩ : ∃ a : Nat, y = a := ⟨y.toNat, by omega⟩
  obtain ⟨b, rfl⟩ : ∃ b : Nat, x = b := ⟨x.toNat, by omega⟩
  have hb : b % p = 0 := by
    have : ((b % p : Nat) : Int) = 0 := by rw [Int.natCast_emod]; exact hx
    omega
  have e : b = 2 ^ n * (b / p) := by
    have := Nat.div_add_mod b p
    rw [← hp]
    omega
  simp only [bitsK, BitVec.toNat_or, ofInt_nat]
  have e1 : a % 2 ^ IntKind.i64.bits = a := Nat.mod_eq_of_lt (by show a < 2 ^ 64; omega)
  have e2 : b % 2 ^ IntKind.i64.bits = b := Nat.mod_eq_of_lt (by show b < 2 ^ 64; omega)
  rw [e1, e2]
  have h := Nat.two_pow_add_eq_or_of_lt (i := n) (b := a) (by rw [← hp]; omega) (b / p)
  rw [← e] at h
  rw [← h, w64 (by omega) (by omega)]
  omega
/-- Four bytes, the highest one first. -/
def w32 (l : List UInt8) (i : Nat) : Int := by_ l i * 16777216 + by_ l (i + 1) * 65536 + by_ l (i + 2) * 256 + by_ l (i + 3)
theorem w32_range {l : List UInt8} {i : Nat} : 0 ≤ w32 l i ∧ w32 l i < 4294967296 := by
  have h0 := by_range (k := l) (i := i)
  have h1 := by_range (k := l) (i := i + 1)
  have h2 := by_range (k := l) (i := i + 2)
  have h3 := by_range (k := l) (i := i + 3)
  unfold w32
  omega
theorem shl32u {x : Int} {j : Nat} (hj : j ≤ 32) : shiftK .shl .u32 x (j : Int) = (x * 2 ^ j) % 4294967296 := by
  simp only [shiftK, Int.toNat_natCast]
  rw [show IntKind.u32.bits = 32 from rfl, show Nat.min j 32 = j from Nat.min_eq_left hj, IntKind.wrap_u32]
theorem v103 (h103 : tbl 103 = some (.code m103)) (l : List UInt8) (hl : l.length = 12) (H : AH) : Val tbl 103 [.string (tx l), .int .i64 8] H (.int .u32 (w32 l 8)) H := by
  refine Val.of_all fun Q hQ => ?_
  rw [rn_fun h103, k103]
  have q8 := by_range (k := l) (i := 8)
  have q9 := by_range (k := l) (i := 9)
  have q10 := by_range (k := l) (i := 10)
  have q11 := by_range (k := l) (i := 11)
  have b8' : byteAt (tx l) 8 = by_ l 8 := byteAt_tx (i := 8)
  have b9' : byteAt (tx l) 9 = by_ l 9 := byteAt_tx (i := 9)
  have b10' : byteAt (tx l) 10 = by_ l 10 := byteAt_tx (i := 10)
  have b11' : byteAt (tx l) 11 = by_ l 11 := byteAt_tx (i := 11)
  have w9 : IntKind.wrap .i64 9 = 9 := rfl
  have w10 : IntKind.wrap .i64 10 = 10 := rfl
  have w11 : IntKind.wrap .i64 11 = 11 := rfl
  have u8_ := u32w (n := by_ l 8) (by omega) (by omega)
  have u9 := u32w (n := by_ l 9) (by omega) (by omega)
  have u10 := u32w (n := by_ l 10) (by omega) (by omega)
  have u11 := u32w (n := by_ l 11) (by omega) (by omega)
  have s1 := shl32u (x := by_ l 8) (j := 24) (by omega)
  have s2 := shl32u (x := by_ l 9) (j := 16) (by omega)
  have s3 := shl32u (x := by_ l 10) (j := 8) (by omega)
  rw [show ((24 : Nat) : Int) = 24 from rfl, show (2 : Int) ^ 24 = 16777216 from rfl, Int.emod_eq_of_lt (by omega) (by omega)] at s1
  rw [show ((16 : Nat) : Int) = 16 from rfl, show (2 : Int) ^ 16 = 65536 from rfl, Int.emod_eq_of_lt (by omega) (by omega)] at s2
  rw [show ((8 : Nat) : Int) = 8 from rfl, show (2 : Int) ^ 8 = 256 from rfl, Int.emod_eq_of_lt (by omega) (by omega)] at s3
  have o1 := or_add32 24 16777216 rfl (x := by_ l 8 * 16777216) (y := by_ l 9 * 65536) (by omega) (by omega) (by omega) (by omega) (by omega)
  have o2 := or_add32 16 65536 rfl (x := by_ l 8 * 16777216 + by_ l 9 * 65536) (y := by_ l 10 * 256) (by omega) (by omega) (by omega) (by omega) (by omega)
  have o3 := or_add32 8 256 rfl (x := by_ l 8 * 16777216 + by_ l 9 * 65536 + by_ l 10 * 256) (y := by_ l 11) (by omega) (by omega) (by omega) (by omega) (by omega)
  have c12 : ((12 : Nat) : Int) = 12 := rfl
  simp only [tx_size, hl, c12, b8', b9', b10', b11', w9, w10, w11, u8_, u9, u10, u11, s1, s2, s3, o1, o2, o3, go_sem, Nat.reduceEqDiff, Nat.reduceAdd, Nat.reduceLeDiff, Int.reduceEq, Int.reduceLT, Int.reduceLE, Int.reduceAdd, Int.reduceSub, Int.reduceMul, Int.reduceNeg, Int.reduceToNat, Nat.reduceMul]
  exact hQ
/-- The nonce of a part. -/
def nonceL (n : List UInt8) (i : Int) : List UInt8 := n.take 8 ++ be4 (w32 n 8 + i)
theorem nonceL_len {n : List UInt8} {i : Int} (h : n.length = 12) : (nonceL n i).length = 12 := by
  rw [nonceL, List.length_append, List.length_take, be4_len, h]; rfl
theorem v76 (h102 : tbl 102 = some (.code m102)) (h103 : tbl 103 = some (.code m103)) (h76 : tbl 76 = some (.code m76)) (n : List UInt8) (hn : n.length = 12) (i : Int) (H : AH) : Val tbl 76 [.string (tx n), .int .i64 i] H (.string (tx (nonceL n i))) H := by
  refine Val.of_all fun Q hQ => ?_
  rw [rn_fun h76, k76]
  have a1 := v103 (tbl := tbl) h103 n hn
  have a2 := v102 (tbl := tbl) h102 (IntKind.wrap .u32 (w32 n 8 + IntKind.wrap .u32 i))
  have e1 : be4 (IntKind.wrap .u32 (w32 n 8 + IntKind.wrap .u32 i)) = be4 (w32 n 8 + i) := be4_congr (by rw [IntKind.wrap_u32, IntKind.wrap_u32]; omega)
  rw [e1] at a2
  have hsz : 8 ≤ (tx n).size := by rw [tx_size]; omega
  have hx : (tx n).extract 0 8 = tx (n.take 8) := by rw [tx_extract]; rfl
  have hsz2 : (tx (n.take 8)).size + (tx (be4 (w32 n 8 + i))).size ≤ 9223372036854775807 := by rw [tx_size, tx_size, be4_len, List.length_take]; omega
  simp only [hsz, hx, ↓(a1 _).run, ↓(a2 _).run, hsz2, tx_cat, go_sem, Nat.reduceEqDiff, Nat.reduceAdd, Nat.reduceLeDiff, Int.reduceEq, Int.reduceLT, Int.reduceLE, Int.reduceAdd, Int.reduceSub, Int.reduceMul, Int.reduceNeg, Int.reduceToNat, Nat.reduceMul]
  exact hQ
/-- The extra of a part. -/
def extraL (h : List UInt8) (i : Int) (last : Bool) : List UInt8 := h ++ be8 i ++ [if last = true then 1 else 0]
theorem extraL_len {h : List UInt8} {i : Int} {last : Bool} : (extraL h i last).length = h.length + 9 := by
  simp [extraL, be8_len]
theorem shl8 {x : Int} (h : 0 ≤ x ∧ x < 16777216) : shiftK .shl .i64 x 8 = x * 256 := by
  simp only [shiftK]
  rw [show (2 : Int) ^ Nat.min (8 : Int).toNat IntKind.i64.bits = 256 from rfl, w64 (by omega) (by omega)]
theorem v107 (h49 : tbl 49 = some (.nat natJoin)) (h113 : tbl 113 = some (.code m113)) (h120 : tbl 120 = some (.code m120)) (h107 : tbl 107 = some (.code m107)) (h : List UInt8) (hh : h.length = 20) (i : Int) (hi : 0 ≤ i ∧ i ≤ 1000000000) (last : Bool) (H : AH) :
    Val tbl 107 [.string (tx h), .int .i64 i, .bool last] H (.tuple #[.string (tx (nonceL (h.drop 8) i)), .string (tx (extraL h i last))]) H := by
  refine Val.of_all fun Q hQ => ?_
  rw [rn_fun h107, k107]
  obtain ⟨n, hn⟩ : ∃ n, n = h.drop 8 := ⟨_, rfl⟩
  have hnl : n.length = 12 := by rw [hn, List.length_drop]; omega
  rw [← hn] at hQ
  have hx1 : (tx h).extract 8 20 = tx n := by rw [tx_extract, List.take_of_length_le (by omega), hn]
  have q8 := by_range (k := n) (i := 8)
  have q9 := by_range (k := n) (i := 9)
  have q10 := by_range (k := n) (i := 10)
  have q11 := by_range (k := n) (i := 11)
  have b8' : byteAt (tx n) 8 = by_ n 8 := byteAt_tx (i := 8)
  have b9' : byteAt (tx n) 9 = by_ n 9 := byteAt_tx (i := 9)
  have b10' : byteAt (tx n) 10 = by_ n 10 := byteAt_tx (i := 10)
  have b11' : byteAt (tx n) 11 = by_ n 11 := byteAt_tx (i := 11)
  have w9 : IntKind.wrap .i64 9 = 9 := rfl
  have w10 : IntKind.wrap .i64 10 = 10 := rfl
  have w11 : IntKind.wrap .i64 11 = 11 := rfl
  have w12 : IntKind.wrap .i64 12 = 12 := rfl
  have u8_ := w64 (x := by_ n 8) (by omega) (by omega)
  have u9 := w64 (x := by_ n 9) (by omega) (by omega)
  have u10 := w64 (x := by_ n 10) (by omega) (by omega)
  have u11 := w64 (x := by_ n 11) (by omega) (by omega)
  have s0 : shiftK .shl .i64 0 8 = 0 := rfl
  have s1 := shl8 (x := by_ n 8) (by omega)
  have s2 := shl8 (x := by_ n 8 * 256 + by_ n 9) (by omega)
  have s3 := shl8 (x := (by_ n 8 * 256 + by_ n 9) * 256 + by_ n 10) (by omega)
  have o0 := or_add63 8 256 rfl (x := 0) (y := by_ n 8) (by omega) (by omega) (by omega) (by omega) (by omega)
  have z0 : (0 : Int) + by_ n 8 = by_ n 8 := by omega
  rw [z0] at o0
  have o1 := or_add63 8 256 rfl (x := by_ n 8 * 256) (y := by_ n 9) (by omega) (by omega) (by omega) (by omega) (by omega)
  have o2 := or_add63 8 256 rfl (x := (by_ n 8 * 256 + by_ n 9) * 256) (y := by_ n 10) (by omega) (by omega) (by omega) (by omega) (by omega)
  have o3 := or_add63 8 256 rfl (x := ((by_ n 8 * 256 + by_ n 9) * 256 + by_ n 10) * 256) (y := by_ n 11) (by omega) (by omega) (by omega) (by omega) (by omega)
  have hw : ((by_ n 8 * 256 + by_ n 9) * 256 + by_ n 10) * 256 + by_ n 11 = w32 n 8 := by simp only [w32, Nat.reduceAdd]; omega
  rw [hw] at o3
  have c20 : (tx h).size = 20 := by rw [tx_size, hh]
  have c12 : ((12 : Nat) : Int) = 12 := rfl
  have le20 : 8 ≤ 20 := by omega
  simp only [c20, le20, hx1, go_sem, Nat.reduceEqDiff, Nat.reduceAdd, Nat.reduceLeDiff, Int.reduceEq, Int.reduceLT, Int.reduceLE, Int.reduceAdd, Int.reduceSub, Int.reduceMul, Int.reduceNeg, Int.reduceToNat, Nat.reduceMul]
  rw [rn_round]
  simp only [tx_size, hnl, c12, b8', w9, u8_, s0, o0, go_sem, Nat.reduceEqDiff, Nat.reduceAdd, Nat.reduceLeDiff, Int.reduceEq, Int.reduceLT, Int.reduceLE, Int.reduceAdd, Int.reduceSub, Int.reduceMul, Int.reduceNeg, Int.reduceToNat, Nat.reduceMul]
  rw [rn_round]
  simp only [tx_size, hnl, c12, b9', w10, u9, s1, o1, go_sem, Nat.reduceEqDiff, Nat.reduceAdd, Nat.reduceLeDiff, Int.reduceEq, Int.reduceLT, Int.reduceLE, Int.reduceAdd, Int.reduceSub, Int.reduceMul, Int.reduceNeg, Int.reduceToNat, Nat.reduceMul]
  rw [rn_round]
  simp only [tx_size, hnl, c12, b10', w11, u10, s2, o2, go_sem, Nat.reduceEqDiff, Nat.reduceAdd, Nat.reduceLeDiff, Int.reduceEq, Int.reduceLT, Int.reduceLE, Int.reduceAdd, Int.reduceSub, Int.reduceMul, Int.reduceNeg, Int.reduceToNat, Nat.reduceMul]
  rw [rn_round]
  simp only [tx_size, hnl, c12, b11', w12, u11, s3, o3, go_sem, Nat.reduceEqDiff, Nat.reduceAdd, Nat.reduceLeDiff, Int.reduceEq, Int.reduceLT, Int.reduceLE, Int.reduceAdd, Int.reduceSub, Int.reduceMul, Int.reduceNeg, Int.reduceToNat, Nat.reduceMul]
  rw [rn_round]
  have rr := w32_range (l := n) (i := 8)
  have wsum := w64 (x := w32 n 8 + i) (by omega) (by omega)
  have a4 := v120 (tbl := tbl) h120 (w32 n 8 + i) (by omega) 4 (by omega) (by omega)
  have a8 := v120 (tbl := tbl) h120 i (by omega) 8 (by omega) (by omega)
  rw [beP4, show ((4 : Nat) : Int) = 4 from rfl] at a4
  rw [beP8, show ((8 : Nat) : Int) = 8 from rfl] at a8
  have hsz8 : 8 ≤ (tx n).size := by rw [tx_size]; omega
  have hx2 : (tx n).extract 0 8 = tx (n.take 8) := by rw [tx_extract]; rfl
  have hsz2 : (tx (n.take 8)).size + (tx (be4 (w32 n 8 + i))).size ≤ 9223372036854775807 := by rw [tx_size, tx_size, be4_len, List.length_take]; omega
  have fl0 : (⟨#[0]⟩ : ByteArray) = tx [0] := rfl
  have fl1 : (⟨#[1]⟩ : ByteArray) = tx [1] := rfl
  have hv := fun fl : UInt8 => v113 (tbl := tbl) (p := ⟨H.next, 0, none⟩) (n := 3) (c := 3) (xs := [h, be8 i, [fl]]) (H := H.enter.push ⟨[.string (tx h), .string (tx (be8 i)), .string (tx [fl])], 1, false⟩) h113 h49 (by
    have := AH.get_push_eq H.enter ⟨[.string (tx h), .string (tx (be8 i)), .string (tx [fl])], 1, false⟩
    rw [nx_enter] at this
    rw [ldc_eq]
    simp only
    rw [this]
    rfl) (by omega) (by omega) (by simp [be8_len, hh]) (by omega)
  have hfl : ∀ fl : UInt8, [h, be8 i, [fl]].flatten = h ++ be8 i ++ [fl] := fun fl => by simp
  simp only [hfl] at hv
  cases last with
  | true =>
    have he : extraL h i true = h ++ be8 i ++ [1] := rfl
    rw [he] at hQ
    simp only [wsum, hsz8, hx2, fl0, fl1, hsz2, tx_cat, ↓(a4 _).run, ↓(a8 _).run, ↓(hv 1).run, go_sem, Nat.reduceEqDiff, Nat.reduceAdd, Nat.reduceLeDiff, Int.reduceEq, Int.reduceLT, Int.reduceLE, Int.reduceAdd, Int.reduceSub, Int.reduceMul, Int.reduceNeg, Int.reduceToNat, Nat.reduceMul]
    exact hQ
  | false =>
    have he : extraL h i false = h ++ be8 i ++ [0] := rfl
    rw [he] at hQ
    simp only [wsum, hsz8, hx2, fl0, fl1, hsz2, tx_cat, ↓(a4 _).run, ↓(a8 _).run, ↓(hv 0).run, go_sem, Nat.reduceEqDiff, Nat.reduceAdd, Nat.reduceLeDiff, Int.reduceEq, Int.reduceLT, Int.reduceLE, Int.reduceAdd, Int.reduceSub, Int.reduceMul, Int.reduceNeg, Int.reduceToNat, Nat.reduceMul]
    exact hQ
/-- The error of keys. -/
def keysW (a b c : List UInt8) : Int := if a.length = 32 ∧ b.length = 32 ∧ c.length = 16 then 0 else 6
def keysV (a b c : List UInt8) : Value := .agg #[.string (tx a), .string (tx b), .string (tx c)]
end Go.Proofs.Ytildhljhbbhmmaa.AM
