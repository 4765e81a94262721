/- Part 4 of the texts that this claim needs. No conditions. -/
import Derived.Test.YtildhljhbbhmmaaCv3
namespace Go.Proofs.Ytildhljhbbhmmaa.AM
open Go
set_option linter.all false
set_option maxRecDepth 10000
variable {tbl : Tbl} [hT : TMono tbl]

def gS (g : List Int) (i : Nat) : List Int := (g.set (i + 1) (IntKind.wrap .u64 (gw g (i + 1) + gw g i / 67108864))).set i (gw (g.set (i + 1) (IntKind.wrap .u64 (gw g (i + 1) + gw g i / 67108864))) i % 67108864)
def gN (g : List Int) : Nat → List Int
  | 0 => g
  | i + 1 => gS (gN g i) i
theorem gN_len {g : List Int} : ∀ i, (gN g i).length = g.length := by
  intro i
  induction i with
  | zero => rfl
  | succ i ih => simp only [gN, gS, List.length_set, ih]
theorem gS_R {g : List Int} (h : R64 g) {i : Nat} (hi : i < g.length) : R64 (gS g i) := by
  have h1 : R64 (g.set (i + 1) (IntKind.wrap .u64 (gw g (i + 1) + gw g i / 67108864))) := h.set (wrap_R _)
  have h2 := h1 i (by rw [List.length_set]; exact hi)
  exact h1.set (by omega)
theorem gN_R {g : List Int} (h : R64 g) : ∀ i, i ≤ g.length → R64 (gN g i) := by
  intro i
  induction i with
  | zero => intro _; exact h
  | succ i ih => intro hi; exact gS_R (ih (by omega)) (by rw [gN_len]; omega)
/-- The number less 2^130 - 5, if it is as great. -/
def lessP (h : List Int) : List Int :=
  let g := gN (h.set 0 (IntKind.wrap .u64 (gw h 0 + 5))) 4
  if 0 < gw g 4 / 67108864 then g.set 4 (gw g 4 % 67108864) else h
def loE (h : List Int) : Int := bitsK .or .u64 (bitsK .or .u64 (gw h 0) (shiftK .shl .u64 (gw h 1) 26)) (shiftK .shl .u64 (gw h 2) 52)
def hiE (h : List Int) : Int := bitsK .or .u64 (bitsK .or .u64 (gw h 2 / 4096) (shiftK .shl .u64 (gw h 3) 14)) (shiftK .shl .u64 (gw h 4) 40)
def xE (s : ByteArray) (i : Nat) : Int := bitsK .or .u64 (wordAt s i) (shiftK .shl .u64 (wordAt s (i + 4)) 32)
theorem or_R (x y : Int) : 0 ≤ bitsK .or .u64 x y ∧ bitsK .or .u64 x y < 18446744073709551616 := by
  simp only [bitsK]
  exact wrap_R _
theorem shr12 {x : Int} : shiftK .shr .u64 x 12 = x / 4096 := by
  have := shr64 (x := x) (j := 12) (by omega)
  exact this
end Go.Proofs.Ytildhljhbbhmmaa.AM
namespace Go.Proofs.Ytildhljhbbhmmaa.AM
open Go
set_option linter.all false
set_option maxRecDepth 10000
variable {tbl : Tbl} [hT : TMono tbl]

def cl (lo hi : Int) : Nat → List UInt8
  | 0 => zb 16
  | i + 1 => ((cl lo hi i).set i (b8 (lo / 2 ^ (8 * i)))).set (8 + i) (b8 (hi / 2 ^ (8 * i)))
theorem cl_len {lo hi : Int} : ∀ i, (cl lo hi i).length = 16 := by
  intro i
  induction i with
  | zero => rfl
  | succ i ih => simp only [cl, List.length_set, ih]
structure GSt (H H' : AH) (t g : List Int) : Prop where
  nx : H'.next = H.next + 3
  low : H.next ≤ H'.low
  g2 : H'.get H.next = some (row .u64 t)
  g4 : H'.get (H.next + 1) = some (u8r (zb 16))
  g5 : H'.get (H.next + 2) = some (row .u64 g)
theorem GSt.turn {H H' : AH} {t g : List Int} (st : GSt H H' t g) (y : List Int) : GSt H (H'.set (H.next + 2) (some (row .u64 y))) t y := by
  have := st.nx
  have := st.low
  exact ⟨by rw [AH.next_set]; exact st.nx, by rw [lw_set]; omega, by rw [AH.get_set_ne _ _ (by omega)]; exact st.g2, by rw [AH.get_set_ne _ _ (by omega)]; exact st.g4, AH.get_set_eq _ _ (by omega)⟩
structure FSt (H H' : AH) (lo hi : Int) (i : Nat) : Prop where
  nx : H'.next = H.next + 4
  low : H.next ≤ H'.low
  g4 : H'.get (H.next + 1) = some (u8r (zb 16))
  g12 : H'.get (H.next + 3) = some (u8r (cl lo hi i))
theorem FSt.turn {H H' : AH} {lo hi : Int} {i : Nat} (st : FSt H H' lo hi i) : FSt H (H'.set (H.next + 3) (some (u8r (cl lo hi (i + 1))))) lo hi (i + 1) := by
  have := st.nx
  have := st.low
  exact ⟨by rw [AH.next_set]; exact st.nx, by rw [lw_set]; omega, by rw [AH.get_set_ne _ _ (by omega)]; exact st.g4, AH.get_set_eq _ _ (by omega)⟩
theorem FSt_start {H : AH} {lo hi : Int} (G : AH) (nG : G.next = H.next + 3) (lG : H.next ≤ G.low) (bG : G.get (H.next + 1) = some (u8r (zb 16))) : FSt H (G.push (u8r (zb 16))) lo hi 0 := by
  refine ⟨by rw [AH.next_push]; omega, by rw [lw_push]; exact lG, by rw [AH.get_push_lt _ _ (by omega)]; exact bG, ?_⟩
  have := AH.get_push_eq G (u8r (zb 16))
  rw [nG] at this
  exact this
set_option maxHeartbeats 2000000 in
theorem v99 (h96 : tbl 96 = some (.code m96)) (h115 : tbl 115 = some (.code m115)) (h116 : tbl 116 = some (.nat natAdd64)) (h99 : tbl 99 = some (.code m99)) (h : List Int) (hl : h.length = 5) (hr : R64 h) (s : List UInt8) (hs : s.length = 16) (H : AH) :
    Val tbl 99 [.agg (h.map (Value.int .u64)).toArray, .string (tx s)] H (.agg (bc (cl ((loE (lessP (carN (carN h 5) 5)) + xE (tx s) 0) % 18446744073709551616) ((hiE (lessP (carN (carN h 5) 5)) + xE (tx s) 8 + (loE (lessP (carN (carN h 5) 5)) + xE (tx s) 0) / 18446744073709551616) % 18446744073709551616) 8)).toArray) H := by
  refine Val.of_all fun Q hQ => ?_
  rw [rn_fun h99, k99]
  have hc1 := v115 h115 h hl hr
  have hl1 := carN_len (d := h) 5
  have hl2 := carN_len (d := carN h 5) 5
  have hR1 := carN_R hr 5 (by omega)
  have hc2 := v115 h115 (carN h 5) (by omega) hR1
  have hR2 := carN_R hR1 5 (by omega)
  generalize ht : carN (carN h 5) 5 = t at *
  have htl : t.length = 5 := by omega
  have hone := p1_one (row_p1 .u64 h)
  have hone2 := p1_one (row_p1 .u64 t)
  have htm : (t.map (Value.int .u64)).length = 5 := by simp [htl]
  have hhm : (h.map (Value.int .u64)).length = 5 := by simp [hl]
  have htk := row_all (k := .u64) hl
  have htk2 := row_all (k := .u64) htl
  have hsp : splice (row .u64 h).cells 0 (t.map (Value.int .u64)) = (row .u64 t).cells := splice_all (by rw [htm, row_len]; omega)
  have hsp2 : splice (row .u64 [0, 0, 0, 0, 0]).cells 0 (t.map (Value.int .u64)) = (row .u64 t).cells := splice_all (by rw [htm]; rfl)
  have hl0 : ([0, 0, 0, 0, 0] : List Int).length = 5 := rfl
  have ha0 := row_at (k := .u64) (x := t) (i := 0) (by omega)
  rw [List.drop_zero] at ha0
  have hmt : List.take 5 (h.map (Value.int .u64)) = h.map (Value.int .u64) := List.take_of_length_le (by omega)
  have hmt2 : List.take 5 (t.map (Value.int .u64)) = t.map (Value.int .u64) := List.take_of_length_le (by omega)
  have hsp1 : splice (h.map (Value.int .u64)) 0 (t.map (Value.int .u64)) = t.map (Value.int .u64) := splice_all (by rw [htm, hhm])
  have hsp3 : splice [Value.int .u64 0, Value.int .u64 0, Value.int .u64 0, Value.int .u64 0, Value.int .u64 0] 0 (t.map (Value.int .u64)) = t.map (Value.int .u64) := splice_all (by rw [htm]; rfl)
  have hst : (⟨(t.map (Value.int .u64)).set 0 (.int .u64 (IntKind.wrap .u64 (gw t 0 + 5))), 1, false⟩ : Blk) = row .u64 (t.set 0 (IntKind.wrap .u64 (gw t 0 + 5))) := row_set
  have hat : List.take 1 (t.map (Value.int .u64)) = [.int .u64 (gw t 0)] := ha0
  have hG : ∀ B : Blk, ((H.enter.push ⟨h.map (Value.int .u64), 1, false⟩).push B).get H.next = some ⟨h.map (Value.int .u64), 1, false⟩ := fun B => by
    rw [AH.get_push_lt _ _ (by rw [AH.next_push, nx_enter]; omega)]
    exact AH.get_push_eq H.enter _
  have hGs : ∀ (B : Blk) (X : Option Blk), (((H.enter.push ⟨h.map (Value.int .u64), 1, false⟩).push B).set H.next X).get H.next = X := fun B X => AH.get_set_eq _ _ (by rw [AH.next_push, AH.next_push, nx_enter]; omega)
  have hGps : ∀ (B C : Blk) (X Y : Option Blk), (((((H.enter.push ⟨h.map (Value.int .u64), 1, false⟩).push B).set H.next X).push C).set (H.next + 1 + 1) Y).get (H.next + 1 + 1) = Y := fun B C X Y => AH.get_set_eq _ _ (by rw [AH.next_push, AH.next_set, AH.next_push, AH.next_push, nx_enter]; omega)
  have hGp : ∀ (B C : Blk) (X : Option Blk), ((((H.enter.push ⟨h.map (Value.int .u64), 1, false⟩).push B).set H.next X).push C).get (H.next + 1 + 1) = some C := fun B C X => by
    have := AH.get_push_eq (((H.enter.push ⟨h.map (Value.int .u64), 1, false⟩).push B).set H.next X) C
    rw [AH.next_set, AH.next_push, AH.next_push, nx_enter] at this
    exact this
  simp only [hG, hGs, hGp, hGps, stc_eq, stB_some, AH.next_set, set_set, List.toList_toArray, hone, hone2, hhm, htm, hmt, hmt2, hsp1, hsp3, hat, hst, splice_one, ↓(hc1 _).run, ↓(hc2 _).run, go_sem, Nat.reduceEqDiff, Nat.reduceAdd, Nat.reduceLeDiff, Int.reduceEq, Int.reduceLT, Int.reduceLE, Int.reduceAdd, Int.reduceSub, Int.reduceMul, Int.reduceNeg, Int.reduceToNat, Nat.reduceMul]
  have hinit : GSt H (((((H.enter.push ⟨h.map (Value.int .u64), 1, false⟩).push (u8r (zb 16))).set H.next (some (row .u64 t))).push (row .u64 [0, 0, 0, 0, 0])).set (H.next + 1 + 1) (some (row .u64 (t.set 0 (IntKind.wrap .u64 (gw t 0 + 5)))))) t (t.set 0 (IntKind.wrap .u64 (gw t 0 + 5))) := by
    refine ⟨?_, ?_, ?_, ?_, ?_⟩
    · rw [AH.next_set, AH.next_push, AH.next_set, AH.next_push, AH.next_push, nx_enter]
    · rw [lw_set, lw_push, lw_set, lw_push, lw_push, lw_enter]; omega
    · rw [AH.get_set_ne _ _ (by omega), AH.get_push_lt _ _ (by rw [AH.next_set, AH.next_push, AH.next_push, nx_enter]; omega)]
      exact AH.get_set_eq _ _ (by rw [AH.next_push, AH.next_push, nx_enter]; omega)
    · rw [AH.get_set_ne _ _ (by omega), AH.get_push_lt _ _ (by rw [AH.next_set, AH.next_push, AH.next_push, nx_enter]; omega), AH.get_set_ne _ _ (by omega)]
      have := AH.get_push_eq (H.enter.push ⟨h.map (Value.int .u64), 1, false⟩) (u8r (zb 16))
      rw [AH.next_push, nx_enter] at this
      exact this
    · exact AH.get_set_eq _ _ (by rw [AH.next_push, AH.next_set, AH.next_push, AH.next_push, nx_enter]; omega)
  have hR0 : R64 (t.set 0 (IntKind.wrap .u64 (gw t 0 + 5))) := hR2.set (wrap_R _)
  have hg0l : (t.set 0 (IntKind.wrap .u64 (gw t 0 + 5))).length = 5 := by rw [List.length_set, htl]
  generalize hg0 : t.set 0 (IntKind.wrap .u64 (gw t 0 + 5)) = g0 at *
  have hsz : (tx s).size = 16 := by rw [tx_size, hs]
  have hw0 := v96 (tbl := tbl) h96 (tx s) (by omega)
  have hw4 := v96t (tbl := tbl) h96 s 4 16 hs (by omega)
  have hw8 := v96t (tbl := tbl) h96 s 8 16 hs (by omega)
  have hw12 := v96t (tbl := tbl) h96 s 12 16 hs (by omega)
  have r0 := wordAt_range (tx s) 0
  have r4 := wordAt_range (tx s) 4
  have r8 := wordAt_range (tx s) 8
  have r12 := wordAt_range (tx s) 12
  have q0 := u64w (n := wordAt (tx s) 0) (by omega) (by omega)
  have q4 := u64w (n := wordAt (tx s) 4) (by omega) (by omega)
  have q8 := u64w (n := wordAt (tx s) 8) (by omega) (by omega)
  have q12 := u64w (n := wordAt (tx s) 12) (by omega) (by omega)
  refine rn_loop (fun m f H' => ∃ i : Nat, i ≤ 4 ∧ m = 4 - i ∧ f 1 = .string (tx s) ∧ f 2 = .pointer (some ⟨H.next, 0, none⟩) ∧ f 4 = .pointer (some ⟨H.next + 1, 0, none⟩) ∧ f 5 = .pointer (some ⟨H.next + 2, 0, none⟩) ∧ f 22 = .int .i64 i ∧ GSt H H' t (gN g0 i)) ?_ (n := 4)
    ⟨0, by omega, rfl, by simp only [go_sem, Nat.reduceEqDiff, Nat.reduceAdd, Nat.reduceLeDiff, Int.reduceEq, Int.reduceLT, Int.reduceLE, Int.reduceAdd, Int.reduceSub, Int.reduceMul, Int.reduceNeg, Int.reduceToNat, Nat.reduceMul], by simp only [go_sem, Nat.reduceEqDiff, Nat.reduceAdd, Nat.reduceLeDiff, Int.reduceEq, Int.reduceLT, Int.reduceLE, Int.reduceAdd, Int.reduceSub, Int.reduceMul, Int.reduceNeg, Int.reduceToNat, Nat.reduceMul], by simp only [go_sem, Nat.reduceEqDiff, Nat.reduceAdd, Nat.reduceLeDiff, Int.reduceEq, Int.reduceLT, Int.reduceLE, Int.reduceAdd, Int.reduceSub, Int.reduceMul, Int.reduceNeg, Int.reduceToNat, Nat.reduceMul], by simp only [go_sem, Nat.reduceEqDiff, Nat.reduceAdd, Nat.reduceLeDiff, Int.reduceEq, Int.reduceLT, Int.reduceLE, Int.reduceAdd, Int.reduceSub, Int.reduceMul, Int.reduceNeg, Int.reduceToNat, Nat.reduceMul], by simp only [go_sem, Nat.reduceEqDiff, Nat.reduceAdd, Nat.reduceLeDiff, Int.reduceEq, Int.reduceLT, Int.reduceLE, Int.reduceAdd, Int.reduceSub, Int.reduceMul, Int.reduceNeg, Int.reduceToNat, Nat.reduceMul] <;> rfl, hinit⟩
  rintro m f H' ⟨i, hi, rfl, f1, f2, f4, f5, f22, st⟩
  have nx := st.nx
  have lw := st.low
  have b2 := st.g2
  have b4 := st.g4
  have b5 := st.g5
  have n2 : H.next + 2 < H.next + 3 := by omega
  have n0 : H.next < H.next + 3 := by omega
  have n1 : H.next + 1 < H.next + 3 := by omega
  have hgl := gN_len (g := g0) i
  rw [hg0l] at hgl
  by_cases hlt : (i : Int) < 4
  · have i0 : (0 : Int) ≤ i := by omega
    have i1 : i + 1 ≤ 5 := by omega
    have i2 : i + 1 + 1 ≤ 5 := by omega
    have i5 : (i : Int) < 5 := by omega
    have i51 : (i : Int) + 1 < 5 := by omega
    have i01 : (0 : Int) ≤ (i : Int) + 1 := by omega
    have ti : ((i : Int) + 1).toNat = i + 1 := by omega
    have wi := w64 (x := (i : Int) + 1) (by omega) (by omega)
    have hRg := gN_R hR0 i (by omega)
    have ha := row_at (k := .u64) (x := gN g0 i) (i := i) (by omega)
    have hb := row_at (k := .u64) (x := gN g0 i) (i := i + 1) (by omega)
    have hR' := (hRg.set (i := i + 1) (wrap_R (gw (gN g0 i) (i + 1) + gw (gN g0 i) i / 67108864))) i (by rw [List.length_set]; omega)
    have hc := row_at (k := .u64) (x := (gN g0 i).set (i + 1) (IntKind.wrap .u64 (gw (gN g0 i) (i + 1) + gw (gN g0 i) i / 67108864))) (i := i) (by rw [List.length_set]; omega)
    have hm := mask26 hR'
    have hgs : gN g0 (i + 1) = gS (gN g0 i) i := rfl
    rw [gS] at hgs
    simp only [f1, f2, f4, f5, f22, hlt, i0, i1, i2, i5, i51, i01, ti, wi, nx, n2, b5, row_len, row_ro, row_es, hgl, ha, hb, hc, hm, shr26, Int.toNat_natCast, List.length_set, stc_eq, stB_some, set_get, set_set, AH.next_set, addA, Nat.zero_add, splice_one, row_set, ← hgs, go_sem, Nat.reduceEqDiff, Nat.reduceAdd, Nat.reduceLeDiff, Int.reduceEq, Int.reduceLT, Int.reduceLE, Int.reduceAdd, Int.reduceSub, Int.reduceMul, Int.reduceNeg, Int.reduceToNat, Nat.reduceMul]
    exact ⟨4 - (i + 1), by omega, i + 1, by omega, rfl, by simp only [f1, go_sem, Nat.reduceEqDiff, Nat.reduceAdd, Nat.reduceLeDiff, Int.reduceEq, Int.reduceLT, Int.reduceLE, Int.reduceAdd, Int.reduceSub, Int.reduceMul, Int.reduceNeg, Int.reduceToNat, Nat.reduceMul], by simp only [f2, go_sem, Nat.reduceEqDiff, Nat.reduceAdd, Nat.reduceLeDiff, Int.reduceEq, Int.reduceLT, Int.reduceLE, Int.reduceAdd, Int.reduceSub, Int.reduceMul, Int.reduceNeg, Int.reduceToNat, Nat.reduceMul], by simp only [f4, go_sem, Nat.reduceEqDiff, Nat.reduceAdd, Nat.reduceLeDiff, Int.reduceEq, Int.reduceLT, Int.reduceLE, Int.reduceAdd, Int.reduceSub, Int.reduceMul, Int.reduceNeg, Int.reduceToNat, Nat.reduceMul], by simp only [f5, go_sem, Nat.reduceEqDiff, Nat.reduceAdd, Nat.reduceLeDiff, Int.reduceEq, Int.reduceLT, Int.reduceLE, Int.reduceAdd, Int.reduceSub, Int.reduceMul, Int.reduceNeg, Int.reduceToNat, Nat.reduceMul], by simp only [go_sem, Nat.reduceEqDiff, Nat.reduceAdd, Nat.reduceLeDiff, Int.reduceEq, Int.reduceLT, Int.reduceLE, Int.reduceAdd, Int.reduceSub, Int.reduceMul, Int.reduceNeg, Int.reduceToNat, Nat.reduceMul] <;> rfl, st.turn _⟩
  · have hi4 : i = 4 := by omega
    subst hi4
    have h4 := row_at (k := .u64) (x := gN g0 4) (i := 4) (by omega)
    by_cases ho : 0 < gw (gN g0 4) 4 / 67108864
    · have hm4 := mask26 (gN_R hR0 4 (by omega) 4 (by omega))
      have he : lessP t = (gN g0 4).set 4 (gw (gN g0 4) 4 % 67108864) := by
        show (if 0 < gw (gN (t.set 0 (IntKind.wrap .u64 (gw t 0 + 5))) 4) 4 / 67108864 then _ else t) = _
        rw [hg0, if_pos ho]
      rw [he] at hQ
      have hul : ((gN g0 4).set 4 (gw (gN g0 4) 4 % 67108864)).length = 5 := by rw [List.length_set, hgl]
      generalize hu : (gN g0 4).set 4 (gw (gN g0 4) 4 % 67108864) = u at *
      have hum : (u.map (Value.int .u64)).length = 5 := by simp [hul]
      have hut := row_all (k := .u64) hul
      have hone3 := p1_one (row_p1 .u64 u)
      have htk3 : List.take 5 (u.map (Value.int .u64)) = u.map (Value.int .u64) := List.take_of_length_le (by omega)
      have hspu : splice (row .u64 t).cells 0 (u.map (Value.int .u64)) = u.map (Value.int .u64) := splice_all (by rw [hum, row_len]; omega)
      have hlit : ∀ l : List Int, (⟨l.map (Value.int .u64), 1, false⟩ : Blk) = row .u64 l := fun _ => rfl
      have ga : ∀ X : Option Blk, (H'.set (H.next + 2) X).get H.next = H'.get H.next := fun X => AH.get_set_ne _ _ (by omega)
      have gb2 : ∀ X : Option Blk, (H'.set (H.next + 2) X).get (H.next + 2) = X := fun X => AH.get_set_eq _ _ (by omega)
      have gc : ∀ X Y : Option Blk, ((H'.set (H.next + 2) X).set H.next Y).get H.next = Y := fun X Y => AH.get_set_eq _ _ (by rw [AH.next_set]; omega)
      have nG : ((H'.set (H.next + 2) (some (row .u64 u))).set H.next (some (row .u64 u))).next = H.next + 3 := by rw [AH.next_set, AH.next_set, nx]
      have lG : H.next ≤ ((H'.set (H.next + 2) (some (row .u64 u))).set H.next (some (row .u64 u))).low := by rw [lw_set, lw_set]; omega
      have bG : ((H'.set (H.next + 2) (some (row .u64 u))).set H.next (some (row .u64 u))).get (H.next + 1) = some (u8r (zb 16)) := by rw [AH.get_set_ne _ _ (by omega), AH.get_set_ne _ _ (by omega)]; exact b4
      have c0 := row_at (k := .u64) (x := u) (i := 0) (by omega)
      rw [List.drop_zero] at c0
      have c1 := row_at (k := .u64) (x := u) (i := 1) (by omega)
      have c2 := row_at (k := .u64) (x := u) (i := 2) (by omega)
      have c3 := row_at (k := .u64) (x := u) (i := 3) (by omega)
      have c4 := row_at (k := .u64) (x := u) (i := 4) (by omega)
      have e0 : bitsK .or .u64 (bitsK .or .u64 (gw u 0) (shiftK .shl .u64 (gw u 1) 26)) (shiftK .shl .u64 (gw u 2) 52) = loE u := rfl
      have e1 : bitsK .or .u64 (bitsK .or .u64 (gw u 2 / 4096) (shiftK .shl .u64 (gw u 3) 14)) (shiftK .shl .u64 (gw u 4) 40) = hiE u := rfl
      have e2 : bitsK .or .u64 (wordAt (tx s) 0) (shiftK .shl .u64 (wordAt (tx s) 4) 32) = xE (tx s) 0 := rfl
      have e3 : bitsK .or .u64 (wordAt (tx s) 8) (shiftK .shl .u64 (wordAt (tx s) 12) 32) = xE (tx s) 8 := rfl
      have rl : 0 ≤ loE u ∧ loE u < 18446744073709551616 := or_R _ _
      have rh : 0 ≤ hiE u ∧ hiE u < 18446744073709551616 := or_R _ _
      have rx : 0 ≤ xE (tx s) 0 ∧ xE (tx s) 0 < 18446744073709551616 := or_R _ _
      have ry : 0 ≤ xE (tx s) 8 ∧ xE (tx s) 8 < 18446744073709551616 := or_R _ _
      have va := val_add64 (tbl := tbl) h116 rl rx (c := 0) (by omega)
      have vb := val_add64 (tbl := tbl) h116 rh ry (c := (loE u + xE (tx s) 0) / 18446744073709551616) (by omega)
      rw [Int.add_zero] at va
      simp only [hm4, hu, hum, hut, htk3, hone3, hspu, hlit, ga, gb2, gc, List.toList_toArray, List.length_set, stc_eq, stB_some, set_get, set_set, AH.next_set, splice_one, row_set, e0, e1, e2, e3, ↓(va _).run, ↓(vb _).run, f1, f2, f4, f5, f22, hlt, nx, n0, n2, b5, b2, row_len, row_ro, row_es, hgl, htl, hul, h4, c0, c1, c2, c3, c4, shr26, shr12, ho, addA, Nat.zero_add, hsz, q0, q4, q8, q12, ↓(hw0 _).run, ↓(hw4 _).run, ↓(hw8 _).run, ↓(hw12 _).run, go_sem, Nat.reduceEqDiff, Nat.reduceAdd, Nat.reduceLeDiff, Int.reduceEq, Int.reduceLT, Int.reduceLE, Int.reduceAdd, Int.reduceSub, Int.reduceMul, Int.reduceNeg, Int.reduceToNat, Nat.reduceMul]
      generalize (loE u + xE (tx s) 0) % 18446744073709551616 = lo at *
      generalize (hiE u + xE (tx s) 8 + (loE u + xE (tx s) 0) / 18446744073709551616) % 18446744073709551616 = hi at *
      refine rn_loop (fun m f H2 => ∃ i : Nat, i ≤ 8 ∧ m = 8 - i ∧ f 4 = .pointer (some ⟨H.next + 1, 0, none⟩) ∧ f 7 = .int .u64 lo ∧ f 8 = .int .u64 hi ∧ f 12 = .pointer (some ⟨H.next + 3, 0, none⟩) ∧ f 103 = .int .i64 i ∧ FSt H H2 lo hi i) ?_ (n := 8)
        ⟨0, by omega, rfl, by simp only [f4, go_sem, Nat.reduceEqDiff, Nat.reduceAdd, Nat.reduceLeDiff, Int.reduceEq, Int.reduceLT, Int.reduceLE, Int.reduceAdd, Int.reduceSub, Int.reduceMul, Int.reduceNeg, Int.reduceToNat, Nat.reduceMul], by simp only [go_sem, Nat.reduceEqDiff, Nat.reduceAdd, Nat.reduceLeDiff, Int.reduceEq, Int.reduceLT, Int.reduceLE, Int.reduceAdd, Int.reduceSub, Int.reduceMul, Int.reduceNeg, Int.reduceToNat, Nat.reduceMul], by simp only [go_sem, Nat.reduceEqDiff, Nat.reduceAdd, Nat.reduceLeDiff, Int.reduceEq, Int.reduceLT, Int.reduceLE, Int.reduceAdd, Int.reduceSub, Int.reduceMul, Int.reduceNeg, Int.reduceToNat, Nat.reduceMul], by simp only [go_sem, Nat.reduceEqDiff, Nat.reduceAdd, Nat.reduceLeDiff, Int.reduceEq, Int.reduceLT, Int.reduceLE, Int.reduceAdd, Int.reduceSub, Int.reduceMul, Int.reduceNeg, Int.reduceToNat, Nat.reduceMul], by simp only [go_sem, Nat.reduceEqDiff, Nat.reduceAdd, Nat.reduceLeDiff, Int.reduceEq, Int.reduceLT, Int.reduceLE, Int.reduceAdd, Int.reduceSub, Int.reduceMul, Int.reduceNeg, Int.reduceToNat, Nat.reduceMul] <;> rfl, FSt_start ((H'.set (H.next + 2) (some (row .u64 u))).set H.next (some (row .u64 u))) nG lG bG⟩
      rintro m f H2 ⟨i, hi8, rfl, f4, f7, f8, f12, f103, st⟩
      have nx := st.nx
      have lw := st.low
      have b4 := st.g4
      have b12 := st.g12
      have n3 : H.next + 3 < H.next + 4 := by omega
      have hcl := cl_len (lo := lo) (hi := hi) i
      by_cases hlt : (i : Int) < 8
      · have i0 : (0 : Int) ≤ i := by omega
        have i1 : i + 1 ≤ 16 := by omega
        have i2 : 8 + i + 1 ≤ 16 := by omega
        have i16 : (i : Int) < 16 := by omega
        have i08 : (0 : Int) ≤ 8 + (i : Int) := by omega
        have i816 : 8 + (i : Int) < 16 := by omega
        have t8 : (8 + (i : Int)).toNat = 8 + i := by omega
        have w8 := w64 (x := 8 + (i : Int)) (by omega) (by omega)
        have wm := w64 (x := 8 * (i : Int)) (by omega) (by omega)
        have wi := w64 (x := (i : Int) + 1) (by omega) (by omega)
        have m0 : (0 : Int) ≤ 8 * (i : Int) := by omega
        have hsh : ∀ x : Int, shiftK .shr .u64 x (8 * (i : Int)) = x / 2 ^ (8 * i) := fun x => by
          have := shr64 (x := x) (j := 8 * i) (by omega)
          rw [← this]
          congr 1
        have hcs : cl lo hi (i + 1) = ((cl lo hi i).set i (b8 (lo / 2 ^ (8 * i)))).set (8 + i) (b8 (hi / 2 ^ (8 * i))) := rfl
        simp only [f4, f7, f8, f12, f103, hlt, i0, i1, i2, i16, i08, i816, t8, w8, wm, wi, m0, hsh, nx, n3, b12, u8r_len, u8r_ro, u8r_es, hcl, b8_nat, Int.toNat_natCast, List.length_set, stc_eq, stB_some, set_get, set_set, AH.next_set, addA, Nat.zero_add, splice_one, u8r_set, ← hcs, go_sem, Nat.reduceEqDiff, Nat.reduceAdd, Nat.reduceLeDiff, Int.reduceEq, Int.reduceLT, Int.reduceLE, Int.reduceAdd, Int.reduceSub, Int.reduceMul, Int.reduceNeg, Int.reduceToNat, Nat.reduceMul]
        exact ⟨8 - (i + 1), by omega, i + 1, by omega, rfl, by simp only [f4, go_sem, Nat.reduceEqDiff, Nat.reduceAdd, Nat.reduceLeDiff, Int.reduceEq, Int.reduceLT, Int.reduceLE, Int.reduceAdd, Int.reduceSub, Int.reduceMul, Int.reduceNeg, Int.reduceToNat, Nat.reduceMul], by simp only [f7, go_sem, Nat.reduceEqDiff, Nat.reduceAdd, Nat.reduceLeDiff, Int.reduceEq, Int.reduceLT, Int.reduceLE, Int.reduceAdd, Int.reduceSub, Int.reduceMul, Int.reduceNeg, Int.reduceToNat, Nat.reduceMul], by simp only [f8, go_sem, Nat.reduceEqDiff, Nat.reduceAdd, Nat.reduceLeDiff, Int.reduceEq, Int.reduceLT, Int.reduceLE, Int.reduceAdd, Int.reduceSub, Int.reduceMul, Int.reduceNeg, Int.reduceToNat, Nat.reduceMul], by simp only [f12, go_sem, Nat.reduceEqDiff, Nat.reduceAdd, Nat.reduceLeDiff, Int.reduceEq, Int.reduceLT, Int.reduceLE, Int.reduceAdd, Int.reduceSub, Int.reduceMul, Int.reduceNeg, Int.reduceToNat, Nat.reduceMul], by simp only [go_sem, Nat.reduceEqDiff, Nat.reduceAdd, Nat.reduceLeDiff, Int.reduceEq, Int.reduceLT, Int.reduceLE, Int.reduceAdd, Int.reduceSub, Int.reduceMul, Int.reduceNeg, Int.reduceToNat, Nat.reduceMul] <;> rfl, st.turn⟩
      · have hi8' : i = 8 := by omega
        subst hi8'
        have n1 : H.next + 1 < H.next + 4 := by omega
        have htk : List.take 16 (u8r (cl lo hi 8)).cells = bc (cl lo hi 8) := List.take_of_length_le (by rw [u8r_len]; omega)
        have hbl : (bc (cl lo hi 8)).length = 16 := by rw [bc_len, hcl]
        have hone9 := p1_one (bc_p1 (cl lo hi 8))
        have hsp9 : splice (u8r (zb 16)).cells 0 (bc (cl lo hi 8)) = bc (cl lo hi 8) := splice_all (by rw [hbl]; rfl)
        have hg9 : ∀ X : Option Blk, (H2.set (H.next + 1) X).get (H.next + 1) = X := fun X => AH.get_set_eq _ _ (by omega)
        have htk9 : List.take 16 (bc (cl lo hi 8)) = bc (cl lo hi 8) := List.take_of_length_le (by omega)
        have hz16 : (zb 16).length = 16 := rfl
        have hlow9 : ∀ X : Option Blk, ¬ (H2.set (H.next + 1) X).low < H.next := fun X => by rw [lw_set]; omega
        simp only [f4, f7, f8, f12, f103, hlt, nx, n3, n1, b4, b12, u8r_len, u8r_ro, u8r_es, hcl, htk, hbl, hone9, hsp9, hz16, List.toList_toArray, stc_eq, stB_some, go_sem, Nat.reduceEqDiff, Nat.reduceAdd, Nat.reduceLeDiff, Int.reduceEq, Int.reduceLT, Int.reduceLE, Int.reduceAdd, Int.reduceSub, Int.reduceMul, Int.reduceNeg, Int.reduceToNat, Nat.reduceMul]
        simp only [resL, resV, upd_ne, f4, hg9, hbl, htk9, go_sem, Nat.reduceEqDiff, Nat.reduceAdd, Nat.reduceLeDiff, Int.reduceEq, Int.reduceLT, Int.reduceLE, Int.reduceAdd, Int.reduceSub, Int.reduceMul, Int.reduceNeg, Int.reduceToNat, Nat.reduceMul]
        rw [back_p3 (hlow9 _) (agg_bc _)]
        exact hQ
    · have he : lessP t = t := by
        show (if 0 < gw (gN (t.set 0 (IntKind.wrap .u64 (gw t 0 + 5))) 4) 4 / 67108864 then _ else t) = t
        rw [hg0, if_neg ho]
      rw [he] at hQ
      have hul := htl
      have nG := nx
      have lG := lw
      have bG := b4
      have c0 := row_at (k := .u64) (x := t) (i := 0) (by omega)
      rw [List.drop_zero] at c0
      have c1 := row_at (k := .u64) (x := t) (i := 1) (by omega)
      have c2 := row_at (k := .u64) (x := t) (i := 2) (by omega)
      have c3 := row_at (k := .u64) (x := t) (i := 3) (by omega)
      have c4 := row_at (k := .u64) (x := t) (i := 4) (by omega)
      have e0 : bitsK .or .u64 (bitsK .or .u64 (gw t 0) (shiftK .shl .u64 (gw t 1) 26)) (shiftK .shl .u64 (gw t 2) 52) = loE t := rfl
      have e1 : bitsK .or .u64 (bitsK .or .u64 (gw t 2 / 4096) (shiftK .shl .u64 (gw t 3) 14)) (shiftK .shl .u64 (gw t 4) 40) = hiE t := rfl
      have e2 : bitsK .or .u64 (wordAt (tx s) 0) (shiftK .shl .u64 (wordAt (tx s) 4) 32) = xE (tx s) 0 := rfl
      have e3 : bitsK .or .u64 (wordAt (tx s) 8) (shiftK .shl .u64 (wordAt (tx s) 12) 32) = xE (tx s) 8 := rfl
      have rl : 0 ≤ loE t ∧ loE t < 18446744073709551616 := or_R _ _
      have rh : 0 ≤ hiE t ∧ hiE t < 18446744073709551616 := or_R _ _
      have rx : 0 ≤ xE (tx s) 0 ∧ xE (tx s) 0 < 18446744073709551616 := or_R _ _
      have ry : 0 ≤ xE (tx s) 8 ∧ xE (tx s) 8 < 18446744073709551616 := or_R _ _
      have va := val_add64 (tbl := tbl) h116 rl rx (c := 0) (by omega)
      have vb := val_add64 (tbl := tbl) h116 rh ry (c := (loE t + xE (tx s) 0) / 18446744073709551616) (by omega)
      rw [Int.add_zero] at va
      simp only [e0, e1, e2, e3, ↓(va _).run, ↓(vb _).run, f1, f2, f4, f5, f22, hlt, nx, n0, n2, b5, b2, row_len, row_ro, row_es, hgl, hul, h4, c0, c1, c2, c3, c4, shr26, shr12, ho, addA, Nat.zero_add, hsz, q0, q4, q8, q12, ↓(hw0 _).run, ↓(hw4 _).run, ↓(hw8 _).run, ↓(hw12 _).run, go_sem, Nat.reduceEqDiff, Nat.reduceAdd, Nat.reduceLeDiff, Int.reduceEq, Int.reduceLT, Int.reduceLE, Int.reduceAdd, Int.reduceSub, Int.reduceMul, Int.reduceNeg, Int.reduceToNat, Nat.reduceMul]
      generalize (loE t + xE (tx s) 0) % 18446744073709551616 = lo at *
      generalize (hiE t + xE (tx s) 8 + (loE t + xE (tx s) 0) / 18446744073709551616) % 18446744073709551616 = hi at *
      refine rn_loop (fun m f H2 => ∃ i : Nat, i ≤ 8 ∧ m = 8 - i ∧ f 4 = .pointer (some ⟨H.next + 1, 0, none⟩) ∧ f 7 = .int .u64 lo ∧ f 8 = .int .u64 hi ∧ f 12 = .pointer (some ⟨H.next + 3, 0, none⟩) ∧ f 103 = .int .i64 i ∧ FSt H H2 lo hi i) ?_ (n := 8)
        ⟨0, by omega, rfl, by simp only [f4, go_sem, Nat.reduceEqDiff, Nat.reduceAdd, Nat.reduceLeDiff, Int.reduceEq, Int.reduceLT, Int.reduceLE, Int.reduceAdd, Int.reduceSub, Int.reduceMul, Int.reduceNeg, Int.reduceToNat, Nat.reduceMul], by simp only [go_sem, Nat.reduceEqDiff, Nat.reduceAdd, Nat.reduceLeDiff, Int.reduceEq, Int.reduceLT, Int.reduceLE, Int.reduceAdd, Int.reduceSub, Int.reduceMul, Int.reduceNeg, Int.reduceToNat, Nat.reduceMul], by simp only [go_sem, Nat.reduceEqDiff, Nat.reduceAdd, Nat.reduceLeDiff, Int.reduceEq, Int.reduceLT, Int.reduceLE, Int.reduceAdd, Int.reduceSub, Int.reduceMul, Int.reduceNeg, Int.reduceToNat, Nat.reduceMul], by simp only [go_sem, Nat.reduceEqDiff, Nat.reduceAdd, Nat.reduceLeDiff, Int.reduceEq, Int.reduceLT, Int.reduceLE, Int.reduceAdd, Int.reduceSub, Int.reduceMul, Int.reduceNeg, Int.reduceToNat, Nat.reduceMul], by simp only [go_sem, Nat.reduceEqDiff, Nat.reduceAdd, Nat.reduceLeDiff, Int.reduceEq, Int.reduceLT, Int.reduceLE, Int.reduceAdd, Int.reduceSub, Int.reduceMul, Int.reduceNeg, Int.reduceToNat, Nat.reduceMul] <;> rfl, FSt_start H' nG lG bG⟩
      rintro m f H2 ⟨i, hi8, rfl, f4, f7, f8, f12, f103, st⟩
      have nx := st.nx
      have lw := st.low
      have b4 := st.g4
      have b12 := st.g12
      have n3 : H.next + 3 < H.next + 4 := by omega
      have hcl := cl_len (lo := lo) (hi := hi) i
      by_cases hlt : (i : Int) < 8
      · have i0 : (0 : Int) ≤ i := by omega
        have i1 : i + 1 ≤ 16 := by omega
        have i2 : 8 + i + 1 ≤ 16 := by omega
        have i16 : (i : Int) < 16 := by omega
        have i08 : (0 : Int) ≤ 8 + (i : Int) := by omega
        have i816 : 8 + (i : Int) < 16 := by omega
        have t8 : (8 + (i : Int)).toNat = 8 + i := by omega
        have w8 := w64 (x := 8 + (i : Int)) (by omega) (by omega)
        have wm := w64 (x := 8 * (i : Int)) (by omega) (by omega)
        have wi := w64 (x := (i : Int) + 1) (by omega) (by omega)
        have m0 : (0 : Int) ≤ 8 * (i : Int) := by omega
        have hsh : ∀ x : Int, shiftK .shr .u64 x (8 * (i : Int)) = x / 2 ^ (8 * i) := fun x => by
          have := shr64 (x := x) (j := 8 * i) (by omega)
          rw [← this]
          congr 1
        have hcs : cl lo hi (i + 1) = ((cl lo hi i).set i (b8 (lo / 2 ^ (8 * i)))).set (8 + i) (b8 (hi / 2 ^ (8 * i))) := rfl
        simp only [f4, f7, f8, f12, f103, hlt, i0, i1, i2, i16, i08, i816, t8, w8, wm, wi, m0, hsh, nx, n3, b12, u8r_len, u8r_ro, u8r_es, hcl, b8_nat, Int.toNat_natCast, List.length_set, stc_eq, stB_some, set_get, set_set, AH.next_set, addA, Nat.zero_add, splice_one, u8r_set, ← hcs, go_sem, Nat.reduceEqDiff, Nat.reduceAdd, Nat.reduceLeDiff, Int.reduceEq, Int.reduceLT, Int.reduceLE, Int.reduceAdd, Int.reduceSub, Int.reduceMul, Int.reduceNeg, Int.reduceToNat, Nat.reduceMul]
        exact ⟨8 - (i + 1), by omega, i + 1, by omega, rfl, by simp only [f4, go_sem, Nat.reduceEqDiff, Nat.reduceAdd, Nat.reduceLeDiff, Int.reduceEq, Int.reduceLT, Int.reduceLE, Int.reduceAdd, Int.reduceSub, Int.reduceMul, Int.reduceNeg, Int.reduceToNat, Nat.reduceMul], by simp only [f7, go_sem, Nat.reduceEqDiff, Nat.reduceAdd, Nat.reduceLeDiff, Int.reduceEq, Int.reduceLT, Int.reduceLE, Int.reduceAdd, Int.reduceSub, Int.reduceMul, Int.reduceNeg, Int.reduceToNat, Nat.reduceMul], by simp only [f8, go_sem, Nat.reduceEqDiff, Nat.reduceAdd, Nat.reduceLeDiff, Int.reduceEq, Int.reduceLT, Int.reduceLE, Int.reduceAdd, Int.reduceSub, Int.reduceMul, Int.reduceNeg, Int.reduceToNat, Nat.reduceMul], by simp only [f12, go_sem, Nat.reduceEqDiff, Nat.reduceAdd, Nat.reduceLeDiff, Int.reduceEq, Int.reduceLT, Int.reduceLE, Int.reduceAdd, Int.reduceSub, Int.reduceMul, Int.reduceNeg, Int.reduceToNat, Nat.reduceMul], by simp only [go_sem, Nat.reduceEqDiff, Nat.reduceAdd, Nat.reduceLeDiff, Int.reduceEq, Int.reduceLT, Int.reduceLE, Int.reduceAdd, Int.reduceSub, Int.reduceMul, Int.reduceNeg, Int.reduceToNat, Nat.reduceMul] <;> rfl, st.turn⟩
      · have hi8' : i = 8 := by omega
        subst hi8'
        have n1 : H.next + 1 < H.next + 4 := by omega
        have htk : List.take 16 (u8r (cl lo hi 8)).cells = bc (cl lo hi 8) := List.take_of_length_le (by rw [u8r_len]; omega)
        have hbl : (bc (cl lo hi 8)).length = 16 := by rw [bc_len, hcl]
        have hone9 := p1_one (bc_p1 (cl lo hi 8))
        have hsp9 : splice (u8r (zb 16)).cells 0 (bc (cl lo hi 8)) = bc (cl lo hi 8) := splice_all (by rw [hbl]; rfl)
        have hg9 : ∀ X : Option Blk, (H2.set (H.next + 1) X).get (H.next + 1) = X := fun X => AH.get_set_eq _ _ (by omega)
        have htk9 : List.take 16 (bc (cl lo hi 8)) = bc (cl lo hi 8) := List.take_of_length_le (by omega)
        have hz16 : (zb 16).length = 16 := rfl
        have hlow9 : ∀ X : Option Blk, ¬ (H2.set (H.next + 1) X).low < H.next := fun X => by rw [lw_set]; omega
        simp only [f4, f7, f8, f12, f103, hlt, nx, n3, n1, b4, b12, u8r_len, u8r_ro, u8r_es, hcl, htk, hbl, hone9, hsp9, hz16, List.toList_toArray, stc_eq, stB_some, go_sem, Nat.reduceEqDiff, Nat.reduceAdd, Nat.reduceLeDiff, Int.reduceEq, Int.reduceLT, Int.reduceLE, Int.reduceAdd, Int.reduceSub, Int.reduceMul, Int.reduceNeg, Int.reduceToNat, Nat.reduceMul]
        simp only [resL, resV, upd_ne, f4, hg9, hbl, htk9, go_sem, Nat.reduceEqDiff, Nat.reduceAdd, Nat.reduceLeDiff, Int.reduceEq, Int.reduceLT, Int.reduceLE, Int.reduceAdd, Int.reduceSub, Int.reduceMul, Int.reduceNeg, Int.reduceToNat, Nat.reduceMul]
        rw [back_p3 (hlow9 _) (agg_bc _)]
        exact hQ
end Go.Proofs.Ytildhljhbbhmmaa.AM
namespace Go.Proofs.Ytildhljhbbhmmaa.AM
open Go
set_option linter.all false
set_option maxRecDepth 10000
variable {tbl : Tbl} [hT : TMono tbl]

def c0E (k : List UInt8) : Int := bitsK .and .u64 (wordAt (tx k) 0) 268435455
def c1E (k : List UInt8) (i : Nat) : Int := bitsK .and .u64 (wordAt (tx k) i) 268435452
/-- The number to multiply by, in limbs. -/
def limbs (k : List UInt8) : List Int := [bitsK .and .u64 (c0E k) 67108863,
  bitsK .and .u64 (bitsK .or .u64 (shiftK .shr .u64 (c0E k) 26) (shiftK .shl .u64 (c1E k 4) 6)) 67108863,
  bitsK .and .u64 (bitsK .or .u64 (shiftK .shr .u64 (c1E k 4) 20) (shiftK .shl .u64 (c1E k 8) 12)) 67108863,
  bitsK .and .u64 (bitsK .or .u64 (shiftK .shr .u64 (c1E k 8) 14) (shiftK .shl .u64 (c1E k 12) 18)) 67108863,
  shiftK .shr .u64 (c1E k 12) 8]
/-- Part of a message, with its mark. -/
def marked (l : List UInt8) : List UInt8 := (l.take 16 ++ zb (17 - min 16 l.length)).set (min 16 l.length) 1
def addAt (h : List Int) (i : Nat) (x : Int) : List Int := h.set i (IntKind.wrap .u64 (gw h i + x))
def stepL (h : List Int) (b : List UInt8) : List Int :=
  addAt (addAt (addAt (addAt (addAt h 0 (bitsK .and .u64 (wordAt (tx b) 0) 67108863))
    1 (bitsK .and .u64 (shiftK .shr .u64 (wordAt (tx b) 3) 2) 67108863))
    2 (bitsK .and .u64 (shiftK .shr .u64 (wordAt (tx b) 6) 4) 67108863))
    3 (bitsK .and .u64 (shiftK .shr .u64 (wordAt (tx b) 9) 6) 67108863))
    4 (bitsK .or .u64 (shiftK .shr .u64 (wordAt (tx b) 12) 8) (shiftK .shl .u64 ((gb b 16).toNat : Int) 24))
def accQ (r : List Int) (m : List UInt8) : Nat → List Int
  | 0 => [0, 0, 0, 0, 0]
  | q + 1 => mulL (stepL (accQ r m q) (marked (m.drop (16 * q)))) r
theorem addAt_len {h : List Int} {i : Nat} {x : Int} : (addAt h i x).length = h.length := by simp [addAt]
theorem addAt_fold {h : List Int} {i : Nat} {x : Int} : h.set i (IntKind.wrap .u64 (gw h i + x)) = addAt h i x := rfl
theorem row_at0 {k : IntKind} {x : List Int} (h : 0 < x.length) : List.take 1 (row k x).cells = [.int k (gw x 0)] := by
  have := row_at (k := k) h
  rw [List.drop_zero] at this
  exact this
theorem stepL_len {h : List Int} {b : List UInt8} : (stepL h b).length = h.length := by simp only [stepL, addAt_len]
theorem mulL_len (h r : List Int) : (mulL h r).length = 5 := by
  have hlen := prN_len (h := h) (r := r) 5
  unfold mulL; rw [carN_len, carN_len, hlen]
theorem accQ_len {r : List Int} {m : List UInt8} : ∀ q, (accQ r m q).length = 5 := by
  intro q
  cases q with
  | zero => rfl
  | succ q => exact mulL_len _ _
theorem mulL_R (h r : List Int) : R64 (mulL h r) := by
  have hlen := prN_len (h := h) (r := r) 5
  unfold mulL
  exact carN_R (carN_R (prN_R 5) 5 (by omega)) 5 (by rw [carN_len]; omega)
theorem accQ_R {r : List Int} {m : List UInt8} : ∀ q, R64 (accQ r m q) := by
  intro q
  cases q with
  | zero =>
    intro i hi
    have : gw (accQ r m 0) i = 0 := by
      match i, hi with
      | 0, _ => rfl
      | 1, _ => rfl
      | 2, _ => rfl
      | 3, _ => rfl
      | 4, _ => rfl
    omega
  | succ q => exact mulL_R _ _
theorem accQ_succ {r : List Int} {m : List UInt8} {q : Nat} : accQ r m (q + 1) = mulL (stepL (accQ r m q) (marked (m.drop (16 * q)))) r := rfl
theorem accQ_zero {r : List Int} {m : List UInt8} : accQ r m 0 = [0, 0, 0, 0, 0] := rfl
theorem stepL_eq {h : List Int} {b : List UInt8} : addAt (addAt (addAt (addAt (addAt h 0 (bitsK .and .u64 (wordAt (tx b) 0) 67108863)) 1 (bitsK .and .u64 (shiftK .shr .u64 (wordAt (tx b) 3) 2) 67108863)) 2 (bitsK .and .u64 (shiftK .shr .u64 (wordAt (tx b) 6) 4) 67108863)) 3 (bitsK .and .u64 (shiftK .shr .u64 (wordAt (tx b) 9) 6) 67108863)) 4 (bitsK .or .u64 (shiftK .shr .u64 (wordAt (tx b) 12) 8) (shiftK .shl .u64 ((gb b 16).toNat : Int) 24)) = stepL h b := rfl
attribute [irreducible] accQ stepL
/-- The end of a tag. -/
def closeC (h : List Int) (s : List UInt8) : List UInt8 :=
  cl ((loE (lessP (carN (carN h 5) 5)) + xE (tx s) 0) % 18446744073709551616) ((hiE (lessP (carN (carN h 5) 5)) + xE (tx s) 8 + (loE (lessP (carN (carN h 5) 5)) + xE (tx s) 0) / 18446744073709551616) % 18446744073709551616) 8
def tagL (k m : List UInt8) : List UInt8 := closeC (accQ (limbs k) m ((m.length + 15) / 16)) (k.drop 16)
structure TSt (H H' : AH) (r h : List Int) : Prop where
  nx : H.next + 3 ≤ H'.next
  low : H.next ≤ H'.low
  g4 : H'.get H.next = some (u8r (zb 16))
  g5 : H'.get (H.next + 1) = some (row .u64 r)
  g10 : H'.get (H.next + 2) = some (row .u64 h)
theorem blkOf_ptr {a : Addr} : blkOf (.pointer (some a)) = [a.block] := rfl
theorem rd_load {o : Bool} {n : Nat} {x : Operand} {f : _} : (MI.load o n x).rdBlk f = blkOf (ev f x) := rfl
def copyV (H : AH) (x y : Value) : Option (Value × AH) :=
  match x, lenV y with
  | .slice (some a) n _, some k => (match firstV H 1 (Nat.min k n) y with
      | some new => (match stU H a new with | some H' => some (.int .i64 (Nat.min k n), H') | none => none)
      | none => none)
  | _, _ => none
theorem evM_copyV {d s : Operand} {f : _} {H : AH} : evM (.copy 1 d s) f H = copyV H (ev f d) (ev f s) := by
  simp only [evM, copyV]
  rfl
theorem rn_copyS {d s : Operand} {f : _} {H : AH} {K : Value → AH → Prop} : RunP tbl (.copy 1 d s) f H K = (@bindP (copyV H (ev f d) (ev f s)) ⟨K⟩) := by
  rw [rn_copy, evM_copyV]
theorem copyV_str {H : AH} {b n cp : Nat} {u c : List UInt8} (hu : u.length ≤ n) (hb : H.get b = some (u8r c)) (hc : u.length ≤ c.length) : copyV H (.slice (some ⟨b, 0, none⟩) n cp) (.string (tx u)) = some (.int .i64 u.length, H.set b (some (u8r (u ++ c.drop u.length)))) := by
  have hm : Nat.min u.length n = u.length := Nat.min_eq_left hu
  have ht : (byteCells (tx u)).take u.length = bc u := by
    rw [byteCells_eq, tx_data, List.take_of_length_le (by rw [bc_len]; omega)]
  simp only [copyV, lenV, tx_size, hm, firstV, true_and]
  rw [if_pos (Nat.le_refl _), ht]
  simp only [stU, hb]
  rw [if_pos ⟨rfl, by rw [bc_len, u8r_len]; omega⟩]
  simp only
  congr 4
  have := splice_eq (bc u) (u8r c).cells 0 (by rw [bc_len, u8r_len]; omega)
  rw [this, List.take_zero, List.nil_append, Nat.zero_add, bc_len]
  simp only [u8r, bc, List.map_append, List.map_drop]
theorem TSt.turn {H H' : AH} {r h : List Int} (st : TSt H H' r h) (B : Blk) (X : Option Blk) (y : List Int) : TSt H (((H'.push B).set H'.next X).set (H.next + 2) (some (row .u64 y))) r y := by
  have := st.nx
  have := st.low
  exact ⟨by rw [AH.next_set, AH.next_set, AH.next_push]; omega, by rw [lw_set, lw_set, lw_push]; omega,
    by rw [AH.get_set_ne _ _ (by omega), AH.get_set_ne _ _ (by omega), AH.get_push_lt _ _ (by omega)]; exact st.g4,
    by rw [AH.get_set_ne _ _ (by omega), AH.get_set_ne _ _ (by omega), AH.get_push_lt _ _ (by omega)]; exact st.g5,
    AH.get_set_eq _ _ (by rw [AH.next_set, AH.next_push]; omega)⟩
set_option maxHeartbeats 4000000 in
theorem v63 (h96 : tbl 96 = some (.code m96)) (h97 : tbl 97 = some (.code m97)) (h98 : tbl 98 = some (.code m98)) (h99 : tbl 99 = some (.code m99)) (h115 : tbl 115 = some (.code m115)) (h116 : tbl 116 = some (.nat natAdd64)) (h63 : tbl 63 = some (.code m63)) (k m : List UInt8) (hk : k.length = 32) (hm : m.length ≤ 4194304) (H : AH) :
    Val tbl 63 [.string (tx k), .string (tx m)] H (.agg (bc (tagL k m)).toArray) H := by
  refine Val.of_all fun Q hQ => ?_
  rw [rn_fun h63, k63]
  have hsz : (tx k).size = 32 := by rw [tx_size, hk]
  have hw0 := v96 (tbl := tbl) h96 (tx k) (by omega)
  have hw4 := v96t (tbl := tbl) h96 k 4 32 hk (by omega)
  have hw8 := v96t (tbl := tbl) h96 k 8 32 hk (by omega)
  have hw12 := v96t (tbl := tbl) h96 k 12 32 hk (by omega)
  have r0 := wordAt_range (tx k) 0
  have r4 := wordAt_range (tx k) 4
  have r8 := wordAt_range (tx k) 8
  have r12 := wordAt_range (tx k) 12
  have q0 := u64w (n := wordAt (tx k) 0) (by omega) (by omega)
  have q4 := u64w (n := wordAt (tx k) 4) (by omega) (by omega)
  have q8 := u64w (n := wordAt (tx k) 8) (by omega) (by omega)
  have q12 := u64w (n := wordAt (tx k) 12) (by omega) (by omega)
  have hG : ∀ A B : Blk, ((H.enter.push A).push B).get (H.next + 1) = some B := fun A B => by
    have := AH.get_push_eq (H.enter.push A) B
    rw [AH.next_push, nx_enter] at this
    exact this
  have hGs : ∀ (A B : Blk) (X : Option Blk), (((H.enter.push A).push B).set (H.next + 1) X).get (H.next + 1) = X := fun A B X => AH.get_set_eq _ _ (by rw [AH.next_push, AH.next_push, nx_enter]; omega)
  simp only [hG, hGs, stc_eq, stB_some, AH.next_set, set_set, splice_one, hsz, q0, q4, q8, q12, ↓(hw0 _).run, ↓(hw4 _).run, ↓(hw8 _).run, ↓(hw12 _).run, go_sem, Nat.reduceEqDiff, Nat.reduceAdd, Nat.reduceLeDiff, Int.reduceEq, Int.reduceLT, Int.reduceLE, Int.reduceAdd, Int.reduceSub, Int.reduceMul, Int.reduceNeg, Int.reduceToNat, Nat.reduceMul]
  have hinit : TSt H ((((H.enter.push (u8r (zb 16))).push (row .u64 [0, 0, 0, 0, 0])).set (H.next + 1) (some (row .u64 (limbs k)))).push (row .u64 [0, 0, 0, 0, 0])) (limbs k) [0, 0, 0, 0, 0] := by
    refine ⟨?_, ?_, ?_, ?_, ?_⟩
    · rw [AH.next_push, AH.next_set, AH.next_push, AH.next_push, nx_enter]; omega
    · rw [lw_push, lw_set, lw_push, lw_push, lw_enter]; omega
    · rw [AH.get_push_lt _ _ (by rw [AH.next_set, AH.next_push, AH.next_push, nx_enter]; omega), AH.get_set_ne _ _ (by omega), AH.get_push_lt _ _ (by rw [AH.next_push, nx_enter]; omega)]
      exact AH.get_push_eq H.enter _
    · rw [AH.get_push_lt _ _ (by rw [AH.next_set, AH.next_push, AH.next_push, nx_enter]; omega)]
      exact hGs _ _ _
    · have := AH.get_push_eq (((H.enter.push (u8r (zb 16))).push (row .u64 [0, 0, 0, 0, 0])).set (H.next + 1) (some (row .u64 (limbs k)))) (row .u64 [0, 0, 0, 0, 0])
      rw [AH.next_set, AH.next_push, AH.next_push, nx_enter] at this
      exact this
  refine rn_loop (fun n f H' => ∃ q : Nat, q ≤ (m.length + 15) / 16 ∧ n = (m.length + 15) / 16 - q ∧ f 0 = .string (tx k) ∧ f 1 = .string (tx (m.drop (16 * q))) ∧ f 4 = .pointer (some ⟨H.next, 0, none⟩) ∧ f 5 = .pointer (some ⟨H.next + 1, 0, none⟩) ∧ f 10 = .pointer (some ⟨H.next + 2, 0, none⟩) ∧ TSt H H' (limbs k) (accQ (limbs k) m q)) ?_ (n := (m.length + 15) / 16)
    ⟨0, by omega, rfl, by simp only [go_sem, Nat.reduceEqDiff, Nat.reduceAdd, Nat.reduceLeDiff, Int.reduceEq, Int.reduceLT, Int.reduceLE, Int.reduceAdd, Int.reduceSub, Int.reduceMul, Int.reduceNeg, Int.reduceToNat, Nat.reduceMul], by simp only [go_sem, Nat.reduceEqDiff, Nat.reduceAdd, Nat.reduceLeDiff, Int.reduceEq, Int.reduceLT, Int.reduceLE, Int.reduceAdd, Int.reduceSub, Int.reduceMul, Int.reduceNeg, Int.reduceToNat, Nat.reduceMul] <;> rfl, by simp only [go_sem, Nat.reduceEqDiff, Nat.reduceAdd, Nat.reduceLeDiff, Int.reduceEq, Int.reduceLT, Int.reduceLE, Int.reduceAdd, Int.reduceSub, Int.reduceMul, Int.reduceNeg, Int.reduceToNat, Nat.reduceMul], by simp only [go_sem, Nat.reduceEqDiff, Nat.reduceAdd, Nat.reduceLeDiff, Int.reduceEq, Int.reduceLT, Int.reduceLE, Int.reduceAdd, Int.reduceSub, Int.reduceMul, Int.reduceNeg, Int.reduceToNat, Nat.reduceMul], by simp only [go_sem, Nat.reduceEqDiff, Nat.reduceAdd, Nat.reduceLeDiff, Int.reduceEq, Int.reduceLT, Int.reduceLE, Int.reduceAdd, Int.reduceSub, Int.reduceMul, Int.reduceNeg, Int.reduceToNat, Nat.reduceMul], by rw [accQ_zero]; exact hinit⟩
  rintro n f H' ⟨q, hq, rfl, f0, f1, f4, f5, f10, st⟩
  have nx := st.nx
  have lw := st.low
  have b4 := st.g4
  have b5 := st.g5
  have b10 := st.g10
  have n0 : H.next < H'.next := by omega
  have n1 : H.next + 1 < H'.next := by omega
  have n2 : H.next + 2 < H'.next := by omega
  generalize hll : m.drop (16 * q) = l at *
  have hlen : l.length = m.length - 16 * q := by rw [← hll, List.length_drop]
  by_cases he : l = []
  · have hqe : q = (m.length + 15) / 16 := by
      rw [he, List.length_nil] at hlen
      omega
    have hte : tx l = ⟨#[]⟩ := by rw [he]; rfl
    have hal := accQ_len (r := limbs k) (m := m) q
    have htk := row_all (k := .u64) hal
    have hone := p1_one (row_p1 .u64 (accQ (limbs k) m q))
    have hs16 : (k.drop 16).length = 16 := by rw [List.length_drop, hk]
    have h99' := v99 h96 h115 h116 h99 (accQ (limbs k) m q) hal (accQ_R q) (k.drop 16) hs16
    have htag : cl ((loE (lessP (carN (carN (accQ (limbs k) m q) 5) 5)) + xE (tx (k.drop 16)) 0) % 18446744073709551616) ((hiE (lessP (carN (carN (accQ (limbs k) m q) 5) 5)) + xE (tx (k.drop 16)) 8 + (loE (lessP (carN (carN (accQ (limbs k) m q) 5) 5)) + xE (tx (k.drop 16)) 0) / 18446744073709551616) % 18446744073709551616) 8 = tagL k m := by rw [hqe]; rfl
    rw [htag] at h99'
    have htl : (tagL k m).length = 16 := cl_len 8
    have hx : (tx k).extract 16 32 = tx (k.drop 16) := by rw [tx_extract, List.take_of_length_le (by omega)]
    have hone9 := p1_one (bc_p1 (tagL k m))
    have hbl : (bc (tagL k m)).length = 16 := by rw [bc_len, htl]
    have hsp9 : splice (u8r (zb 16)).cells 0 (bc (tagL k m)) = bc (tagL k m) := splice_all (by rw [hbl]; rfl)
    have hg9 : ∀ X : Option Blk, (H'.set H.next X).get H.next = X := fun X => AH.get_set_eq _ _ (by omega)
    have htk9 : List.take 16 (bc (tagL k m)) = bc (tagL k m) := List.take_of_length_le (by omega)
    have hlow9 : ∀ X : Option Blk, ¬ (H'.set H.next X).low < H.next := fun X => by rw [lw_set]; omega
    have hz16 : (zb 16).length = 16 := rfl
    simp only [f0, f1, f4, f5, f10, hte, n0, n1, n2, b4, b5, b10, hsz, hx, row_len, row_ro, row_es, u8r_len, u8r_ro, u8r_es, hal, htk, hone, ↓(h99' _).run, hone9, hbl, hsp9, hz16, List.toList_toArray, stc_eq, stB_some, tx_size, addA, Nat.zero_add, go_sem, Nat.reduceEqDiff, Nat.reduceAdd, Nat.reduceLeDiff, Int.reduceEq, Int.reduceLT, Int.reduceLE, Int.reduceAdd, Int.reduceSub, Int.reduceMul, Int.reduceNeg, Int.reduceToNat, Nat.reduceMul]
    simp only [resL, resV, upd_ne, f4, hg9, hbl, htk9, go_sem, Nat.reduceEqDiff, Nat.reduceAdd, Nat.reduceLeDiff, Int.reduceEq, Int.reduceLT, Int.reduceLE, Int.reduceAdd, Int.reduceSub, Int.reduceMul, Int.reduceNeg, Int.reduceToNat, Nat.reduceMul]
    rw [back_p3 (hlow9 _) (agg_bc _)]
    exact hQ
  · have hls : 0 < l.length := List.length_pos_iff.mpr he
    have hne : ¬ tx l = ⟨#[]⟩ := fun h => he (by have := congrArg (fun s => s.data.toList) h; simpa [tx_data] using this)
    have hmn : (if (l.length : Int) < 16 then (l.length : Int) else 16) = ((min 16 l.length : Nat) : Int) := by split <;> omega
    have hmk : marked l = (l.take (min 16 l.length) ++ zb (17 - min 16 l.length)).set (min 16 l.length) 1 := by
      unfold marked
      rw [List.take_eq_take_min]
    have hp1 : min 16 l.length ≤ 16 := by omega
    have hp2 : min 16 l.length ≤ l.length := by omega
    generalize hp : min 16 l.length = p at *
    have hnx : tx (l.drop p) = tx (m.drop (16 * (q + 1))) := by
      congr 1
      by_cases h16 : 16 ≤ l.length
      · rw [← hll, List.drop_drop]
        congr 1; omega
      · rw [List.drop_eq_nil_of_le (by omega), List.drop_eq_nil_of_le (by omega)]
    have p0 : (0 : Int) ≤ p := by omega
    have p17 : (p : Int) < 17 := by omega
    have hul : (l.take p).length = p := by rw [List.length_take]; omega
    have hz : H'.push (⟨[.int .u8 0, .int .u8 0, .int .u8 0, .int .u8 0, .int .u8 0, .int .u8 0, .int .u8 0, .int .u8 0, .int .u8 0, .int .u8 0, .int .u8 0, .int .u8 0, .int .u8 0, .int .u8 0, .int .u8 0, .int .u8 0, .int .u8 0], 1, false⟩) = H'.push (u8r (zb 17)) := rfl
    have hcv := copyV_str (H := H'.push (u8r (zb 17))) (b := H'.next) (n := 17) (cp := 17) (u := l.take p) (c := zb 17) (by omega) (AH.get_push_eq _ _) (by rw [hul]; show p ≤ 17; omega)
    rw [hul, show (zb 17).drop p = zb (17 - p) by simp only [zb, List.drop_replicate]] at hcv
    have hx1 : (tx l).extract 0 p = tx (l.take p) := by rw [tx_extract, List.drop_zero]
    have hx2 : (tx l).extract p l.length = tx (l.drop p) := by rw [tx_extract, List.take_length]
    have hlk : (limbs k).length = 5 := rfl
    have hstp := stepL_eq (h := (accQ (limbs k) m q)) (b := marked l)
    have hsl : (stepL (accQ (limbs k) m q) (marked l)).length = 5 := by rw [stepL_len]; exact accQ_len q
    have htk1 := row_all (k := .u64) hlk
    have htk2 := row_all (k := .u64) hsl
    have hmul := v98 h115 h98 (stepL (accQ (limbs k) m q) (marked l)) (limbs k) hsl hlk
    have hq1 : accQ (limbs k) m (q + 1) = mulL (stepL (accQ (limbs k) m q) (marked l)) (limbs k) := by rw [accQ_succ, hll]
    rw [← hq1] at hmul
    have hone := p1_one (row_p1 .u64 (accQ (limbs k) m (q + 1)))
    have hlq1 := accQ_len (r := limbs k) (m := m) (q + 1)
    have hmm : ((accQ (limbs k) m (q + 1)).map (Value.int .u64)).length = 5 := by simp [hlq1]
    have hspl : ∀ x : List Int, x.length = 5 → splice (row .u64 x).cells 0 ((accQ (limbs k) m (q + 1)).map (Value.int .u64)) = (row .u64 (accQ (limbs k) m (q + 1))).cells := fun x hx => splice_all (by rw [hmm, row_len, hx])
    have hsp := hspl _ hsl
    clear hspl
    have hz17 : (zb 17).length = 17 := rfl
    have hbl : (l.take p ++ zb (17 - p)).length = 17 := by rw [List.length_append, hul]; simp only [zb, List.length_replicate]; omega
    have hgs : ∀ X Y : Option Blk, (((H'.push (u8r (zb 17))).set H'.next X).set H'.next Y).get H'.next = Y := fun X Y => AH.get_set_eq _ _ (by rw [AH.next_set, AH.next_push]; omega)
    have hgs1 : ∀ X : Option Blk, ((H'.push (u8r (zb 17))).set H'.next X).get H'.next = X := fun X => AH.get_set_eq _ _ (by rw [AH.next_push]; omega)
    have hset : (⟨(u8r (l.take p ++ zb (17 - p))).cells.set p (.int .u8 1), 1, false⟩ : Blk) = u8r (marked l) := by
      rw [hmk]
      exact u8r_set (b := 1)
    have hql := accQ_len (r := limbs k) (m := m) q
    have hsb : IntKind.wrap .u64 ((gb (marked l) 16).toNat : Int) = ((gb (marked l) 16).toNat : Int) := u64w (by omega) (by have := (gb (marked l) 16).toNat_lt; omega)
    have hml : (marked l).length = 17 := by rw [hmk, List.length_set, hbl]
    have gn2 : ((H'.push (u8r (zb 17))).set H'.next (some (u8r (marked l)))).get (H.next + 2) = some (row .u64 (accQ (limbs k) m q)) := by rw [AH.get_set_ne _ _ (by omega), AH.get_push_lt _ _ (by omega)]; exact b10
    have gn1 : ∀ Y : Option Blk, (((H'.push (u8r (zb 17))).set H'.next (some (u8r (marked l)))).set (H.next + 2) Y).get (H.next + 1) = some (row .u64 (limbs k)) := fun Y => by rw [AH.get_set_ne _ _ (by omega), AH.get_set_ne _ _ (by omega), AH.get_push_lt _ _ (by omega)]; exact b5
    have gn0 : ∀ Y : Option Blk, (((H'.push (u8r (zb 17))).set H'.next (some (u8r (marked l)))).set (H.next + 2) Y).get H.next = some (u8r (zb 16)) := fun Y => by rw [AH.get_set_ne _ _ (by omega), AH.get_set_ne _ _ (by omega), AH.get_push_lt _ _ (by omega)]; exact b4
    have gm : ((H'.push (u8r (zb 17))).set H'.next (some (u8r (marked l)))).get H'.next = some (u8r (marked l)) := hgs1 _
    have gms : ∀ Y : Option Blk, (((H'.push (u8r (zb 17))).set H'.next (some (u8r (marked l)))).set (H.next + 2) Y).get H'.next = some (u8r (marked l)) := fun Y => by rw [AH.get_set_ne _ _ (by omega)]; exact gm
    have gs2 : ∀ Y : Option Blk, (((H'.push (u8r (zb 17))).set H'.next (some (u8r (marked l)))).set (H.next + 2) Y).get (H.next + 2) = Y := fun Y => AH.get_set_eq _ _ (by rw [AH.next_set, AH.next_push]; omega)
    have y0 : Val tbl 97 [.int .i64 0, .pointer (some ⟨H'.next, 0, none⟩)] ((H'.push (u8r (zb 17))).set H'.next (some (u8r (marked l)))).enter (.int .u64 (wordAt (tx (marked l)) 0)) ((H'.push (u8r (zb 17))).set H'.next (some (u8r (marked l)))).enter := v97 (tbl := tbl) (H := ((H'.push (u8r (zb 17))).set H'.next (some (u8r (marked l)))).enter) h96 h97 gm hml 0 (by omega)
    have y3 : ∀ Y : Option Blk, Val tbl 97 [.int .i64 3, .pointer (some ⟨H'.next, 0, none⟩)] (((H'.push (u8r (zb 17))).set H'.next (some (u8r (marked l)))).set (H.next + 2) Y).enter (.int .u64 (wordAt (tx (marked l)) 3)) (((H'.push (u8r (zb 17))).set H'.next (some (u8r (marked l)))).set (H.next + 2) Y).enter := fun Y => v97 (tbl := tbl) (H := (((H'.push (u8r (zb 17))).set H'.next (some (u8r (marked l)))).set (H.next + 2) Y).enter) h96 h97 (gms Y) hml 3 (by omega)
    have y6 : ∀ Y : Option Blk, Val tbl 97 [.int .i64 6, .pointer (some ⟨H'.next, 0, none⟩)] (((H'.push (u8r (zb 17))).set H'.next (some (u8r (marked l)))).set (H.next + 2) Y).enter (.int .u64 (wordAt (tx (marked l)) 6)) (((H'.push (u8r (zb 17))).set H'.next (some (u8r (marked l)))).set (H.next + 2) Y).enter := fun Y => v97 (tbl := tbl) (H := (((H'.push (u8r (zb 17))).set H'.next (some (u8r (marked l)))).set (H.next + 2) Y).enter) h96 h97 (gms Y) hml 6 (by omega)
    have y9 : ∀ Y : Option Blk, Val tbl 97 [.int .i64 9, .pointer (some ⟨H'.next, 0, none⟩)] (((H'.push (u8r (zb 17))).set H'.next (some (u8r (marked l)))).set (H.next + 2) Y).enter (.int .u64 (wordAt (tx (marked l)) 9)) (((H'.push (u8r (zb 17))).set H'.next (some (u8r (marked l)))).set (H.next + 2) Y).enter := fun Y => v97 (tbl := tbl) (H := (((H'.push (u8r (zb 17))).set H'.next (some (u8r (marked l)))).set (H.next + 2) Y).enter) h96 h97 (gms Y) hml 9 (by omega)
    have y12 : ∀ Y : Option Blk, Val tbl 97 [.int .i64 12, .pointer (some ⟨H'.next, 0, none⟩)] (((H'.push (u8r (zb 17))).set H'.next (some (u8r (marked l)))).set (H.next + 2) Y).enter (.int .u64 (wordAt (tx (marked l)) 12)) (((H'.push (u8r (zb 17))).set H'.next (some (u8r (marked l)))).set (H.next + 2) Y).enter := fun Y => v97 (tbl := tbl) (H := (((H'.push (u8r (zb 17))).set H'.next (some (u8r (marked l)))).set (H.next + 2) Y).enter) h96 h97 (gms Y) hml 12 (by omega)
    have ha0 := row_at0 (k := .u64) (x := (accQ (limbs k) m q)) (by omega)
    have ha1 : ∀ x : Int, List.take 1 (List.drop 1 (row .u64 (addAt (accQ (limbs k) m q) 0 x)).cells) = [.int .u64 (gw (addAt (accQ (limbs k) m q) 0 x) 1)] := fun _ => row_at (by simp only [addAt_len]; omega)
    have ha2 : ∀ x y : Int, List.take 1 (List.drop 2 (row .u64 (addAt (addAt (accQ (limbs k) m q) 0 x) 1 y)).cells) = [.int .u64 (gw (addAt (addAt (accQ (limbs k) m q) 0 x) 1 y) 2)] := fun _ _ => row_at (by simp only [addAt_len]; omega)
    have ha3 : ∀ x y z : Int, List.take 1 (List.drop 3 (row .u64 (addAt (addAt (addAt (accQ (limbs k) m q) 0 x) 1 y) 2 z)).cells) = [.int .u64 (gw (addAt (addAt (addAt (accQ (limbs k) m q) 0 x) 1 y) 2 z) 3)] := fun _ _ _ => row_at (by simp only [addAt_len]; omega)
    have ha4 : ∀ x y z w : Int, List.take 1 (List.drop 4 (row .u64 (addAt (addAt (addAt (addAt (accQ (limbs k) m q) 0 x) 1 y) 2 z) 3 w)).cells) = [.int .u64 (gw (addAt (addAt (addAt (addAt (accQ (limbs k) m q) 0 x) 1 y) 2 z) 3 w) 4)] := fun _ _ _ _ => row_at (by simp only [addAt_len]; omega)
    have hu16 := u8r_at (l := marked l) (i := 16) (by omega)
    simp only [hlk, hstp, hsl, htk1, htk2, ↓(hmul _).run, hone, hmm, hsp, List.toList_toArray, rd_load, blkOf_ptr, relow, Nat.lt_succ_self, hql, hsb, ha0, ha1, ha2, ha3, ha4, hu16, row_set, addAt_fold, addAt_len, ↓(y0).run, ↓(y3 _).run, ↓(y6 _).run, ↓(y9 _).run, ↓(y12 _).run, hp1, gn2, gn1, gn0, gm, gms, gs2, hml, hz17, hbl, hgs, hgs1, hset, stc_eq, stB_some, set_set, splice_one, AH.next_set, u8r_len, u8r_ro, u8r_es, row_len, row_ro, row_es, hmn, p0, p17, hp2, hz, hcv, hx1, hx2, hnx, Int.toNat_natCast, Nat.sub_zero, ↓rn_copyS, f0, f1, f4, f5, f10, hne, n0, n1, n2, b4, b5, b10, tx_size, addA, Nat.zero_add, go_sem, Nat.reduceEqDiff, Nat.reduceAdd, Nat.reduceLeDiff, Int.reduceEq, Int.reduceLT, Int.reduceLE, Int.reduceAdd, Int.reduceSub, Int.reduceMul, Int.reduceNeg, Int.reduceToNat, Nat.reduceMul]
    exact ⟨(m.length + 15) / 16 - (q + 1), by omega, q + 1, by omega, rfl, by simp only [f0, go_sem, Nat.reduceEqDiff, Nat.reduceAdd, Nat.reduceLeDiff, Int.reduceEq, Int.reduceLT, Int.reduceLE, Int.reduceAdd, Int.reduceSub, Int.reduceMul, Int.reduceNeg, Int.reduceToNat, Nat.reduceMul], by simp only [go_sem, Nat.reduceEqDiff, Nat.reduceAdd, Nat.reduceLeDiff, Int.reduceEq, Int.reduceLT, Int.reduceLE, Int.reduceAdd, Int.reduceSub, Int.reduceMul, Int.reduceNeg, Int.reduceToNat, Nat.reduceMul], by simp only [f4, go_sem, Nat.reduceEqDiff, Nat.reduceAdd, Nat.reduceLeDiff, Int.reduceEq, Int.reduceLT, Int.reduceLE, Int.reduceAdd, Int.reduceSub, Int.reduceMul, Int.reduceNeg, Int.reduceToNat, Nat.reduceMul], by simp only [f5, go_sem, Nat.reduceEqDiff, Nat.reduceAdd, Nat.reduceLeDiff, Int.reduceEq, Int.reduceLT, Int.reduceLE, Int.reduceAdd, Int.reduceSub, Int.reduceMul, Int.reduceNeg, Int.reduceToNat, Nat.reduceMul], by simp only [f10, go_sem, Nat.reduceEqDiff, Nat.reduceAdd, Nat.reduceLeDiff, Int.reduceEq, Int.reduceLT, Int.reduceLE, Int.reduceAdd, Int.reduceSub, Int.reduceMul, Int.reduceNeg, Int.reduceToNat, Nat.reduceMul], st.turn _ _ _⟩
theorem tagL_len {k m : List UInt8} : (tagL k m).length = 16 := by
  unfold tagL closeC
  exact cl_len 8
attribute [irreducible] tagL
end Go.Proofs.Ytildhljhbbhmmaa.AM
namespace Go.Proofs.Ytildhljhbbhmmaa.AM
open Go
set_option linter.all false
set_option maxRecDepth 10000

/-- What sealing a block needs. -/
structure SealT (tbl : Tbl) : Prop where
  h121 : tbl 121 = some (.code m121)
  h114 : tbl 114 = some (.code m114)
  h96 : tbl 96 = some (.code m96)
  h95 : tbl 95 = some (.code m95)
  h62 : tbl 62 = some (.code m62)
  h97 : tbl 97 = some (.code m97)
  h98 : tbl 98 = some (.code m98)
  h99 : tbl 99 = some (.code m99)
  h115 : tbl 115 = some (.code m115)
  h116 : tbl 116 = some (.nat natAdd64)
  h63 : tbl 63 = some (.code m63)
  h55 : tbl 55 = some (.nat natRepeat)
  h49 : tbl 49 = some (.nat natJoin)
  h90 : tbl 90 = some (.code m90)
  h111 : tbl 111 = some (.code m111)
  h112 : tbl 112 = some (.code m112)
  h113 : tbl 113 = some (.code m113)
  h57 : tbl 57 = some (.code m57)
  h56 : tbl 56 = some (.code m56)
  h18 : tbl 18 = some (.code m18)
  h17 : tbl 17 = some (.code m17)
variable {tbl : Tbl} [hT : TMono tbl]

theorem v55 (h55 : tbl 55 = some (.nat natRepeat)) (b : UInt8) (c : Nat) (hc : c ≤ 1000000) (H : AH) : Val tbl 55 [.string ⟨#[b]⟩, .int .i64 c] H (.string (tx (List.replicate c b))) H := by
  refine ⟨1, ?_⟩
  simp only [evF, h55, natRepeat]
  have hs : (⟨#[b]⟩ : ByteArray).size = 1 := rfl
  rw [if_pos ⟨by omega, by omega, by rw [hs]; omega⟩, Int.toNat_natCast]
  have : ∀ n, Lib.repeatL [b] n = List.replicate n b := by
    intro n
    induction n with
    | zero => rfl
    | succ n ih => rw [Lib.repeatL, ih, List.replicate_succ]; rfl
  rw [this]
  rfl
theorem v49 (h49 : tbl 49 = some (.nat natJoin)) {p : Addr} {n c : Nat} {xs : List (List UInt8)} {H : AH} (hl : ldc H p n = some (xs.map fun x => .string (tx x))) (h0 : 0 < n) (hnc : n ≤ c) (hx : xs.flatten.length ≤ 140737488355328) (hn : n ≤ 140737488355328) : Val tbl 49 [.slice (some p) n c, .string ⟨#[]⟩] H (.string (tx xs.flatten)) H := by
  refine ⟨1, ?_⟩
  have hlen : xs.length = n := by have := ldc_len hl; simpa using this
  have hst : strsOf (xs.map fun x => Value.string (tx x)) = some (xs.map tx) := by
    have := strsOf_map (xs.map tx)
    rw [List.map_map] at this
    exact this
  have hj : Lib.join ((xs.map tx).map (·.data.toList)) (⟨#[]⟩ : ByteArray).data.toList = xs.flatten := by
    rw [List.map_map]
    have : xs.map ((·.data.toList) ∘ tx) = xs := by
      have : ∀ x ∈ xs, ((·.data.toList) ∘ tx) x = id x := fun x _ => tx_data x
      rw [List.map_congr_left this, List.map_id]
    rw [this]
    show [].intercalate xs = _
    clear this hst hl hlen hx
    induction xs with
    | nil => rfl
    | cons x r ih =>
      have := Lib.join_cons x r []
      simp only [Lib.join] at this
      rw [this, List.flatten_cons]
      congr 1
      simp only [Lib.joinTail]
      have : r.map ([] ++ ·) = r := by simp
      rw [this]
  simp only [evF, h49, natJoin]
  rw [if_neg (by omega), if_pos hnc, hl]
  simp only [hst, joinV, hj]
  rw [if_pos ⟨hx, by simp; omega⟩]
  rfl
/-- Zeros up to a whole part of 16. -/
def fillL (l : List UInt8) : List UInt8 := zb ((16 - l.length % 16) % 16)
theorem v111 (h111 : tbl 111 = some (.code m111)) (h55 : tbl 55 = some (.nat natRepeat)) (l : List UInt8) (hl : l.length ≤ 4611686018427387904) (H : AH) : Val tbl 111 [.string (tx l)] H (.string (tx (fillL l))) H := by
  refine Val.of_all fun Q hQ => ?_
  rw [rn_fun h111, k111]
  have e1 : (l.length : Int).tmod 16 = ((l.length % 16 : Nat) : Int) := by rw [Int.tmod_eq_emod_of_nonneg (by omega)]; omega
  have w1 := w64 (x := 16 - ((l.length % 16 : Nat) : Int)) (by omega) (by omega)
  have e2 : (16 - ((l.length % 16 : Nat) : Int)).tmod 16 = (((16 - l.length % 16) % 16 : Nat) : Int) := by rw [Int.tmod_eq_emod_of_nonneg (by omega)]; omega
  simp only [tx_size, e1, w1, e2, go_sem, Nat.reduceEqDiff, Nat.reduceAdd, Nat.reduceLeDiff, Int.reduceEq, Int.reduceLT, Int.reduceLE, Int.reduceAdd, Int.reduceSub, Int.reduceMul, Int.reduceNeg, Int.reduceToNat, Nat.reduceMul]
  have hv := v55 h55 0 ((16 - l.length % 16) % 16) (by omega) H.enter
  simp only [↓hv.run, go_sem, Nat.reduceEqDiff, Nat.reduceAdd, Nat.reduceLeDiff, Int.reduceEq, Int.reduceLT, Int.reduceLE, Int.reduceAdd, Int.reduceSub, Int.reduceMul, Int.reduceNeg, Int.reduceToNat, Nat.reduceMul]
  exact hQ
/-- The eight bytes of a number. -/
def le8 (n : Int) : List UInt8 := (List.range 8).map fun i => b8 (shiftK .shr .i64 n ((8 * i : Nat) : Int))
def le8P (n : Int) (i : Nat) : List UInt8 := part (fun i => b8 (shiftK .shr .i64 n ((8 * i : Nat) : Int))) (zb 8) i
theorem le8_len {n : Int} : (le8 n).length = 8 := by simp [le8]
theorem v112 (h112 : tbl 112 = some (.code m112)) (n : Int) (H : AH) : Val tbl 112 [.int .i64 n] H (.string (tx (le8 n))) H := by
  refine Val.of_all fun Q hQ => ?_
  rw [rn_fun h112, k112]
  have hz : (⟨rep 8 [Value.int .u8 0], 1, false⟩ : Blk) = u8r (zb 8) := rfl
  have c1 : (0 : Int) ≤ 8 := by omega
  have c2 : (8 : Int).toNat = 8 := rfl
  have c3 : 8 ≤ 140737488355328 := by omega
  have c4 : (8 : Int) ≤ 9223372036854775807 := by omega
  have c5 : (8 : Int) ≤ 8 := by omega
  simp only [c1, c2, c3, c4, c5, hz, go_sem, Nat.reduceEqDiff, Nat.reduceAdd, Nat.reduceLeDiff, Int.reduceEq, Int.reduceLT, Int.reduceLE, Int.reduceAdd, Int.reduceSub, Int.reduceMul, Int.reduceNeg, Int.reduceToNat, Nat.reduceMul]
  refine rn_loop (fun m f H' => ∃ i : Nat, i ≤ 8 ∧ m = 8 - i ∧ f 0 = .int .i64 n ∧ f 3 = .slice (some ⟨H.next, 0, none⟩) 8 8 ∧ f 7 = .int .i64 8 ∧ f 8 = .int .i64 i ∧ H'.next = H.next + 1 ∧ H.next ≤ H'.low ∧ H'.get H.next = some (u8r (le8P n i))) ?_ (n := 8)
    ⟨0, by omega, by omega, by simp only [go_sem, Nat.reduceEqDiff, Nat.reduceAdd, Nat.reduceLeDiff, Int.reduceEq, Int.reduceLT, Int.reduceLE, Int.reduceAdd, Int.reduceSub, Int.reduceMul, Int.reduceNeg, Int.reduceToNat, Nat.reduceMul], by simp only [go_sem, Nat.reduceEqDiff, Nat.reduceAdd, Nat.reduceLeDiff, Int.reduceEq, Int.reduceLT, Int.reduceLE, Int.reduceAdd, Int.reduceSub, Int.reduceMul, Int.reduceNeg, Int.reduceToNat, Nat.reduceMul], by simp only [go_sem, Nat.reduceEqDiff, Nat.reduceAdd, Nat.reduceLeDiff, Int.reduceEq, Int.reduceLT, Int.reduceLE, Int.reduceAdd, Int.reduceSub, Int.reduceMul, Int.reduceNeg, Int.reduceToNat, Nat.reduceMul] <;> rfl, by simp only [go_sem, Nat.reduceEqDiff, Nat.reduceAdd, Nat.reduceLeDiff, Int.reduceEq, Int.reduceLT, Int.reduceLE, Int.reduceAdd, Int.reduceSub, Int.reduceMul, Int.reduceNeg, Int.reduceToNat, Nat.reduceMul] <;> rfl, by rw [AH.next_push, nx_enter], by rw [lw_push, lw_enter]; omega, AH.get_push_eq H.enter _⟩
  rintro m f H' ⟨i, hi, rfl, f0, f3, f7, f8, nx, l1, g⟩
  by_cases hlt : (i : Int) < 8
  · have i0 : (0 : Int) ≤ i := by omega
    have e8 : (8 : Int) * i = ((8 * i : Nat) : Int) := by omega
    have w8 := w64 (x := ((8 * i : Nat) : Int)) (by omega) (by omega)
    have p8 : (0 : Int) ≤ ((8 * i : Nat) : Int) := by omega
    have n8 : ¬ ((8 * i : Nat) : Int) < 0 := by omega
    have wi := w64 (x := (i : Int) + 1) (by omega) (by omega)
    have hz8 : (zb 8).length = 8 := rfl
    have hlen : (le8P n i).length = 8 := by unfold le8P; rw [part_len (by omega), hz8]
    have hi1 : i + 1 ≤ 8 := by omega
    have hst : (le8P n i).set i (b8 (shiftK .shr .i64 n ((8 * i : Nat) : Int))) = le8P n (i + 1) := part_step (f := fun i => b8 (shiftK .shr .i64 n ((8 * i : Nat) : Int))) (by omega)
    have hg : H.next < H'.next := by omega
    simp only [f0, f3, f7, f8, hlt, i0, e8, w8, p8, n8, wi, b8_nat, g, hg, hlen, hi1, u8r_len, u8r_ro, u8r_es, idxSP_slc, Int.toNat_natCast, stc_eq, stB_some, splice_one, u8r_set, hst, addA, Nat.zero_add, go_sem, Nat.reduceEqDiff, Nat.reduceAdd, Nat.reduceLeDiff, Int.reduceEq, Int.reduceLT, Int.reduceLE, Int.reduceAdd, Int.reduceSub, Int.reduceMul, Int.reduceNeg, Int.reduceToNat, Nat.reduceMul]
    refine ⟨8 - (i + 1), by omega, i + 1, by omega, rfl, by simp only [f0, go_sem, Nat.reduceEqDiff, Nat.reduceAdd, Nat.reduceLeDiff, Int.reduceEq, Int.reduceLT, Int.reduceLE, Int.reduceAdd, Int.reduceSub, Int.reduceMul, Int.reduceNeg, Int.reduceToNat, Nat.reduceMul], by simp only [f3, go_sem, Nat.reduceEqDiff, Nat.reduceAdd, Nat.reduceLeDiff, Int.reduceEq, Int.reduceLT, Int.reduceLE, Int.reduceAdd, Int.reduceSub, Int.reduceMul, Int.reduceNeg, Int.reduceToNat, Nat.reduceMul], by simp only [f7, go_sem, Nat.reduceEqDiff, Nat.reduceAdd, Nat.reduceLeDiff, Int.reduceEq, Int.reduceLT, Int.reduceLE, Int.reduceAdd, Int.reduceSub, Int.reduceMul, Int.reduceNeg, Int.reduceToNat, Nat.reduceMul], by simp only [go_sem, Nat.reduceEqDiff, Nat.reduceAdd, Nat.reduceLeDiff, Int.reduceEq, Int.reduceLT, Int.reduceLE, Int.reduceAdd, Int.reduceSub, Int.reduceMul, Int.reduceNeg, Int.reduceToNat, Nat.reduceMul] <;> rfl, by rw [AH.next_set]; exact nx, by rw [lw_set]; omega, AH.get_set_eq _ _ (by omega)⟩
  · have hie : i = 8 := by omega
    subst hie
    have hp : le8P n 8 = le8 n := part_all (f := fun i => b8 (shiftK .shr .i64 n ((8 * i : Nat) : Int))) (t := zb 8)
    rw [hp] at g
    have hsb := slcBytes_row (n := 8) (c := 8) g le8_len.symm
    simp only [f0, f3, f7, f8, hlt, hsb, go_sem, Nat.reduceEqDiff, Nat.reduceAdd, Nat.reduceLeDiff, Int.reduceEq, Int.reduceLT, Int.reduceLE, Int.reduceAdd, Int.reduceSub, Int.reduceMul, Int.reduceNeg, Int.reduceToNat, Nat.reduceMul]
    rw [back_p3 (by omega) rfl]
    exact hQ
theorem v113 (h113 : tbl 113 = some (.code m113)) (h49 : tbl 49 = some (.nat natJoin)) {p : Addr} {n c : Nat} {xs : List (List UInt8)} {H : AH} (hl : ldc H p n = some (xs.map fun x => .string (tx x))) (h0 : 0 < n) (hnc : n ≤ c) (hx : xs.flatten.length ≤ 140737488355328) (hn : n ≤ 140737488355328) : Val tbl 113 [.slice (some p) n c] H (.string (tx xs.flatten)) H := by
  refine Val.of_all fun Q hQ => ?_
  rw [rn_fun h113, k113]
  have hv := v49 (H := H.enter) h49 (by rw [ldc_eq] at hl ⊢; exact hl) h0 hnc hx hn
  simp only [↓hv.run, go_sem, Nat.reduceEqDiff, Nat.reduceAdd, Nat.reduceLeDiff, Int.reduceEq, Int.reduceLT, Int.reduceLE, Int.reduceAdd, Int.reduceSub, Int.reduceMul, Int.reduceNeg, Int.reduceToNat, Nat.reduceMul]
  exact hQ
end Go.Proofs.Ytildhljhbbhmmaa.AM
namespace Go.Proofs.Ytildhljhbbhmmaa.AM
open Go
set_option linter.all false
set_option maxRecDepth 10000
variable {tbl : Tbl} [hT : TMono tbl]

/-- What the tag of a block is taken of. -/
def msgL (e s : List UInt8) : List UInt8 := [e, fillL e, s, fillL s, le8 e.length, le8 s.length].flatten
def btag (k n e s : List UInt8) : List UInt8 := tagL ((chacha k n 0).take 32) (msgL e s)
theorem fillL_len {l : List UInt8} : (fillL l).length ≤ 15 := by simp [fillL, zb]; omega
theorem msgL_len {e s : List UInt8} : (msgL e s).length ≤ e.length + s.length + 46 := by
  have h1 := fillL_len (l := e)
  have h2 := fillL_len (l := s)
  simp only [msgL, List.flatten_cons, List.flatten_nil, List.length_append, le8_len, List.length_nil]
  omega
theorem btag_len {k n e s : List UInt8} : (btag k n e s).length = 16 := tagL_len
theorem relowP {K : AH} {b : Blk} : ({ blks := (K.push b).enter.blks, low := K.low } : AH) = K.push b := rfl
theorem slcBytes_take {H : AH} {k n c : Nat} {l : List UInt8} (h : H.get k = some (u8r l)) (hn : n ≤ l.length) : slcBytes H (.slice (some ⟨k, 0, none⟩) n c) = some (tx (l.take n)) := by
  simp only [slcBytes, ldc_eq, h, ldcB_some, u8r_len, List.drop_zero]
  rw [if_pos (by omega)]
  have : List.take n (u8r l).cells = bc (l.take n) := by simp [u8r, bc, List.map_take]
  rw [this]
  simp only [bytesOf_bc]
  rfl
set_option maxHeartbeats 1600000 in
theorem v90 (T : SealT tbl) (k n e s : List UInt8) (hk : k.length = 32) (hn : n.length = 12) (he : e.length ≤ 1048576) (hs : s.length ≤ 1048576) (H : AH) :
    Val tbl 90 [.string (tx k), .string (tx n), .string (tx e), .string (tx s)] H (.agg (bc (btag k n e s)).toArray) H := by
  refine Val.of_all fun Q hQ => ?_
  rw [rn_fun T.h90, k90]
  have hch := v95 (tbl := tbl) T.h121 T.h114 T.h96 T.h95 k n 0 hk hn
  have hbl : (bc (chacha k n 0)).length = 64 := by rw [bc_len, chacha_len]
  have hone := p1_one (bc_p1 (chacha k n 0))
  have hlt2 : H.next + 1 < H.next + 1 + 1 := by omega
  have hsp : ∀ l : List Value, l.length = 64 → splice l 0 (bc (chacha k n 0)) = bc (chacha k n 0) := fun l hl => splice_all (by rw [hbl, hl])
  obtain ⟨z, hz⟩ : ∃ z : Blk, z = ⟨[.int .u8 0, .int .u8 0, .int .u8 0, .int .u8 0, .int .u8 0, .int .u8 0, .int .u8 0, .int .u8 0, .int .u8 0, .int .u8 0, .int .u8 0, .int .u8 0, .int .u8 0, .int .u8 0, .int .u8 0, .int .u8 0], 1, false⟩ := ⟨_, rfl⟩
  have hg : ∀ A : Blk, ∀ X : Option Blk, (((H.enter.push z).push A).set (H.next + 1) X).get (H.next + 1) = X := fun A X => AH.get_set_eq _ _ (by rw [AH.next_push, AH.next_push, nx_enter]; omega)
  have hg2 : ∀ A : Blk, ∀ X : Option Blk, (((H.enter.push z).push A).set (H.next + 1) X).get H.next = some z := fun A X => by
    rw [AH.get_set_ne _ _ (by omega), AH.get_push_lt _ _ (by rw [AH.next_push, nx_enter]; omega)]
    exact AH.get_push_eq H.enter _
  simp only [← hz, ↓(hch _).run, hbl, hone, hlt2, hsp, hg, hg2, AH.next_set, List.toList_toArray, stc_eq, stB_some, go_sem, Nat.reduceEqDiff, Nat.reduceAdd, Nat.reduceLeDiff, Int.reduceEq, Int.reduceLT, Int.reduceLE, Int.reduceAdd, Int.reduceSub, Int.reduceMul, Int.reduceNeg, Int.reduceToNat, Nat.reduceMul]
  generalize hK : (((H.enter.push z).push _).set (H.next + 1) _) = K
  have kn : K.next = H.next + 2 := by rw [← hK, AH.next_set, AH.next_push, AH.next_push, nx_enter]
  have kl : H.next ≤ K.low := by rw [← hK, lw_set, lw_push, lw_push, lw_enter]; omega
  have kg : K.get (H.next + 1) = some (u8r (chacha k n 0)) := by rw [← hK]; exact hg _ _
  have kz : K.get H.next = some z := by rw [← hK]; exact hg2 _ _
  clear hK hg hg2
  have hsb := slcBytes_take (n := 32) (c := 64) kg (by rw [chacha_len]; omega)
  have f1 := v111 (tbl := tbl) T.h111 T.h55 e (by omega)
  have f2 := v111 (tbl := tbl) T.h111 T.h55 s (by omega)
  have g1 := v112 (tbl := tbl) T.h112 (e.length : Int)
  have g2 := v112 (tbl := tbl) T.h112 (s.length : Int)
  have hms := msgL_len (e := e) (s := s)
  have hm := v113 (tbl := tbl) (p := ⟨H.next + 2, 0, none⟩) (n := 6) (c := 6) (xs := [e, fillL e, s, fillL s, le8 e.length, le8 s.length]) (H := (K.push ⟨[.string (tx e), .string (tx (fillL e)), .string (tx s), .string (tx (fillL s)), .string (tx (le8 e.length)), .string (tx (le8 s.length))], 1, false⟩).enter) T.h113 T.h49 (by
    rw [ldc_eq]
    simp only [gt_enter]
    rw [← kn, AH.get_push_eq]
    rfl) (by omega) (by omega) (by show (msgL e s).length ≤ _; omega) (by omega)
  have ht := v63 (tbl := tbl) T.h96 T.h97 T.h98 T.h99 T.h115 T.h116 T.h63 ((chacha k n 0).take 32) (msgL e s) (by rw [List.length_take, chacha_len]; rfl) (by omega)
  have hm2 : [e, fillL e, s, fillL s, le8 e.length, le8 s.length].flatten = msgL e s := rfl
  simp only [hm2] at hm
  have hlen16 : (bc (tagL ((chacha k n 0).take 32) (msgL e s))).length = 16 := by rw [bc_len, tagL_len]
  have hone2 := p1_one (bc_p1 (tagL ((chacha k n 0).take 32) (msgL e s)))
  have hsp2 : splice z.cells 0 (bc (tagL ((chacha k n 0).take 32) (msgL e s))) = bc (tagL ((chacha k n 0).take 32) (msgL e s)) := splice_all (by rw [hlen16, hz]; rfl)
  have hzc : z.cells.length = 16 := by rw [hz]; rfl
  have hzr : z.ro = false := by rw [hz]
  have hze : z.es = 1 := by rw [hz]
  have hne : ¬ H.next = K.next := by omega
  have hlt3 : H.next < K.next := by omega
  have kgp : ∀ b : Blk, (K.push b).get H.next = some z := fun b => by rw [AH.get_push_lt _ _ hlt3]; exact kz
  have kgs : ∀ (b : Blk) (X : Option Blk), ((K.push b).set H.next X).get H.next = X := fun b X => AH.get_set_eq _ _ (by rw [AH.next_push]; omega)
  have hlow : ∀ (A : Blk) (X : Option Blk), ¬ ((K.push A).set H.next X).low < H.next := fun A X => by rw [lw_set, lw_push]; omega
  have tk : List.take 16 (bc (tagL ((chacha k n 0).take 32) (msgL e s))) = bc (tagL ((chacha k n 0).take 32) (msgL e s)) := List.take_of_length_le (by omega)
  simp only [hsb, kn, kl, kg, kgp, kgs, tk, hlen16, hone2, hsp2, hzc, hzr, hze, relow, relowP, hlt3, AH.next_set, tx_size, Nat.sub_zero, List.toList_toArray, stc_eq, stB_some, ↓(f1 _).run, ↓(f2 _).run, ↓(g1 _).run, ↓(g2 _).run, ↓hm.run, ↓(ht _).run, go_sem, Nat.reduceEqDiff, Nat.reduceAdd, Nat.reduceLeDiff, Int.reduceEq, Int.reduceLT, Int.reduceLE, Int.reduceAdd, Int.reduceSub, Int.reduceMul, Int.reduceNeg, Int.reduceToNat, Nat.reduceMul]
  simp only [resL, resV, upd_ne, kgs, hlen16, tk, go_sem, Nat.reduceEqDiff, Nat.reduceAdd, Nat.reduceLeDiff, Int.reduceEq, Int.reduceLT, Int.reduceLE, Int.reduceAdd, Int.reduceSub, Int.reduceMul, Int.reduceNeg, Int.reduceToNat, Nat.reduceMul]
  rw [back_p3 (hlow _ _) (agg_bc _)]
  exact hQ
theorem v56 (T : SealT tbl) (k n : List UInt8) (H : AH) : Val tbl 56 [.string (tx k), .string (tx n)] H (.int .i64 (if k.length = 32 ∧ n.length = 12 then 0 else 6)) H := by
  refine Val.of_all fun Q hQ => ?_
  rw [rn_fun T.h56, k56]
  have e32 : ((k.length : Int) = 32) ↔ k.length = 32 := by omega
  have e12 : ((n.length : Int) = 12) ↔ n.length = 12 := by omega
  simp only [tx_size, e32, e12, go_sem, Nat.reduceEqDiff, Nat.reduceAdd, Nat.reduceLeDiff, Int.reduceEq, Int.reduceLT, Int.reduceLE, Int.reduceAdd, Int.reduceSub, Int.reduceMul, Int.reduceNeg, Int.reduceToNat, Nat.reduceMul]
  by_cases h1 : k.length = 32
  · by_cases h2 : n.length = 12
    · simp only [h1, h2, tx_size, e12, go_sem, Nat.reduceEqDiff, Nat.reduceAdd, Nat.reduceLeDiff, Int.reduceEq, Int.reduceLT, Int.reduceLE, Int.reduceAdd, Int.reduceSub, Int.reduceMul, Int.reduceNeg, Int.reduceToNat, Nat.reduceMul]
      simp only [h1, h2, and_self, if_true] at hQ
      exact hQ
    · simp only [h1, h2, tx_size, e12, go_sem, Nat.reduceEqDiff, Nat.reduceAdd, Nat.reduceLeDiff, Int.reduceEq, Int.reduceLT, Int.reduceLE, Int.reduceAdd, Int.reduceSub, Int.reduceMul, Int.reduceNeg, Int.reduceToNat, Nat.reduceMul]
      simp only [h1, h2, and_false, if_false] at hQ
      exact hQ
  · simp only [h1, go_sem, Nat.reduceEqDiff, Nat.reduceAdd, Nat.reduceLeDiff, Int.reduceEq, Int.reduceLT, Int.reduceLE, Int.reduceAdd, Int.reduceSub, Int.reduceMul, Int.reduceNeg, Int.reduceToNat, Nat.reduceMul]
    simp only [h1, false_and, if_false] at hQ
    exact hQ
/-- A sealed block. -/
def sealL (k n e t : List UInt8) : List UInt8 := streamL k n 1 t ++ btag k n e (streamL k n 1 t)
theorem sealL_len {k n e t : List UInt8} : (sealL k n e t).length = t.length + 16 := by rw [sealL, List.length_append, streamL_len, btag_len]
theorem v57 (T : SealT tbl) (k n e t : List UInt8) (hk : k.length = 32) (hn : n.length = 12) (he : e.length ≤ 1048576) (ht : t.length ≤ 1048576) (H : AH) :
    Val tbl 57 [.string (tx k), .string (tx n), .string (tx e), .string (tx t)] H (.string (tx (sealL k n e t))) H := by
  refine Val.of_all fun Q hQ => ?_
  rw [rn_fun T.h57, k57]
  have hst := v62 (tbl := tbl) T.h121 T.h114 T.h96 T.h95 T.h62 k n 1 hk hn (by omega) t (by omega) (by omega)
  have hsl : (streamL k n 1 t).length = t.length := streamL_len
  have htg := v90 T k n e (streamL k n 1 t) hk hn he (by omega)
  have htl := btag_len (k := k) (n := n) (e := e) (s := streamL k n 1 t)
  have hone := p1_one (bc_p1 (btag k n e (streamL k n 1 t)))
  have hbl : (bc (btag k n e (streamL k n 1 t))).length = 16 := by rw [bc_len, htl]
  have hsp : ∀ l : List Value, l.length = 16 → splice l 0 (bc (btag k n e (streamL k n 1 t))) = bc (btag k n e (streamL k n 1 t)) := fun l hl => splice_all (by rw [hbl, hl])
  have hg : ∀ A : Blk, ∀ X : Option Blk, ((H.enter.push A).set H.next X).get H.next = X := fun A X => AH.get_set_eq _ _ (by rw [AH.next_push, nx_enter]; omega)
  have hsb : ∀ A : Blk, slcBytes ((H.enter.push A).set H.next (some ⟨bc (btag k n e (streamL k n 1 t)), 1, false⟩)) (.slice (some ⟨H.next, 0, none⟩) 16 16) = some (tx (btag k n e (streamL k n 1 t))) := fun A => slcBytes_row (hg A _) htl.symm
  have hsz : (tx (streamL k n 1 t)).size + (tx (btag k n e (streamL k n 1 t))).size ≤ 9223372036854775807 := by rw [tx_size, tx_size]; omega
  have hlt : H.next < H.next + 1 := by omega
  have hlow : ∀ (A : Blk) (X : Option Blk), ¬ ((H.enter.push A).set H.next X).low < H.next := fun A X => by rw [lw_set, lw_push, lw_enter]; omega
  simp only [↓(hst _).run, ↓(htg _).run, hbl, hone, hsp, hg, hsb, hsz, hlt, Nat.sub_zero, AH.next_set, List.toList_toArray, stc_eq, stB_some, tx_cat, go_sem, Nat.reduceEqDiff, Nat.reduceAdd, Nat.reduceLeDiff, Int.reduceEq, Int.reduceLT, Int.reduceLE, Int.reduceAdd, Int.reduceSub, Int.reduceMul, Int.reduceNeg, Int.reduceToNat, Nat.reduceMul]
  rw [back_p3 (hlow _ _) rfl]
  exact hQ
theorem v18 (T : SealT tbl) (k n e t : List UInt8) (H : AH) :
    Val tbl 18 [.string (tx k), .string (tx n), .string (tx e), .string (tx t)] H (if k.length = 32 ∧ n.length = 12 then (if e.length ≤ 1048576 ∧ t.length ≤ 1048576 then .tuple #[.string (tx (sealL k n e t)), .int .i64 0] else .tuple #[.string ⟨#[]⟩, .int .i64 8]) else .tuple #[.string ⟨#[]⟩, .int .i64 6]) H := by
  refine Val.of_all fun Q hQ => ?_
  rw [rn_fun T.h18, k18]
  have h5 := v56 T k n H.enter
  simp only [↓h5.run, go_sem, Nat.reduceEqDiff, Nat.reduceAdd, Nat.reduceLeDiff, Int.reduceEq, Int.reduceLT, Int.reduceLE, Int.reduceAdd, Int.reduceSub, Int.reduceMul, Int.reduceNeg, Int.reduceToNat, Nat.reduceMul]
  by_cases hkn : k.length = 32 ∧ n.length = 12
  · rw [if_pos hkn] at hQ
    have e1 : ((1048576 : Int) < e.length) ↔ ¬ e.length ≤ 1048576 := by omega
    have e2 : ((1048576 : Int) < t.length) ↔ ¬ t.length ≤ 1048576 := by omega
    simp only [hkn, and_self, if_true, tx_size, e1, e2, go_sem, Nat.reduceEqDiff, Nat.reduceAdd, Nat.reduceLeDiff, Int.reduceEq, Int.reduceLT, Int.reduceLE, Int.reduceAdd, Int.reduceSub, Int.reduceMul, Int.reduceNeg, Int.reduceToNat, Nat.reduceMul]
    by_cases he : e.length ≤ 1048576
    · by_cases ht : t.length ≤ 1048576
      · have hv := v57 T k n e t hkn.1 hkn.2 he ht
        rw [if_pos ⟨he, ht⟩] at hQ
        simp only [he, ht, tx_size, e2, ↓(hv _).run, go_sem, Nat.reduceEqDiff, Nat.reduceAdd, Nat.reduceLeDiff, Int.reduceEq, Int.reduceLT, Int.reduceLE, Int.reduceAdd, Int.reduceSub, Int.reduceMul, Int.reduceNeg, Int.reduceToNat, Nat.reduceMul]
        exact hQ
      · rw [if_neg fun h => ht h.2] at hQ
        simp only [he, ht, tx_size, e2, go_sem, Nat.reduceEqDiff, Nat.reduceAdd, Nat.reduceLeDiff, Int.reduceEq, Int.reduceLT, Int.reduceLE, Int.reduceAdd, Int.reduceSub, Int.reduceMul, Int.reduceNeg, Int.reduceToNat, Nat.reduceMul]
        exact hQ
    · rw [if_neg fun h => he h.1] at hQ
      simp only [he, go_sem, Nat.reduceEqDiff, Nat.reduceAdd, Nat.reduceLeDiff, Int.reduceEq, Int.reduceLT, Int.reduceLE, Int.reduceAdd, Int.reduceSub, Int.reduceMul, Int.reduceNeg, Int.reduceToNat, Nat.reduceMul]
      exact hQ
  · rw [if_neg hkn] at hQ
    simp only [hkn, if_false, go_sem, Nat.reduceEqDiff, Nat.reduceAdd, Nat.reduceLeDiff, Int.reduceEq, Int.reduceLT, Int.reduceLE, Int.reduceAdd, Int.reduceSub, Int.reduceMul, Int.reduceNeg, Int.reduceToNat, Nat.reduceMul]
    exact hQ
theorem v17 (T : SealT tbl) (H : AH) : Val tbl 17 [] H (.bool true) H := by
  refine Val.of_all fun Q hQ => ?_
  rw [rn_fun T.h17, k17]
  have a1 := v55 (tbl := tbl) T.h55 107 32 (by omega)
  have a2 := v55 (tbl := tbl) T.h55 110 12 (by omega)
  have h8 := v18 T (List.replicate 32 107) (List.replicate 12 110) [] [116, 101, 120, 116]
  have e0 : (⟨#[]⟩ : ByteArray) = tx [] := rfl
  have e4 : (⟨#[116, 101, 120, 116]⟩ : ByteArray) = tx [116, 101, 120, 116] := rfl
  have hc : (32 : Int) = ((32 : Nat) : Int) := rfl
  have hc2 : (12 : Int) = ((12 : Nat) : Int) := rfl
  simp only [List.length_replicate, and_self, if_true, List.length_nil, List.length_cons, Nat.zero_le, Nat.reduceAdd, Nat.reduceLeDiff] at h8
  have hl := sealL_len (k := List.replicate 32 107) (n := List.replicate 12 110) (e := []) (t := [116, 101, 120, 116])
  have hl2 : ((sealL (List.replicate 32 107) (List.replicate 12 110) [] [116, 101, 120, 116]).length : Int) = 20 := by rw [hl]; rfl
  rw [← hc] at a1
  rw [← hc2] at a2
  simp only [e0, e4, ↓(a1 _).run, ↓(a2 _).run, ↓(h8 _).run, tx_size, hl2, go_sem, Nat.reduceEqDiff, Nat.reduceAdd, Nat.reduceLeDiff, Int.reduceEq, Int.reduceLT, Int.reduceLE, Int.reduceAdd, Int.reduceSub, Int.reduceMul, Int.reduceNeg, Int.reduceToNat, Nat.reduceMul]
  exact hQ
end Go.Proofs.Ytildhljhbbhmmaa.AM
namespace Go.Proofs.Ytildhljhbbhmmaa.AM
open Go
set_option linter.all false
set_option maxRecDepth 10000

def PP (s : Int) : Int := if 1 < (s + 1023) / 1024 then (s + 1023) / 1024 else 1
/-- How many bytes a sealed file has. -/
def LL (s : Int) : Int := 20 + s + 16 * PP s
def sz (n : Int) : Int := n - 20 - 16 * ((n - 20 + 1039) / 1040)
def Good (n : Int) : Prop := 36 ≤ n ∧ n ≤ 1064980 ∧ 0 ≤ sz n ∧ sz n ≤ 1048576 ∧ LL (sz n) = n
variable {tbl : Tbl} [hT : TMono tbl]
theorem v86 (h86 : tbl 86 = some (.code m86)) {s : Int} (h0 : 0 ≤ s) (h1 : s ≤ 1048576) (H : AH) : Val tbl 86 [.int .i64 s] H (.int .i64 (PP s)) H := by
  refine Val.of_all fun Q hQ => ?_
  rw [rn_fun h86, k86]
  have w1 := w64 (x := s + 1024) (by omega) (by omega)
  have w2 := w64 (x := s + 1024 - 1) (by omega) (by omega)
  have e1 : (s + 1024 - 1).tdiv 1024 = (s + 1023) / 1024 := by rw [Int.tdiv_eq_ediv_of_nonneg (by omega)]; omega
  have w3 := w64 (x := (s + 1023) / 1024) (by omega) (by omega)
  simp only [w1, w2, e1, w3, go_sem, Nat.reduceEqDiff, Nat.reduceAdd, Nat.reduceLeDiff, Int.reduceEq, Int.reduceLT, Int.reduceLE, Int.reduceAdd, Int.reduceSub, Int.reduceMul, Int.reduceNeg, Int.reduceToNat, Nat.reduceMul]
  exact hQ
theorem v54 (h86 : tbl 86 = some (.code m86)) (h54 : tbl 54 = some (.code m54)) {s : Int} (h0 : 0 ≤ s) (h1 : s ≤ 1048576) (H : AH) : Val tbl 54 [.int .i64 s] H (.int .i64 (LL s)) H := by
  refine Val.of_all fun Q hQ => ?_
  rw [rn_fun h54, k54]
  have hp : 1 ≤ PP s ∧ PP s ≤ 1024 := by unfold PP; split <;> omega
  have w1 := w64 (x := 20 + s) (by omega) (by omega)
  have w2 := w64 (x := 16 * PP s) (by omega) (by omega)
  have w3 := w64 (x := 20 + s + 16 * PP s) (by omega) (by omega)
  simp only [w1, w2, w3, ↓(v86 h86 h0 h1 _).run, go_sem, Nat.reduceEqDiff, Nat.reduceAdd, Nat.reduceLeDiff, Int.reduceEq, Int.reduceLT, Int.reduceLE, Int.reduceAdd, Int.reduceSub, Int.reduceMul, Int.reduceNeg, Int.reduceToNat, Nat.reduceMul]
  exact hQ
theorem v14 (h14 : tbl 14 = some (.code m14)) (n a b : Int) (H : AH) : Val tbl 14 [.int .i64 n, .int .i64 a, .int .i64 b] H (.bool (decide (a ≤ n ∧ n ≤ b))) H := by
  refine Val.of_all fun Q hQ => ?_
  rw [rn_fun h14, k14]
  by_cases h0 : a ≤ n
  · by_cases h1 : n ≤ b
    · simp only [h0, h1, go_sem, Nat.reduceEqDiff, Nat.reduceAdd, Nat.reduceLeDiff, Int.reduceEq, Int.reduceLT, Int.reduceLE, Int.reduceAdd, Int.reduceSub, Int.reduceMul, Int.reduceNeg, Int.reduceToNat, Nat.reduceMul]
      exact leaf hQ (by simp [h0, h1]) rfl
    · simp only [h0, h1, go_sem, Nat.reduceEqDiff, Nat.reduceAdd, Nat.reduceLeDiff, Int.reduceEq, Int.reduceLT, Int.reduceLE, Int.reduceAdd, Int.reduceSub, Int.reduceMul, Int.reduceNeg, Int.reduceToNat, Nat.reduceMul]
      exact leaf hQ (by simp [h0, h1]) rfl
  · simp only [h0, go_sem, Nat.reduceEqDiff, Nat.reduceAdd, Nat.reduceLeDiff, Int.reduceEq, Int.reduceLT, Int.reduceLE, Int.reduceAdd, Int.reduceSub, Int.reduceMul, Int.reduceNeg, Int.reduceToNat, Nat.reduceMul]
    exact leaf hQ (by simp [h0]) rfl
open Classical in
theorem v16 (h86 : tbl 86 = some (.code m86)) (h54 : tbl 54 = some (.code m54)) (h16 : tbl 16 = some (.code m16)) (n : Int) (H : AH) : Val tbl 16 [.int .i64 n] H (if Good n then .tuple #[.int .i64 (sz n), .int .i64 0] else .tuple #[.int .i64 0, .int .i64 6]) H := by
  refine Val.of_all fun Q hQ => ?_
  rw [rn_fun h16, k16]
  have hL : LL 1048576 = 1064980 := by decide
  have hv := v54 (tbl := tbl) h86 h54 (s := 1048576) (by omega) (by omega)
  by_cases h0 : n < 36
  · rw [if_neg (by unfold Good; omega)] at hQ
    simp only [h0, go_sem, Nat.reduceEqDiff, Nat.reduceAdd, Nat.reduceLeDiff, Int.reduceEq, Int.reduceLT, Int.reduceLE, Int.reduceAdd, Int.reduceSub, Int.reduceMul, Int.reduceNeg, Int.reduceToNat, Nat.reduceMul]
    exact hQ
  · by_cases h1 : 1064980 < n
    · have hng : ¬ Good n := fun h => by
        have := h.2.2.2.2
        have h3 := h.2.2.2.1
        have h4 := h.2.2.1
        unfold LL PP at this
        split at this <;> omega
      rw [if_neg hng] at hQ
      simp only [h0, h1, hL, ↓(hv _).run, go_sem, Nat.reduceEqDiff, Nat.reduceAdd, Nat.reduceLeDiff, Int.reduceEq, Int.reduceLT, Int.reduceLE, Int.reduceAdd, Int.reduceSub, Int.reduceMul, Int.reduceNeg, Int.reduceToNat, Nat.reduceMul]
      exact hQ
    · have w1 := w64 (x := n - 20) (by omega) (by omega)
      have w2 := w64 (x := n - 20 + 1040) (by omega) (by omega)
      have w3 := w64 (x := n - 20 + 1040 - 1) (by omega) (by omega)
      have e1 : (n - 20 + 1040 - 1).tdiv 1040 = (n - 20 + 1039) / 1040 := by rw [Int.tdiv_eq_ediv_of_nonneg (by omega)]; omega
      have w4 := w64 (x := (n - 20 + 1039) / 1040) (by omega) (by omega)
      have w5 := w64 (x := 16 * ((n - 20 + 1039) / 1040)) (by omega) (by omega)
      have w6 := w64 (x := n - 20 - 16 * ((n - 20 + 1039) / 1040)) (by omega) (by omega)
      have hs : n - 20 - 16 * ((n - 20 + 1039) / 1040) = sz n := rfl
      rw [hs] at w6
      simp only [h0, h1, hL, w1, w2, w3, e1, w4, w5, hs, w6, ↓(hv _).run, go_sem, Nat.reduceEqDiff, Nat.reduceAdd, Nat.reduceLeDiff, Int.reduceEq, Int.reduceLT, Int.reduceLE, Int.reduceAdd, Int.reduceSub, Int.reduceMul, Int.reduceNeg, Int.reduceToNat, Nat.reduceMul]
      by_cases h2 : sz n < 0
      · rw [if_neg (by unfold Good; omega)] at hQ
        simp only [h2, go_sem, Nat.reduceEqDiff, Nat.reduceAdd, Nat.reduceLeDiff, Int.reduceEq, Int.reduceLT, Int.reduceLE, Int.reduceAdd, Int.reduceSub, Int.reduceMul, Int.reduceNeg, Int.reduceToNat, Nat.reduceMul]
        exact hQ
      · by_cases h3 : 1048576 < sz n
        · rw [if_neg (by unfold Good; omega)] at hQ
          simp only [h2, h3, go_sem, Nat.reduceEqDiff, Nat.reduceAdd, Nat.reduceLeDiff, Int.reduceEq, Int.reduceLT, Int.reduceLE, Int.reduceAdd, Int.reduceSub, Int.reduceMul, Int.reduceNeg, Int.reduceToNat, Nat.reduceMul]
          exact hQ
        · simp only [h2, h3, ↓(v54 h86 h54 (show 0 ≤ sz n by omega) (show sz n ≤ 1048576 by omega) _).run, go_sem, Nat.reduceEqDiff, Nat.reduceAdd, Nat.reduceLeDiff, Int.reduceEq, Int.reduceLT, Int.reduceLE, Int.reduceAdd, Int.reduceSub, Int.reduceMul, Int.reduceNeg, Int.reduceToNat, Nat.reduceMul]
          by_cases h4 : LL (sz n) = n
          · rw [if_pos ⟨by omega, by omega, by omega, by omega, h4⟩] at hQ
            simp only [h4, go_sem, Nat.reduceEqDiff, Nat.reduceAdd, Nat.reduceLeDiff, Int.reduceEq, Int.reduceLT, Int.reduceLE, Int.reduceAdd, Int.reduceSub, Int.reduceMul, Int.reduceNeg, Int.reduceToNat, Nat.reduceMul]
            exact hQ
          · rw [if_neg (fun h => h4 h.2.2.2.2)] at hQ
            simp only [h4, go_sem, Nat.reduceEqDiff, Nat.reduceAdd, Nat.reduceLeDiff, Int.reduceEq, Int.reduceLT, Int.reduceLE, Int.reduceAdd, Int.reduceSub, Int.reduceMul, Int.reduceNeg, Int.reduceToNat, Nat.reduceMul]
            exact hQ
end Go.Proofs.Ytildhljhbbhmmaa.AM
namespace Go.Proofs.Ytildhljhbbhmmaa.AM
open Go
set_option linter.all false
set_option maxRecDepth 10000
variable {tbl : Tbl} [hT : TMono tbl]

/-! ### The reference's numbers: digits of 256 -/
def dgs (l : List UInt8) : List Int := l.map fun b => (b.toNat : Int)
theorem dgs_len {l : List UInt8} : (dgs l).length = l.length := by simp [dgs]
theorem i64_p1 (l : List Int) : (l.map I64).all p1 = true := by
  rw [List.all_eq_true]
  intro x hx
  rw [List.mem_map] at hx
  obtain ⟨y, _, rfl⟩ := hx
  rfl
theorem dgs_step {l : List UInt8} {i : Nat} (h : i < l.length) : (dgs (l.take i)).map I64 ++ [.int .i64 ((gb l i).toNat : Int)] = (dgs (l.take (i + 1))).map I64 := by
  have : l.take (i + 1) = l.take i ++ [gb l i] := by
    rw [List.take_succ]
    simp [gb, h]
  rw [this]
  simp [dgs, I64]
theorem v64 (h64 : tbl 64 = some (.code m64)) (l : List UInt8) (hl : l.length ≤ 1000000) (H : AH) : Val tbl 64 [.string (tx l)] H (mkS H l.length) (mkH H 1 l.length ((dgs l).map I64)) := by
  refine Val.of_all fun Q hQ => ?_
  rw [rn_fun h64, k64]
  simp only [tx_size, go_sem, Nat.reduceEqDiff, Nat.reduceAdd, Nat.reduceLeDiff, Int.reduceEq, Int.reduceLT, Int.reduceLE, Int.reduceAdd, Int.reduceSub, Int.reduceMul, Int.reduceNeg, Int.reduceToNat, Nat.reduceMul]
  refine rn_loop (fun m f H' => ∃ (i : Nat) (v : Value), i ≤ l.length ∧ m = l.length - i ∧ f 0 = .string (tx l) ∧ f 6 = .int .i64 l.length ∧ f 7 = .int .i64 i ∧ f 3 = v ∧ Own H.next H' 1 v i ((dgs (l.take i)).map I64) ∧ H.next ≤ H'.next ∧ H.next ≤ H'.low) ?_ (n := l.length)
    ⟨0, .slice none 0 0, by omega, by omega, by simp only [go_sem, Nat.reduceEqDiff, Nat.reduceAdd, Nat.reduceLeDiff, Int.reduceEq, Int.reduceLT, Int.reduceLE, Int.reduceAdd, Int.reduceSub, Int.reduceMul, Int.reduceNeg, Int.reduceToNat, Nat.reduceMul], by simp only [go_sem, Nat.reduceEqDiff, Nat.reduceAdd, Nat.reduceLeDiff, Int.reduceEq, Int.reduceLT, Int.reduceLE, Int.reduceAdd, Int.reduceSub, Int.reduceMul, Int.reduceNeg, Int.reduceToNat, Nat.reduceMul], by simp only [go_sem, Nat.reduceEqDiff, Nat.reduceAdd, Nat.reduceLeDiff, Int.reduceEq, Int.reduceLT, Int.reduceLE, Int.reduceAdd, Int.reduceSub, Int.reduceMul, Int.reduceNeg, Int.reduceToNat, Nat.reduceMul] <;> rfl, by simp only [go_sem, Nat.reduceEqDiff, Nat.reduceAdd, Nat.reduceLeDiff, Int.reduceEq, Int.reduceLT, Int.reduceLE, Int.reduceAdd, Int.reduceSub, Int.reduceMul, Int.reduceNeg, Int.reduceToNat, Nat.reduceMul], .inl ⟨rfl, rfl, rfl⟩, by rw [nx_enter]; omega, by rw [lw_enter]; omega⟩
  rintro m f H' ⟨i, v, hi, rfl, f0, f6, f7, f3, ho, n1, l1⟩
  by_cases hlt : (i : Int) < l.length
  · have i0 : (0 : Int) ≤ i := by omega
    have wi := w64 (x := (i : Int) + 1) (by omega) (by omega)
    have hb := (gb l i).toNat_lt
    have wb := w64 (x := ((gb l i).toNat : Int)) (by omega) (by omega)
    obtain ⟨s', H2, ha, ho2, _, hn2, hl2⟩ := (ho.push ⟨[.int .i64 ((gb l i).toNat : Int)], 1, false⟩).append (bytes := 8) (k := 1) (new := [.int .i64 ((gb l i).toNat : Int)]) (by rw [AH.next_push]; omega) (by omega) rfl (by omega)
    simp only [f0, f6, f7, f3, tx_size, hlt, i0, wi, wb, byteAt_tx, Int.toNat_natCast, ha, go_sem, Nat.reduceEqDiff, Nat.reduceAdd, Nat.reduceLeDiff, Int.reduceEq, Int.reduceLT, Int.reduceLE, Int.reduceAdd, Int.reduceSub, Int.reduceMul, Int.reduceNeg, Int.reduceToNat, Nat.reduceMul]
    rw [dgs_step (by omega)] at ho2
    have hl3 := hl2 H.next (Nat.le_refl _) (by rw [lw_push]; exact l1)
    rw [AH.next_push] at hn2
    exact ⟨l.length - (i + 1), by omega, i + 1, s', by omega, rfl, by simp only [f0, go_sem, Nat.reduceEqDiff, Nat.reduceAdd, Nat.reduceLeDiff, Int.reduceEq, Int.reduceLT, Int.reduceLE, Int.reduceAdd, Int.reduceSub, Int.reduceMul, Int.reduceNeg, Int.reduceToNat, Nat.reduceMul], by simp only [f6, go_sem, Nat.reduceEqDiff, Nat.reduceAdd, Nat.reduceLeDiff, Int.reduceEq, Int.reduceLT, Int.reduceLE, Int.reduceAdd, Int.reduceSub, Int.reduceMul, Int.reduceNeg, Int.reduceToNat, Nat.reduceMul], by simp only [go_sem, Nat.reduceEqDiff, Nat.reduceAdd, Nat.reduceLeDiff, Int.reduceEq, Int.reduceLT, Int.reduceLE, Int.reduceAdd, Int.reduceSub, Int.reduceMul, Int.reduceNeg, Int.reduceToNat, Nat.reduceMul] <;> rfl, by simp only [go_sem, Nat.reduceEqDiff, Nat.reduceAdd, Nat.reduceLeDiff, Int.reduceEq, Int.reduceLT, Int.reduceLE, Int.reduceAdd, Int.reduceSub, Int.reduceMul, Int.reduceNeg, Int.reduceToNat, Nat.reduceMul], ho2, by omega, hl3⟩
  · have hie : i = l.length := by omega
    subst hie
    simp only [f0, f6, f7, f3, tx_size, hlt, go_sem, Nat.reduceEqDiff, Nat.reduceAdd, Nat.reduceLeDiff, Int.reduceEq, Int.reduceLT, Int.reduceLE, Int.reduceAdd, Int.reduceSub, Int.reduceMul, Int.reduceNeg, Int.reduceToNat, Nat.reduceMul]
    rw [List.take_length] at ho
    rw [back_own ho (Nat.le_refl _) l1 (i64_p1 _)]
    exact hQ
end Go.Proofs.Ytildhljhbbhmmaa.AM
namespace Go.Proofs.Ytildhljhbbhmmaa.AM
open Go
set_option linter.all false
set_option maxRecDepth 10000
variable {tbl : Tbl} [hT : TMono tbl]

def dig (l : List Int) (i : Nat) : Int := l.getD i 0
def Dig (l : List Int) : Prop := ∀ i, 0 ≤ dig l i ∧ dig l i ≤ 255
theorem dig_lt {l : List Int} {i : Nat} (h : i < l.length) : dig l i = l[i] := by simp [dig, h]
theorem dig_ge {l : List Int} {i : Nat} (h : ¬ i < l.length) : dig l i = 0 := by simp [dig, h]
def plusC (a b : List Int) : Nat → Int
  | 0 => 0
  | j + 1 => (plusC a b j + dig a j + dig b j) / 256
def pd (a b : List Int) (j : Nat) : Int := (plusC a b j + dig a j + dig b j) % 256
def plusM (a b : List Int) : Nat := max a.length b.length
def plusN (a b : List Int) : Nat := if 0 < plusC a b (plusM a b) then plusM a b + 1 else plusM a b
def plusL (a b : List Int) : List Int := (List.range (plusN a b)).map (pd a b)
theorem plusC_range {a b : List Int} (ha : Dig a) (hb : Dig b) : ∀ j, 0 ≤ plusC a b j ∧ plusC a b j ≤ 1 := by
  intro j
  induction j with
  | zero => simp [plusC]
  | succ j ih =>
    have := ha j
    have := hb j
    simp only [plusC]
    omega
theorem and255 {x : Int} (h : 0 ≤ x ∧ x < 4611686018427387904) : bitsK .and .i64 x 255 = x % 256 := by
  obtain ⟨n, rfl⟩ : ∃ n : Nat, x = n := ⟨x.toNat, by omega⟩
  simp only [bitsK, BitVec.toNat_and]
  rw [show (BitVec.ofInt IntKind.i64.bits (255 : Int)).toNat = 2 ^ 8 - 1 from rfl, ofInt_nat, show n % 2 ^ IntKind.i64.bits = n from Nat.mod_eq_of_lt (by
    show n < 2 ^ 64
    omega), Nat.and_two_pow_sub_one_eq_mod]
  rw [w64 (by omega) (by omega)]
  rfl
theorem shr8 {x : Int} : shiftK .shr .i64 x 8 = x / 256 := by
  simp only [shiftK]
  rw [show (2 : Int) ^ Nat.min (8 : Int).toNat IntKind.i64.bits = 256 from rfl, Int.fdiv_eq_ediv_of_nonneg _ (by omega)]
theorem plus_exit {a b : List Int} {j : Nat} (hj : j ≤ plusN a b) (h1 : ¬ j < a.length) (h2 : ¬ j < b.length) (h3 : ¬ 0 < plusC a b j) : j = plusN a b := by
  unfold plusN at *
  have hm : plusM a b ≤ j := by unfold plusM; omega
  split at hj
  · rename_i h
    split
    · by_cases he : j = plusM a b
      · rw [he] at h3; omega
      · omega
    · omega
  · rename_i h
    split
    · omega
    · omega
theorem plus_more {a b : List Int} {j : Nat} (hj : j ≤ plusN a b) (h : j < a.length ∨ j < b.length ∨ 0 < plusC a b j) (ha : Dig a) (hb : Dig b) : j + 1 ≤ plusN a b := by
  unfold plusN at *
  have hM : plusM a b = max a.length b.length := rfl
  by_cases hlt : j < plusM a b
  · split <;> omega
  · have h0 : 0 < plusC a b j := by rcases h with h | h | h <;> omega
    by_cases he : j = plusM a b
    · rw [he] at h0
      rw [if_pos h0]; omega
    · exfalso
      have hj2 : j = plusM a b + 1 := by split at hj <;> omega
      have hc := (plusC_range ha hb (plusM a b))
      rw [hj2, plusC, dig_ge (by omega), dig_ge (by omega)] at h0
      omega
end Go.Proofs.Ytildhljhbbhmmaa.AM
namespace Go.Proofs.Ytildhljhbbhmmaa.AM
open Go
set_option linter.all false
set_option maxRecDepth 10000
variable {tbl : Tbl} [hT : TMono tbl]

theorem pd_step {a b : List Int} {j : Nat} : ((List.range j).map (pd a b)).map I64 ++ [.int .i64 ((plusC a b j + dig a j + dig b j) % 256)] = ((List.range (j + 1)).map (pd a b)).map I64 := by
  rw [map_range_succ, List.map_append]
  rfl
theorem v68 (h68 : tbl 68 = some (.code m68)) (a b : List Int) (ha : Dig a) (hb : Dig b) (hla : a.length ≤ 1000) (hlb : b.length ≤ 1000) {va vb : Value} {H : AH} (hva : Sl H 1 va a.length (a.map I64)) (hvb : Sl H 1 vb b.length (b.map I64)) : Val tbl 68 [va, vb] H (mkS H (plusN a b)) (mkH H 1 (plusN a b) ((plusL a b).map I64)) := by
  refine Val.of_all fun Q hQ => ?_
  rw [rn_fun h68, k68]
  have hN : plusN a b ≤ 1001 := by unfold plusN plusM; split <;> omega
  simp only [go_sem, Nat.reduceEqDiff, Nat.reduceAdd, Nat.reduceLeDiff, Int.reduceEq, Int.reduceLT, Int.reduceLE, Int.reduceAdd, Int.reduceSub, Int.reduceMul, Int.reduceNeg, Int.reduceToNat, Nat.reduceMul]
  refine rn_loop (fun m f H' => ∃ (j : Nat) (v : Value), j ≤ plusN a b ∧ m = plusN a b - j ∧ f 0 = va ∧ f 1 = vb ∧ f 6 = .int .i64 (plusC a b j) ∧ f 7 = .int .i64 j ∧ f 5 = v ∧ Own H.next H' 1 v j (((List.range j).map (pd a b)).map I64) ∧ H.next ≤ H'.next ∧ H.next ≤ H'.low ∧ (∀ id, id < H.next → H'.get id = H.get id)) ?_ (n := plusN a b)
    ⟨0, .slice none 0 0, by omega, by omega, by simp only [go_sem, Nat.reduceEqDiff, Nat.reduceAdd, Nat.reduceLeDiff, Int.reduceEq, Int.reduceLT, Int.reduceLE, Int.reduceAdd, Int.reduceSub, Int.reduceMul, Int.reduceNeg, Int.reduceToNat, Nat.reduceMul], by simp only [go_sem, Nat.reduceEqDiff, Nat.reduceAdd, Nat.reduceLeDiff, Int.reduceEq, Int.reduceLT, Int.reduceLE, Int.reduceAdd, Int.reduceSub, Int.reduceMul, Int.reduceNeg, Int.reduceToNat, Nat.reduceMul], by simp only [go_sem, Nat.reduceEqDiff, Nat.reduceAdd, Nat.reduceLeDiff, Int.reduceEq, Int.reduceLT, Int.reduceLE, Int.reduceAdd, Int.reduceSub, Int.reduceMul, Int.reduceNeg, Int.reduceToNat, Nat.reduceMul] <;> rfl, by simp only [go_sem, Nat.reduceEqDiff, Nat.reduceAdd, Nat.reduceLeDiff, Int.reduceEq, Int.reduceLT, Int.reduceLE, Int.reduceAdd, Int.reduceSub, Int.reduceMul, Int.reduceNeg, Int.reduceToNat, Nat.reduceMul] <;> rfl, by simp only [go_sem, Nat.reduceEqDiff, Nat.reduceAdd, Nat.reduceLeDiff, Int.reduceEq, Int.reduceLT, Int.reduceLE, Int.reduceAdd, Int.reduceSub, Int.reduceMul, Int.reduceNeg, Int.reduceToNat, Nat.reduceMul], .inl ⟨rfl, rfl, rfl⟩, by rw [nx_enter]; omega, by rw [lw_enter]; omega, fun _ _ => rfl⟩
  rintro m f H' ⟨j, v, hj, rfl, f0, f1, f6, f7, f5, ho, n1, l1, hold⟩
  have hc := plusC_range ha hb j
  have hda := ha j
  have hdb := hb j
  obtain ⟨pa, ca, ea⟩ := hva.shape
  obtain ⟨pb, cb, eb⟩ := hvb.shape
  have j0 : (0 : Int) ≤ j := by omega
  have wj := w64 (x := (j : Int) + 1) (by omega) (by omega)
  have wa := w64 (x := plusC a b j + dig a j) (by omega) (by omega)
  have wb := w64 (x := plusC a b j + dig b j) (by omega) (by omega)
  have wab := w64 (x := plusC a b j + dig a j + dig b j) (by omega) (by omega)
  have hm := and255 (x := plusC a b j + dig a j + dig b j) (by omega)
  have hs := shr8 (x := plusC a b j + dig a j + dig b j)
  have hs' : (plusC a b j + dig a j + dig b j) / 256 = plusC a b (j + 1) := rfl
  rw [hs'] at hs
  obtain ⟨s', H2, hap, ho2, hold2, hn2, hl2⟩ := (ho.push ⟨[.int .i64 ((plusC a b j + dig a j + dig b j) % 256)], 1, false⟩).append (bytes := 8) (k := 1) (new := [.int .i64 ((plusC a b j + dig a j + dig b j) % 256)]) (by rw [AH.next_push]; omega) (by omega) rfl (by omega)
  rw [pd_step] at ho2
  rw [AH.next_push] at hn2
  have hl3 := hl2 H.next (Nat.le_refl _) (by rw [lw_push]; exact l1)
  have hold3 : ∀ id, id < H.next → H2.get id = H.get id := fun id hid => by rw [hold2 id hid, AH.get_push_lt _ _ (by omega)]; exact hold id hid
  subst ea eb
  by_cases hA : (j : Int) < a.length
  · by_cases hB : (j : Int) < b.length
    · skip
      have hmore := plus_more hj (by omega) ha hb
      have ga := dig_lt (l := a) (i := j) (by omega)
      have gb := dig_lt (l := b) (i := j) (by omega)
      simp only [f0, f1, f6, f7, f5, j0, wj, hA, hB, wa, wb, wab, hm, hs, hap, go_sem, Nat.reduceEqDiff, Nat.reduceAdd, Nat.reduceLeDiff, Int.reduceEq, Int.reduceLT, Int.reduceLE, Int.reduceAdd, Int.reduceSub, Int.reduceMul, Int.reduceNeg, Int.reduceToNat, Nat.reduceMul]
      refine hva.int (i := j) (by omega) fun p hpl hp => ?_
      rw [← ga] at hp
      have hpn : p.block < H'.next := by omega
      simp only [hpn, hold p.block hpl, hp, f0, f1, f6, f7, f5, j0, wj, hA, hB, wa, wb, wab, hm, hs, hap, go_sem, Nat.reduceEqDiff, Nat.reduceAdd, Nat.reduceLeDiff, Int.reduceEq, Int.reduceLT, Int.reduceLE, Int.reduceAdd, Int.reduceSub, Int.reduceMul, Int.reduceNeg, Int.reduceToNat, Nat.reduceMul]
      refine hvb.int (i := j) (by omega) fun p2 hpl2 hp2 => ?_
      rw [← gb] at hp2
      have hpn2 : p2.block < H'.next := by omega
      simp only [hpn2, hold p2.block hpl2, hp2, f0, f1, f6, f7, f5, j0, wj, hA, hB, wa, wb, wab, hm, hs, hap, go_sem, Nat.reduceEqDiff, Nat.reduceAdd, Nat.reduceLeDiff, Int.reduceEq, Int.reduceLT, Int.reduceLE, Int.reduceAdd, Int.reduceSub, Int.reduceMul, Int.reduceNeg, Int.reduceToNat, Nat.reduceMul]
      exact ⟨plusN a b - (j + 1), by omega, j + 1, s', hmore, rfl, by simp only [f0, go_sem, Nat.reduceEqDiff, Nat.reduceAdd, Nat.reduceLeDiff, Int.reduceEq, Int.reduceLT, Int.reduceLE, Int.reduceAdd, Int.reduceSub, Int.reduceMul, Int.reduceNeg, Int.reduceToNat, Nat.reduceMul], by simp only [f1, go_sem, Nat.reduceEqDiff, Nat.reduceAdd, Nat.reduceLeDiff, Int.reduceEq, Int.reduceLT, Int.reduceLE, Int.reduceAdd, Int.reduceSub, Int.reduceMul, Int.reduceNeg, Int.reduceToNat, Nat.reduceMul], by simp only [go_sem, Nat.reduceEqDiff, Nat.reduceAdd, Nat.reduceLeDiff, Int.reduceEq, Int.reduceLT, Int.reduceLE, Int.reduceAdd, Int.reduceSub, Int.reduceMul, Int.reduceNeg, Int.reduceToNat, Nat.reduceMul], by simp only [go_sem, Nat.reduceEqDiff, Nat.reduceAdd, Nat.reduceLeDiff, Int.reduceEq, Int.reduceLT, Int.reduceLE, Int.reduceAdd, Int.reduceSub, Int.reduceMul, Int.reduceNeg, Int.reduceToNat, Nat.reduceMul] <;> rfl, by simp only [go_sem, Nat.reduceEqDiff, Nat.reduceAdd, Nat.reduceLeDiff, Int.reduceEq, Int.reduceLT, Int.reduceLE, Int.reduceAdd, Int.reduceSub, Int.reduceMul, Int.reduceNeg, Int.reduceToNat, Nat.reduceMul], ho2, by omega, hl3, hold3⟩
    · skip
      have hmore := plus_more hj (by omega) ha hb
      have ga := dig_lt (l := a) (i := j) (by omega)
      have gb : dig b j = 0 := dig_ge (by omega)
      rw [gb, Int.add_zero] at hm hs wab hap
      simp only [f0, f1, f6, f7, f5, j0, wj, hA, hB, wa, wb, wab, hm, hs, hap, go_sem, Nat.reduceEqDiff, Nat.reduceAdd, Nat.reduceLeDiff, Int.reduceEq, Int.reduceLT, Int.reduceLE, Int.reduceAdd, Int.reduceSub, Int.reduceMul, Int.reduceNeg, Int.reduceToNat, Nat.reduceMul]
      refine hva.int (i := j) (by omega) fun p hpl hp => ?_
      rw [← ga] at hp
      have hpn : p.block < H'.next := by omega
      simp only [hpn, hold p.block hpl, hp, f0, f1, f6, f7, f5, j0, wj, hA, hB, wa, wb, wab, hm, hs, hap, go_sem, Nat.reduceEqDiff, Nat.reduceAdd, Nat.reduceLeDiff, Int.reduceEq, Int.reduceLT, Int.reduceLE, Int.reduceAdd, Int.reduceSub, Int.reduceMul, Int.reduceNeg, Int.reduceToNat, Nat.reduceMul]
      exact ⟨plusN a b - (j + 1), by omega, j + 1, s', hmore, rfl, by simp only [f0, go_sem, Nat.reduceEqDiff, Nat.reduceAdd, Nat.reduceLeDiff, Int.reduceEq, Int.reduceLT, Int.reduceLE, Int.reduceAdd, Int.reduceSub, Int.reduceMul, Int.reduceNeg, Int.reduceToNat, Nat.reduceMul], by simp only [f1, go_sem, Nat.reduceEqDiff, Nat.reduceAdd, Nat.reduceLeDiff, Int.reduceEq, Int.reduceLT, Int.reduceLE, Int.reduceAdd, Int.reduceSub, Int.reduceMul, Int.reduceNeg, Int.reduceToNat, Nat.reduceMul], by simp only [go_sem, Nat.reduceEqDiff, Nat.reduceAdd, Nat.reduceLeDiff, Int.reduceEq, Int.reduceLT, Int.reduceLE, Int.reduceAdd, Int.reduceSub, Int.reduceMul, Int.reduceNeg, Int.reduceToNat, Nat.reduceMul], by simp only [go_sem, Nat.reduceEqDiff, Nat.reduceAdd, Nat.reduceLeDiff, Int.reduceEq, Int.reduceLT, Int.reduceLE, Int.reduceAdd, Int.reduceSub, Int.reduceMul, Int.reduceNeg, Int.reduceToNat, Nat.reduceMul] <;> rfl, by simp only [go_sem, Nat.reduceEqDiff, Nat.reduceAdd, Nat.reduceLeDiff, Int.reduceEq, Int.reduceLT, Int.reduceLE, Int.reduceAdd, Int.reduceSub, Int.reduceMul, Int.reduceNeg, Int.reduceToNat, Nat.reduceMul], ho2, by omega, hl3, hold3⟩
  · by_cases hB : (j : Int) < b.length
    · skip
      have hmore := plus_more hj (by omega) ha hb
      have ga : dig a j = 0 := dig_ge (by omega)
      have gb := dig_lt (l := b) (i := j) (by omega)
      rw [ga, Int.add_zero] at hm hs wab hap
      simp only [f0, f1, f6, f7, f5, j0, wj, hA, hB, wa, wb, wab, hm, hs, hap, go_sem, Nat.reduceEqDiff, Nat.reduceAdd, Nat.reduceLeDiff, Int.reduceEq, Int.reduceLT, Int.reduceLE, Int.reduceAdd, Int.reduceSub, Int.reduceMul, Int.reduceNeg, Int.reduceToNat, Nat.reduceMul]
      refine hvb.int (i := j) (by omega) fun p2 hpl2 hp2 => ?_
      rw [← gb] at hp2
      have hpn2 : p2.block < H'.next := by omega
      simp only [hpn2, hold p2.block hpl2, hp2, f0, f1, f6, f7, f5, j0, wj, hA, hB, wa, wb, wab, hm, hs, hap, go_sem, Nat.reduceEqDiff, Nat.reduceAdd, Nat.reduceLeDiff, Int.reduceEq, Int.reduceLT, Int.reduceLE, Int.reduceAdd, Int.reduceSub, Int.reduceMul, Int.reduceNeg, Int.reduceToNat, Nat.reduceMul]
      exact ⟨plusN a b - (j + 1), by omega, j + 1, s', hmore, rfl, by simp only [f0, go_sem, Nat.reduceEqDiff, Nat.reduceAdd, Nat.reduceLeDiff, Int.reduceEq, Int.reduceLT, Int.reduceLE, Int.reduceAdd, Int.reduceSub, Int.reduceMul, Int.reduceNeg, Int.reduceToNat, Nat.reduceMul], by simp only [f1, go_sem, Nat.reduceEqDiff, Nat.reduceAdd, Nat.reduceLeDiff, Int.reduceEq, Int.reduceLT, Int.reduceLE, Int.reduceAdd, Int.reduceSub, Int.reduceMul, Int.reduceNeg, Int.reduceToNat, Nat.reduceMul], by simp only [go_sem, Nat.reduceEqDiff, Nat.reduceAdd, Nat.reduceLeDiff, Int.reduceEq, Int.reduceLT, Int.reduceLE, Int.reduceAdd, Int.reduceSub, Int.reduceMul, Int.reduceNeg, Int.reduceToNat, Nat.reduceMul], by simp only [go_sem, Nat.reduceEqDiff, Nat.reduceAdd, Nat.reduceLeDiff, Int.reduceEq, Int.reduceLT, Int.reduceLE, Int.reduceAdd, Int.reduceSub, Int.reduceMul, Int.reduceNeg, Int.reduceToNat, Nat.reduceMul] <;> rfl, by simp only [go_sem, Nat.reduceEqDiff, Nat.reduceAdd, Nat.reduceLeDiff, Int.reduceEq, Int.reduceLT, Int.reduceLE, Int.reduceAdd, Int.reduceSub, Int.reduceMul, Int.reduceNeg, Int.reduceToNat, Nat.reduceMul], ho2, by omega, hl3, hold3⟩
    · by_cases hC : 0 < plusC a b j
      · skip
        have hmore := plus_more hj (by omega) ha hb
        have ga : dig a j = 0 := dig_ge (by omega)
        have gb : dig b j = 0 := dig_ge (by omega)
        rw [ga, Int.add_zero] at hm hs wab hap
        rw [gb, Int.add_zero] at hm hs wab hap
        simp only [hC, f0, f1, f6, f7, f5, j0, wj, hA, hB, wa, wb, wab, hm, hs, hap, go_sem, Nat.reduceEqDiff, Nat.reduceAdd, Nat.reduceLeDiff, Int.reduceEq, Int.reduceLT, Int.reduceLE, Int.reduceAdd, Int.reduceSub, Int.reduceMul, Int.reduceNeg, Int.reduceToNat, Nat.reduceMul]
        exact ⟨plusN a b - (j + 1), by omega, j + 1, s', hmore, rfl, by simp only [f0, go_sem, Nat.reduceEqDiff, Nat.reduceAdd, Nat.reduceLeDiff, Int.reduceEq, Int.reduceLT, Int.reduceLE, Int.reduceAdd, Int.reduceSub, Int.reduceMul, Int.reduceNeg, Int.reduceToNat, Nat.reduceMul], by simp only [f1, go_sem, Nat.reduceEqDiff, Nat.reduceAdd, Nat.reduceLeDiff, Int.reduceEq, Int.reduceLT, Int.reduceLE, Int.reduceAdd, Int.reduceSub, Int.reduceMul, Int.reduceNeg, Int.reduceToNat, Nat.reduceMul], by simp only [go_sem, Nat.reduceEqDiff, Nat.reduceAdd, Nat.reduceLeDiff, Int.reduceEq, Int.reduceLT, Int.reduceLE, Int.reduceAdd, Int.reduceSub, Int.reduceMul, Int.reduceNeg, Int.reduceToNat, Nat.reduceMul], by simp only [go_sem, Nat.reduceEqDiff, Nat.reduceAdd, Nat.reduceLeDiff, Int.reduceEq, Int.reduceLT, Int.reduceLE, Int.reduceAdd, Int.reduceSub, Int.reduceMul, Int.reduceNeg, Int.reduceToNat, Nat.reduceMul] <;> rfl, by simp only [go_sem, Nat.reduceEqDiff, Nat.reduceAdd, Nat.reduceLeDiff, Int.reduceEq, Int.reduceLT, Int.reduceLE, Int.reduceAdd, Int.reduceSub, Int.reduceMul, Int.reduceNeg, Int.reduceToNat, Nat.reduceMul], ho2, by omega, hl3, hold3⟩
      · have hje := plus_exit hj (by omega) (by omega) hC
        subst hje
        simp only [f0, f1, f6, f7, f5, hA, hB, hC, go_sem, Nat.reduceEqDiff, Nat.reduceAdd, Nat.reduceLeDiff, Int.reduceEq, Int.reduceLT, Int.reduceLE, Int.reduceAdd, Int.reduceSub, Int.reduceMul, Int.reduceNeg, Int.reduceToNat, Nat.reduceMul]
        rw [back_own ho (Nat.le_refl _) l1 (i64_p1 _)]
        exact hQ
end Go.Proofs.Ytildhljhbbhmmaa.AM
namespace Go.Proofs.Ytildhljhbbhmmaa.AM
open Go
set_option linter.all false
set_option maxRecDepth 10000
variable {tbl : Tbl} [hT : TMono tbl]

/-- The number of digits of 256, the lowest first. -/
def val : List Int → Int
  | [] => 0
  | x :: l => x + 256 * val l
theorem dig_cons_zero {x : Int} {l : List Int} : dig (x :: l) 0 = x := rfl
theorem dig_cons_succ {x : Int} {l : List Int} {i : Nat} : dig (x :: l) (i + 1) = dig l i := by simp [dig]
theorem Dig.tail {x : Int} {l : List Int} (h : Dig (x :: l)) : Dig l := fun i => by
  have := h (i + 1)
  rw [dig_cons_succ] at this
  exact this
theorem val_bound : ∀ {l : List Int}, Dig l → 0 ≤ val l ∧ val l < 256 ^ l.length := by
  intro l
  induction l with
  | nil => intro _; simp [val]
  | cons x l ih =>
    intro h
    have h1 := ih h.tail
    have h0 := h 0
    rw [dig_cons_zero] at h0
    simp only [val, List.length_cons, Int.pow_succ]
    omega
theorem val_set : ∀ {l : List Int} {i : Nat} {x : Int}, i < l.length → val (l.set i x) = val l + (x - dig l i) * 256 ^ i := by
  intro l
  induction l with
  | nil => intro i x h; simp at h
  | cons y l ih =>
    intro i x h
    cases i with
    | zero =>
      simp only [List.set_cons_zero, val, dig_cons_zero, Int.pow_zero, Int.mul_one]
      omega
    | succ i =>
      simp only [List.set_cons_succ, val, dig_cons_succ]
      rw [ih (by simpa using h), Int.pow_succ, Int.mul_add, ← Int.mul_assoc, Int.mul_comm (256 : Int) (x - dig l i), Int.mul_assoc, Int.mul_comm 256 ((256 : Int) ^ i)]
      omega
theorem val_app : ∀ {l r : List Int}, val (l ++ r) = val l + val r * 256 ^ l.length := by
  intro l r
  induction l with
  | nil => simp [val]
  | cons x l ih =>
    simp only [List.cons_append, val, List.length_cons, Int.pow_succ]
    rw [ih, Int.mul_add, ← Int.mul_assoc, Int.mul_comm 256 (val r), Int.mul_assoc, Int.mul_comm 256 ((256 : Int) ^ l.length)]
    omega
theorem take_dig {l : List Int} {i : Nat} (h : i < l.length) : l.take (i + 1) = l.take i ++ [dig l i] := by
  rw [List.take_succ]
  simp [dig, h]
theorem val_take {l : List Int} {i : Nat} (h : i < l.length) : val (l.take (i + 1)) = val (l.take i) + dig l i * 256 ^ i := by
  rw [take_dig h, val_app, List.length_take, Nat.min_eq_left (by omega)]
  simp [val]
theorem val_rep {n : Nat} : val (List.replicate n 0) = 0 := by
  induction n with
  | zero => rfl
  | succ n ih => simp only [List.replicate_succ, val, ih]; rfl
theorem Dig.set {l : List Int} (h : Dig l) {i : Nat} {x : Int} (hx : 0 ≤ x ∧ x ≤ 255) : Dig (l.set i x) := by
  intro j
  have := h j
  simp only [dig, List.getD_eq_getElem?_getD, List.getElem?_set] at *
  split
  · split
    · exact hx
    · simp
  · exact this
theorem Dig.rep {n : Nat} : Dig (List.replicate n 0) := by
  intro j
  have : dig (List.replicate n 0) j = 0 := by
    simp only [dig, List.getD_eq_getElem?_getD, List.getElem?_replicate]
    split <;> rfl
  omega
theorem Dig.take {l : List Int} (h : Dig l) (n : Nat) : Dig (l.take n) := by
  intro j
  have := h j
  simp only [dig, List.getD_eq_getElem?_getD, List.getElem?_take] at *
  split
  · exact this
  · simp
theorem dgs_Dig {l : List UInt8} : Dig (dgs l) := by
  intro j
  simp only [dig, dgs, List.getD_eq_getElem?_getD, List.getElem?_map]
  cases l[j]? with
  | none => simp
  | some b =>
    have := b.toNat_lt
    simp only [Option.map_some, Option.getD_some]
    omega
/-- What plus makes is the sum. -/
theorem val_plusR {a b : List Int} : ∀ n, val ((List.range n).map (pd a b)) + plusC a b n * 256 ^ n = val ((List.range n).map (dig a)) + val ((List.range n).map (dig b)) := by
  intro n
  induction n with
  | zero => simp [val, plusC]
  | succ n ih =>
    simp only [map_range_succ, val_app, List.length_map, List.length_range, plusC, Int.pow_succ]
    have e : pd a b n + 256 * ((plusC a b n + dig a n + dig b n) / 256) = plusC a b n + dig a n + dig b n := by unfold pd; omega
    simp only [val, Int.mul_zero, Int.add_zero]
    have e2 : pd a b n * 256 ^ n + (plusC a b n + dig a n + dig b n) / 256 * (256 ^ n * 256) = (plusC a b n + dig a n + dig b n) * 256 ^ n := by
      rw [← e, Int.add_mul]
      congr 1
      rw [Int.mul_comm ((256 : Int) ^ n) 256, ← Int.mul_assoc, Int.mul_comm _ 256, e]
    rw [Int.add_mul, Int.add_mul] at e2
    omega
theorem range_dig : ∀ {l : List Int} {n : Nat}, l.length ≤ n → val ((List.range n).map (dig l)) = val l := by
  intro l n h
  have : (List.range n).map (dig l) = l ++ List.replicate (n - l.length) 0 := by
    apply List.ext_getElem
    · simp; omega
    · intro i h1 h2
      simp only [List.getElem_map, List.getElem_range]
      by_cases hi : i < l.length
      · rw [List.getElem_append_left hi, dig_lt hi]
      · rw [List.getElem_append_right (by omega), dig_ge hi, List.getElem_replicate]
  rw [this, val_app, val_rep, Int.zero_mul, Int.add_zero]
theorem val_plus {a b : List Int} (ha : Dig a) (hb : Dig b) : val (plusL a b) = val a + val b := by
  have h := val_plusR (a := a) (b := b) (plusN a b)
  have hM : plusM a b ≤ plusN a b := by unfold plusN; split <;> omega
  have hc : plusC a b (plusN a b) = 0 := by
    have hr := plusC_range ha hb (plusM a b)
    have hm : plusM a b = max a.length b.length := rfl
    unfold plusN
    split
    · simp only [plusC]
      rw [dig_ge (by omega), dig_ge (by omega)]
      omega
    · omega
  rw [hc, Int.zero_mul, Int.add_zero, range_dig (by unfold plusM at hM; omega), range_dig (by unfold plusM at hM; omega)] at h
  exact h
theorem plusL_Dig {a b : List Int} : Dig (plusL a b) := by
  intro j
  simp only [plusL, dig, List.getD_eq_getElem?_getD, List.getElem?_map]
  cases (List.range (plusN a b))[j]? with
  | none => simp
  | some i =>
    simp only [Option.map_some, Option.getD_some, pd]
    omega
theorem plusL_len {a b : List Int} : (plusL a b).length = plusN a b := by simp [plusL]
end Go.Proofs.Ytildhljhbbhmmaa.AM
namespace Go.Proofs.Ytildhljhbbhmmaa.AM
open Go
set_option linter.all false
set_option maxRecDepth 10000
variable {tbl : Tbl} [hT : TMono tbl]

theorem rep_row {n : Nat} : rep n [Value.int .i64 0] = (List.replicate n (0 : Int)).map (Value.int .i64) := by
  simp [rep]
structure MSt (H H' : AH) (a b o : List Int) : Prop where
  nx : H'.next = H.next + 1
  low : H.next ≤ H'.low
  old : ∀ id, id < H.next → H'.get id = H.get id
  g : H'.get H.next = some (row .i64 o)
  len : o.length = a.length + b.length + 1
  dg : Dig o
theorem MSt.turn {H H' : AH} {a b o : List Int} (st : MSt H H' a b o) {i : Nat} {x : Int} (hx : 0 ≤ x ∧ x ≤ 255) : MSt H (H'.set H.next (some (row .i64 (o.set i x)))) a b (o.set i x) := by
  have := st.nx
  have := st.low
  exact ⟨by rw [AH.next_set]; exact st.nx, by rw [lw_set]; omega, fun id hid => by rw [AH.get_set_ne _ _ (by omega)]; exact st.old id hid, AH.get_set_eq _ _ (by omega), by rw [List.length_set]; exact st.len, st.dg.set hx⟩
theorem mul_step {V d x y c P Pi Pj B v r q : Int} (hP : P = Pi * Pj) (hs : r + 256 * q = d + x * y + c) (E : v + c * P = V + x * B * Pi) : v + (r - d) * P + q * (P * 256) = V + x * (B + y * Pj) * Pi := by
  have h1 : (r - d) * P + q * (P * 256) = (x * y + c) * P := by
    rw [Int.mul_comm P 256, ← Int.mul_assoc, ← Int.add_mul]
    congr 1
    omega
  have h2 : x * (B + y * Pj) * Pi = x * B * Pi + x * y * P := by
    rw [hP, Int.mul_add, Int.add_mul, Int.mul_comm Pi Pj]
    simp only [Int.mul_assoc]
  rw [Int.add_mul] at h1
  omega
/-- What the product gives. -/
theorem v67 (h67 : tbl 67 = some (.code m67)) (a b : List Int) (ha : Dig a) (hb : Dig b) (hla : a.length ≤ 1000) (hlb : b.length ≤ 1000) {va vb : Value} {H : AH} (hva : Sl H 1 va a.length (a.map I64)) (hvb : Sl H 1 vb b.length (b.map I64)) : ∃ o : List Int, Dig o ∧ o.length = a.length + b.length + 1 ∧ val o = val a * val b ∧ Val tbl 67 [va, vb] H (mkS H o.length) (mkH H 1 o.length (o.map I64)) := by
  have key : ∀ Q : Value → AH → Prop, (∀ o : List Int, Dig o → o.length = a.length + b.length + 1 → val o = val a * val b → Q (mkS H o.length) (mkH H 1 o.length (o.map I64))) → (@RunF tbl 67 [va, vb] H ⟨Q⟩) := by
    intro Q hQ
    rw [rn_fun h67, k67]
    obtain ⟨pa, ca, ea⟩ := hva.shape
    obtain ⟨pb, cb, eb⟩ := hvb.shape
    have w1 := w64 (x := (a.length : Int) + b.length) (by omega) (by omega)
    have w2 := w64 (x := (a.length : Int) + b.length + 1) (by omega) (by omega)
    have c0 : (0 : Int) ≤ (a.length : Int) + b.length + 1 := by omega
    have c1 : (a.length : Int) + b.length + 1 ≤ 9223372036854775807 := by omega
    have tn : ((a.length : Int) + b.length + 1).toNat = a.length + b.length + 1 := by omega
    have c2 : (a.length + b.length + 1) * 8 ≤ 140737488355328 := by omega
    subst ea eb
    simp only [w1, w2, c0, c1, c2, tn, Int.le_refl, rep_row, go_sem, Nat.reduceEqDiff, Nat.reduceAdd, Nat.reduceLeDiff, Int.reduceEq, Int.reduceLT, Int.reduceLE, Int.reduceAdd, Int.reduceSub, Int.reduceMul, Int.reduceNeg, Int.reduceToNat, Nat.reduceMul]
    have hst0 : MSt H (H.enter.push (row .i64 (List.replicate (a.length + b.length + 1) 0))) a b (List.replicate (a.length + b.length + 1) 0) := by
      refine ⟨by rw [AH.next_push, nx_enter], by rw [lw_push, lw_enter]; omega, fun id hid => AH.get_push_lt _ _ (by rw [nx_enter]; omega), AH.get_push_eq H.enter _, by simp, Dig.rep⟩
    refine rn_loop (fun m f H' => ∃ (i : Nat) (o : List Int), i ≤ a.length ∧ m = a.length - i ∧ f 0 = .slice pa a.length ca ∧ f 1 = .slice pb b.length cb ∧ f 5 = .slice (some ⟨H.next, 0, none⟩) (a.length + b.length + 1) (a.length + b.length + 1) ∧ f 21 = .slice pa a.length ca ∧ f 22 = .int .i64 a.length ∧ f 23 = .int .i64 i ∧ MSt H H' a b o ∧ val o = val (a.take i) * val b) ?_ (n := a.length)
      ⟨0, List.replicate (a.length + b.length + 1) 0, by omega, by omega, by simp only [go_sem, Nat.reduceEqDiff, Nat.reduceAdd, Nat.reduceLeDiff, Int.reduceEq, Int.reduceLT, Int.reduceLE, Int.reduceAdd, Int.reduceSub, Int.reduceMul, Int.reduceNeg, Int.reduceToNat, Nat.reduceMul], by simp only [go_sem, Nat.reduceEqDiff, Nat.reduceAdd, Nat.reduceLeDiff, Int.reduceEq, Int.reduceLT, Int.reduceLE, Int.reduceAdd, Int.reduceSub, Int.reduceMul, Int.reduceNeg, Int.reduceToNat, Nat.reduceMul], by simp only [go_sem, Nat.reduceEqDiff, Nat.reduceAdd, Nat.reduceLeDiff, Int.reduceEq, Int.reduceLT, Int.reduceLE, Int.reduceAdd, Int.reduceSub, Int.reduceMul, Int.reduceNeg, Int.reduceToNat, Nat.reduceMul], by simp only [go_sem, Nat.reduceEqDiff, Nat.reduceAdd, Nat.reduceLeDiff, Int.reduceEq, Int.reduceLT, Int.reduceLE, Int.reduceAdd, Int.reduceSub, Int.reduceMul, Int.reduceNeg, Int.reduceToNat, Nat.reduceMul], by simp only [go_sem, Nat.reduceEqDiff, Nat.reduceAdd, Nat.reduceLeDiff, Int.reduceEq, Int.reduceLT, Int.reduceLE, Int.reduceAdd, Int.reduceSub, Int.reduceMul, Int.reduceNeg, Int.reduceToNat, Nat.reduceMul], by simp only [go_sem, Nat.reduceEqDiff, Nat.reduceAdd, Nat.reduceLeDiff, Int.reduceEq, Int.reduceLT, Int.reduceLE, Int.reduceAdd, Int.reduceSub, Int.reduceMul, Int.reduceNeg, Int.reduceToNat, Nat.reduceMul] <;> rfl, hst0, by rw [val_rep, List.take_zero, val, Int.zero_mul]⟩
    rintro m f H' ⟨i, o, hi, rfl, f0, f1, f5, f21, f22, f23, st, hv⟩
    by_cases hlt : (i : Int) < a.length
    · have i0 : (0 : Int) ≤ i := by omega
      have wi := w64 (x := (i : Int) + 1) (by omega) (by omega)
      have wk := w64 (x := (i : Int) + b.length) (by omega) (by omega)
      simp only [f0, f1, f5, f21, f22, f23, hlt, i0, go_sem, Nat.reduceEqDiff, Nat.reduceAdd, Nat.reduceLeDiff, Int.reduceEq, Int.reduceLT, Int.reduceLE, Int.reduceAdd, Int.reduceSub, Int.reduceMul, Int.reduceNeg, Int.reduceToNat, Nat.reduceMul]
      refine hva.int (i := i) (by omega) fun p hpl hp => ?_
      have gx := dig_lt (l := a) (i := i) (by omega)
      rw [← gx] at hp
      have hx := ha i
      have nx := st.nx
      have hpn : p.block < H.next + 1 := by omega
      have hold := st.old
      have hpo := hold p.block hpl
      simp only [nx, hpn, hpo, hp, f0, f1, f5, f21, f22, f23, go_sem, Nat.reduceEqDiff, Nat.reduceAdd, Nat.reduceLeDiff, Int.reduceEq, Int.reduceLT, Int.reduceLE, Int.reduceAdd, Int.reduceSub, Int.reduceMul, Int.reduceNeg, Int.reduceToNat, Nat.reduceMul]
      refine rn_loop (fun m f H' => ∃ (j : Nat) (o : List Int) (c : Int), j ≤ b.length ∧ m = b.length - j ∧ f 0 = .slice pa a.length ca ∧ f 1 = .slice pb b.length cb ∧ f 5 = .slice (some ⟨H.next, 0, none⟩) (a.length + b.length + 1) (a.length + b.length + 1) ∧ f 21 = .slice pa a.length ca ∧ f 22 = .int .i64 a.length ∧ f 23 = .int .i64 i ∧ f 6 = .int .i64 i ∧ f 7 = .int .i64 (dig a i) ∧ f 8 = .int .i64 c ∧ f 28 = .slice pb b.length cb ∧ f 29 = .int .i64 b.length ∧ f 30 = .int .i64 j ∧ 0 ≤ c ∧ c ≤ 255 ∧ MSt H H' a b o ∧ val o + c * 256 ^ (i + j) = val (a.take i) * val b + dig a i * val (b.take j) * 256 ^ i) ?_ (n := b.length)
        ⟨0, o, 0, by omega, by omega, by simp only [f0, go_sem, Nat.reduceEqDiff, Nat.reduceAdd, Nat.reduceLeDiff, Int.reduceEq, Int.reduceLT, Int.reduceLE, Int.reduceAdd, Int.reduceSub, Int.reduceMul, Int.reduceNeg, Int.reduceToNat, Nat.reduceMul], by simp only [f1, go_sem, Nat.reduceEqDiff, Nat.reduceAdd, Nat.reduceLeDiff, Int.reduceEq, Int.reduceLT, Int.reduceLE, Int.reduceAdd, Int.reduceSub, Int.reduceMul, Int.reduceNeg, Int.reduceToNat, Nat.reduceMul], by simp only [f5, go_sem, Nat.reduceEqDiff, Nat.reduceAdd, Nat.reduceLeDiff, Int.reduceEq, Int.reduceLT, Int.reduceLE, Int.reduceAdd, Int.reduceSub, Int.reduceMul, Int.reduceNeg, Int.reduceToNat, Nat.reduceMul], by simp only [f21, go_sem, Nat.reduceEqDiff, Nat.reduceAdd, Nat.reduceLeDiff, Int.reduceEq, Int.reduceLT, Int.reduceLE, Int.reduceAdd, Int.reduceSub, Int.reduceMul, Int.reduceNeg, Int.reduceToNat, Nat.reduceMul], by simp only [f22, go_sem, Nat.reduceEqDiff, Nat.reduceAdd, Nat.reduceLeDiff, Int.reduceEq, Int.reduceLT, Int.reduceLE, Int.reduceAdd, Int.reduceSub, Int.reduceMul, Int.reduceNeg, Int.reduceToNat, Nat.reduceMul], by simp only [f23, go_sem, Nat.reduceEqDiff, Nat.reduceAdd, Nat.reduceLeDiff, Int.reduceEq, Int.reduceLT, Int.reduceLE, Int.reduceAdd, Int.reduceSub, Int.reduceMul, Int.reduceNeg, Int.reduceToNat, Nat.reduceMul], by simp only [go_sem, Nat.reduceEqDiff, Nat.reduceAdd, Nat.reduceLeDiff, Int.reduceEq, Int.reduceLT, Int.reduceLE, Int.reduceAdd, Int.reduceSub, Int.reduceMul, Int.reduceNeg, Int.reduceToNat, Nat.reduceMul], by simp only [go_sem, Nat.reduceEqDiff, Nat.reduceAdd, Nat.reduceLeDiff, Int.reduceEq, Int.reduceLT, Int.reduceLE, Int.reduceAdd, Int.reduceSub, Int.reduceMul, Int.reduceNeg, Int.reduceToNat, Nat.reduceMul], by simp only [go_sem, Nat.reduceEqDiff, Nat.reduceAdd, Nat.reduceLeDiff, Int.reduceEq, Int.reduceLT, Int.reduceLE, Int.reduceAdd, Int.reduceSub, Int.reduceMul, Int.reduceNeg, Int.reduceToNat, Nat.reduceMul] <;> rfl, by simp only [go_sem, Nat.reduceEqDiff, Nat.reduceAdd, Nat.reduceLeDiff, Int.reduceEq, Int.reduceLT, Int.reduceLE, Int.reduceAdd, Int.reduceSub, Int.reduceMul, Int.reduceNeg, Int.reduceToNat, Nat.reduceMul], by simp only [go_sem, Nat.reduceEqDiff, Nat.reduceAdd, Nat.reduceLeDiff, Int.reduceEq, Int.reduceLT, Int.reduceLE, Int.reduceAdd, Int.reduceSub, Int.reduceMul, Int.reduceNeg, Int.reduceToNat, Nat.reduceMul], by simp only [go_sem, Nat.reduceEqDiff, Nat.reduceAdd, Nat.reduceLeDiff, Int.reduceEq, Int.reduceLT, Int.reduceLE, Int.reduceAdd, Int.reduceSub, Int.reduceMul, Int.reduceNeg, Int.reduceToNat, Nat.reduceMul] <;> rfl, by omega, by omega, st, by rw [hv, List.take_zero, val, Int.mul_zero, Int.zero_mul, Int.zero_mul]⟩
      clear st hv hpo hold f0 f1 f5 f21 f22 f23 nx hpn
      rintro m f H' ⟨j, o, c, hj, rfl, f0, f1, f5, f21, f22, f23, f6, f7, f8, f28, f29, f30, c0', c255, st, hv⟩
      have nx := st.nx
      have hold := st.old
      have hg := st.g
      have hol := st.len
      by_cases hlj : (j : Int) < b.length
      · have j0 : (0 : Int) ≤ j := by omega
        have wj := w64 (x := (j : Int) + 1) (by omega) (by omega)
        have wij := w64 (x := (i : Int) + j) (by omega) (by omega)
        simp only [f0, f1, f5, f6, f7, f8, f21, f22, f23, f28, f29, f30, hlj, j0, go_sem, Nat.reduceEqDiff, Nat.reduceAdd, Nat.reduceLeDiff, Int.reduceEq, Int.reduceLT, Int.reduceLE, Int.reduceAdd, Int.reduceSub, Int.reduceMul, Int.reduceNeg, Int.reduceToNat, Nat.reduceMul]
        refine hvb.int (i := j) (by omega) fun p2 hpl2 hp2 => ?_
        have gy := dig_lt (l := b) (i := j) (by omega)
        rw [← gy] at hp2
        have hy := hb j
        have hpn : p2.block < H.next + 1 := by omega
        have hpo := hold p2.block hpl2
        have hxy0 : 0 ≤ dig a i * dig b j := Int.mul_nonneg hx.1 hy.1
        have hxy1 : dig a i * dig b j ≤ 255 * 255 := Int.mul_le_mul hx.2 hy.2 hy.1 (by omega)
        have hd := st.dg (i + j)
        have hgd : gw o (i + j) = dig o (i + j) := rfl
        have wm := w64 (x := dig a i * dig b j) (by omega) (by omega)
        have ws1 := w64 (x := dig o (i + j) + dig a i * dig b j) (by omega) (by omega)
        have ws2 := w64 (x := dig o (i + j) + dig a i * dig b j + c) (by omega) (by omega)
        have hm := and255 (x := dig o (i + j) + dig a i * dig b j + c) (by omega)
        have hs := shr8 (x := dig o (i + j) + dig a i * dig b j + c)
        have hij0 : (0 : Int) ≤ (i : Int) + j := by omega
        have hij1 : (i : Int) + j < ((a.length + b.length + 1 : Nat) : Int) := by omega
        have tij : ((i : Int) + j).toNat = i + j := by omega
        have hra := row_at (k := .i64) (x := o) (i := i + j) (by omega)
        have hle : i + j + 1 ≤ a.length + b.length + 1 := by omega
        have hnn : H.next < H.next + 1 := by omega
        simp only [nx, hpn, hpo, hp2, hg, hol, hnn, hle, wij, wj, wm, ws1, ws2, hm, hs, hij0, hij1, tij, hra, hgd, row_len, row_ro, row_es, f0, f1, f5, f6, f7, f8, f21, f22, f23, f28, f29, f30, idxSP_slc, stc_eq, stB_some, splice_one, row_set, addA, Nat.zero_add, Nat.mul_one, go_sem, Nat.reduceEqDiff, Nat.reduceAdd, Nat.reduceLeDiff, Int.reduceEq, Int.reduceLT, Int.reduceLE, Int.reduceAdd, Int.reduceSub, Int.reduceMul, Int.reduceNeg, Int.reduceToNat, Nat.reduceMul]
        have hvs := val_set (l := o) (i := i + j) (x := (dig o (i + j) + dig a i * dig b j + c) % 256) (by omega)
        refine ⟨b.length - (j + 1), by omega, j + 1, o.set (i + j) ((dig o (i + j) + dig a i * dig b j + c) % 256), (dig o (i + j) + dig a i * dig b j + c) / 256, by omega, rfl, by simp only [f0, go_sem, Nat.reduceEqDiff, Nat.reduceAdd, Nat.reduceLeDiff, Int.reduceEq, Int.reduceLT, Int.reduceLE, Int.reduceAdd, Int.reduceSub, Int.reduceMul, Int.reduceNeg, Int.reduceToNat, Nat.reduceMul], by simp only [f1, go_sem, Nat.reduceEqDiff, Nat.reduceAdd, Nat.reduceLeDiff, Int.reduceEq, Int.reduceLT, Int.reduceLE, Int.reduceAdd, Int.reduceSub, Int.reduceMul, Int.reduceNeg, Int.reduceToNat, Nat.reduceMul], by simp only [f5, go_sem, Nat.reduceEqDiff, Nat.reduceAdd, Nat.reduceLeDiff, Int.reduceEq, Int.reduceLT, Int.reduceLE, Int.reduceAdd, Int.reduceSub, Int.reduceMul, Int.reduceNeg, Int.reduceToNat, Nat.reduceMul], by simp only [f21, go_sem, Nat.reduceEqDiff, Nat.reduceAdd, Nat.reduceLeDiff, Int.reduceEq, Int.reduceLT, Int.reduceLE, Int.reduceAdd, Int.reduceSub, Int.reduceMul, Int.reduceNeg, Int.reduceToNat, Nat.reduceMul], by simp only [f22, go_sem, Nat.reduceEqDiff, Nat.reduceAdd, Nat.reduceLeDiff, Int.reduceEq, Int.reduceLT, Int.reduceLE, Int.reduceAdd, Int.reduceSub, Int.reduceMul, Int.reduceNeg, Int.reduceToNat, Nat.reduceMul], by simp only [f23, go_sem, Nat.reduceEqDiff, Nat.reduceAdd, Nat.reduceLeDiff, Int.reduceEq, Int.reduceLT, Int.reduceLE, Int.reduceAdd, Int.reduceSub, Int.reduceMul, Int.reduceNeg, Int.reduceToNat, Nat.reduceMul], by simp only [f6, go_sem, Nat.reduceEqDiff, Nat.reduceAdd, Nat.reduceLeDiff, Int.reduceEq, Int.reduceLT, Int.reduceLE, Int.reduceAdd, Int.reduceSub, Int.reduceMul, Int.reduceNeg, Int.reduceToNat, Nat.reduceMul], by simp only [f7, go_sem, Nat.reduceEqDiff, Nat.reduceAdd, Nat.reduceLeDiff, Int.reduceEq, Int.reduceLT, Int.reduceLE, Int.reduceAdd, Int.reduceSub, Int.reduceMul, Int.reduceNeg, Int.reduceToNat, Nat.reduceMul], by simp only [go_sem, Nat.reduceEqDiff, Nat.reduceAdd, Nat.reduceLeDiff, Int.reduceEq, Int.reduceLT, Int.reduceLE, Int.reduceAdd, Int.reduceSub, Int.reduceMul, Int.reduceNeg, Int.reduceToNat, Nat.reduceMul], by simp only [f28, go_sem, Nat.reduceEqDiff, Nat.reduceAdd, Nat.reduceLeDiff, Int.reduceEq, Int.reduceLT, Int.reduceLE, Int.reduceAdd, Int.reduceSub, Int.reduceMul, Int.reduceNeg, Int.reduceToNat, Nat.reduceMul], by simp only [f29, go_sem, Nat.reduceEqDiff, Nat.reduceAdd, Nat.reduceLeDiff, Int.reduceEq, Int.reduceLT, Int.reduceLE, Int.reduceAdd, Int.reduceSub, Int.reduceMul, Int.reduceNeg, Int.reduceToNat, Nat.reduceMul], by simp only [go_sem, Nat.reduceEqDiff, Nat.reduceAdd, Nat.reduceLeDiff, Int.reduceEq, Int.reduceLT, Int.reduceLE, Int.reduceAdd, Int.reduceSub, Int.reduceMul, Int.reduceNeg, Int.reduceToNat, Nat.reduceMul] <;> rfl, by omega, by omega, st.turn (by omega), ?_⟩
        rw [hvs, val_take (by omega), ← Nat.add_assoc, Int.pow_succ]
        exact mul_step (Int.pow_add _ _ _) (by omega) hv
      · have hje : j = b.length := by omega
        subst hje
        have hT : val (a.take i) * val b + dig a i * val (b.take b.length) * 256 ^ i = val (a.take (i + 1)) * val b := by
          rw [List.take_length, val_take (by omega), Int.add_mul, Int.mul_assoc, Int.mul_comm (val b), ← Int.mul_assoc]
        rw [hT] at hv
        have hB : val (a.take (i + 1)) * val b < 256 ^ (i + b.length + 1) := by
          have h1 := val_bound (ha.take (i + 1))
          have h2 := val_bound hb
          rw [List.length_take, Nat.min_eq_left (by omega)] at h1
          have h3 : val (a.take (i + 1)) * val b ≤ 256 ^ (i + 1) * val b := Int.mul_le_mul_of_nonneg_right (by omega) h2.1
          have h4 : (256 : Int) ^ (i + 1) * val b < 256 ^ (i + 1) * 256 ^ b.length := Int.mul_lt_mul_of_pos_left h2.2 (Int.pow_pos (by omega))
          rw [← Int.pow_add, show i + 1 + b.length = i + b.length + 1 by omega] at h4
          omega
        simp only [wk, f0, f1, f5, f6, f7, f8, f21, f22, f23, f28, f29, f30, hlj, go_sem, Nat.reduceEqDiff, Nat.reduceAdd, Nat.reduceLeDiff, Int.reduceEq, Int.reduceLT, Int.reduceLE, Int.reduceAdd, Int.reduceSub, Int.reduceMul, Int.reduceNeg, Int.reduceToNat, Nat.reduceMul]
        refine rn_loop (fun m f H' => ∃ (k : Nat) (o : List Int) (c : Int), i + b.length ≤ k ∧ k ≤ i + b.length + 1 ∧ m = i + b.length + 1 - k ∧ f 0 = .slice pa a.length ca ∧ f 1 = .slice pb b.length cb ∧ f 5 = .slice (some ⟨H.next, 0, none⟩) (a.length + b.length + 1) (a.length + b.length + 1) ∧ f 21 = .slice pa a.length ca ∧ f 22 = .int .i64 a.length ∧ f 23 = .int .i64 i ∧ f 8 = .int .i64 c ∧ f 12 = .int .i64 k ∧ 0 ≤ c ∧ c ≤ 255 ∧ MSt H H' a b o ∧ val o + c * 256 ^ k = val (a.take (i + 1)) * val b) ?_ (n := i + b.length + 1 - (i + b.length))
          ⟨i + b.length, o, c, by omega, by omega, by omega, by simp only [f0, go_sem, Nat.reduceEqDiff, Nat.reduceAdd, Nat.reduceLeDiff, Int.reduceEq, Int.reduceLT, Int.reduceLE, Int.reduceAdd, Int.reduceSub, Int.reduceMul, Int.reduceNeg, Int.reduceToNat, Nat.reduceMul], by simp only [f1, go_sem, Nat.reduceEqDiff, Nat.reduceAdd, Nat.reduceLeDiff, Int.reduceEq, Int.reduceLT, Int.reduceLE, Int.reduceAdd, Int.reduceSub, Int.reduceMul, Int.reduceNeg, Int.reduceToNat, Nat.reduceMul], by simp only [f5, go_sem, Nat.reduceEqDiff, Nat.reduceAdd, Nat.reduceLeDiff, Int.reduceEq, Int.reduceLT, Int.reduceLE, Int.reduceAdd, Int.reduceSub, Int.reduceMul, Int.reduceNeg, Int.reduceToNat, Nat.reduceMul], by simp only [f21, go_sem, Nat.reduceEqDiff, Nat.reduceAdd, Nat.reduceLeDiff, Int.reduceEq, Int.reduceLT, Int.reduceLE, Int.reduceAdd, Int.reduceSub, Int.reduceMul, Int.reduceNeg, Int.reduceToNat, Nat.reduceMul], by simp only [f22, go_sem, Nat.reduceEqDiff, Nat.reduceAdd, Nat.reduceLeDiff, Int.reduceEq, Int.reduceLT, Int.reduceLE, Int.reduceAdd, Int.reduceSub, Int.reduceMul, Int.reduceNeg, Int.reduceToNat, Nat.reduceMul], by simp only [f23, go_sem, Nat.reduceEqDiff, Nat.reduceAdd, Nat.reduceLeDiff, Int.reduceEq, Int.reduceLT, Int.reduceLE, Int.reduceAdd, Int.reduceSub, Int.reduceMul, Int.reduceNeg, Int.reduceToNat, Nat.reduceMul], by simp only [f8, go_sem, Nat.reduceEqDiff, Nat.reduceAdd, Nat.reduceLeDiff, Int.reduceEq, Int.reduceLT, Int.reduceLE, Int.reduceAdd, Int.reduceSub, Int.reduceMul, Int.reduceNeg, Int.reduceToNat, Nat.reduceMul], by simp only [go_sem, Nat.reduceEqDiff, Nat.reduceAdd, Nat.reduceLeDiff, Int.reduceEq, Int.reduceLT, Int.reduceLE, Int.reduceAdd, Int.reduceSub, Int.reduceMul, Int.reduceNeg, Int.reduceToNat, Nat.reduceMul] <;> rfl, by omega, by omega, st, hv⟩
        clear st hv hold hg hol nx f0 f1 f5 f21 f22 f23 f6 f7 f8 f28 f29 f30 c0' c255
        rintro m f H' ⟨k, o, c, hk1, hk2, rfl, f0, f1, f5, f21, f22, f23, f8, f12, c0', c255, st, hv⟩
        have nx := st.nx
        have hg := st.g
        have hol := st.len
        have hvo := val_bound st.dg
        by_cases hc : 0 < c
        · have hk3 : k ≤ i + b.length := by
            by_cases he : k = i + b.length + 1
            · exfalso
              rw [he] at hv
              have : (256 : Int) ^ (i + b.length + 1) ≤ c * 256 ^ (i + b.length + 1) := by
                have := Int.mul_le_mul_of_nonneg_right (show (1 : Int) ≤ c by omega) (Int.le_of_lt (Int.pow_pos (m := i + b.length + 1) (show (0 : Int) < 256 by omega)))
                rwa [Int.one_mul] at this
              omega
            · omega
          have hd := st.dg k
          have hgd : gw o k = dig o k := rfl
          have k0 : (0 : Int) ≤ k := by omega
          have k1 : (k : Int) < ((a.length + b.length + 1 : Nat) : Int) := by omega
          have hle : k + 1 ≤ a.length + b.length + 1 := by omega
          have hnn : H.next < H.next + 1 := by omega
          have wk1 := w64 (x := (k : Int) + 1) (by omega) (by omega)
          have ws := w64 (x := dig o k + c) (by omega) (by omega)
          have hm := and255 (x := dig o k + c) (by omega)
          have hs := shr8 (x := dig o k + c)
          have hra := row_at (k := .i64) (x := o) (i := k) (by omega)
          simp only [nx, hg, hol, hnn, hle, hc, wk1, ws, hm, hs, k0, k1, hra, hgd, row_len, row_ro, row_es, f0, f1, f5, f8, f12, f21, f22, f23, idxSP_slc, stc_eq, stB_some, splice_one, row_set, addA, Int.toNat_natCast, Nat.zero_add, Nat.mul_one, go_sem, Nat.reduceEqDiff, Nat.reduceAdd, Nat.reduceLeDiff, Int.reduceEq, Int.reduceLT, Int.reduceLE, Int.reduceAdd, Int.reduceSub, Int.reduceMul, Int.reduceNeg, Int.reduceToNat, Nat.reduceMul]
          have hvs := val_set (l := o) (i := k) (x := (dig o k + c) % 256) (by omega)
          refine ⟨i + b.length + 1 - (k + 1), by omega, k + 1, o.set k ((dig o k + c) % 256), (dig o k + c) / 256, by omega, by omega, rfl, by simp only [f0, go_sem, Nat.reduceEqDiff, Nat.reduceAdd, Nat.reduceLeDiff, Int.reduceEq, Int.reduceLT, Int.reduceLE, Int.reduceAdd, Int.reduceSub, Int.reduceMul, Int.reduceNeg, Int.reduceToNat, Nat.reduceMul], by simp only [f1, go_sem, Nat.reduceEqDiff, Nat.reduceAdd, Nat.reduceLeDiff, Int.reduceEq, Int.reduceLT, Int.reduceLE, Int.reduceAdd, Int.reduceSub, Int.reduceMul, Int.reduceNeg, Int.reduceToNat, Nat.reduceMul], by simp only [f5, go_sem, Nat.reduceEqDiff, Nat.reduceAdd, Nat.reduceLeDiff, Int.reduceEq, Int.reduceLT, Int.reduceLE, Int.reduceAdd, Int.reduceSub, Int.reduceMul, Int.reduceNeg, Int.reduceToNat, Nat.reduceMul], by simp only [f21, go_sem, Nat.reduceEqDiff, Nat.reduceAdd, Nat.reduceLeDiff, Int.reduceEq, Int.reduceLT, Int.reduceLE, Int.reduceAdd, Int.reduceSub, Int.reduceMul, Int.reduceNeg, Int.reduceToNat, Nat.reduceMul], by simp only [f22, go_sem, Nat.reduceEqDiff, Nat.reduceAdd, Nat.reduceLeDiff, Int.reduceEq, Int.reduceLT, Int.reduceLE, Int.reduceAdd, Int.reduceSub, Int.reduceMul, Int.reduceNeg, Int.reduceToNat, Nat.reduceMul], by simp only [f23, go_sem, Nat.reduceEqDiff, Nat.reduceAdd, Nat.reduceLeDiff, Int.reduceEq, Int.reduceLT, Int.reduceLE, Int.reduceAdd, Int.reduceSub, Int.reduceMul, Int.reduceNeg, Int.reduceToNat, Nat.reduceMul], by simp only [go_sem, Nat.reduceEqDiff, Nat.reduceAdd, Nat.reduceLeDiff, Int.reduceEq, Int.reduceLT, Int.reduceLE, Int.reduceAdd, Int.reduceSub, Int.reduceMul, Int.reduceNeg, Int.reduceToNat, Nat.reduceMul], by simp only [go_sem, Nat.reduceEqDiff, Nat.reduceAdd, Nat.reduceLeDiff, Int.reduceEq, Int.reduceLT, Int.reduceLE, Int.reduceAdd, Int.reduceSub, Int.reduceMul, Int.reduceNeg, Int.reduceToNat, Nat.reduceMul] <;> rfl, by omega, by omega, st.turn (by omega), ?_⟩
          rw [hvs, Int.pow_succ, ← hv]
          have h1 : ((dig o k + c) % 256 - dig o k) * 256 ^ k + (dig o k + c) / 256 * (256 ^ k * 256) = c * 256 ^ k := by
            rw [Int.mul_comm ((256 : Int) ^ k) 256, ← Int.mul_assoc, ← Int.add_mul]
            congr 1
            omega
          omega
        · have hc0 : c = 0 := by omega
          rw [hc0, Int.zero_mul, Int.add_zero] at hv
          simp only [hc, wi, f0, f1, f5, f8, f12, f21, f22, f23, go_sem, Nat.reduceEqDiff, Nat.reduceAdd, Nat.reduceLeDiff, Int.reduceEq, Int.reduceLT, Int.reduceLE, Int.reduceAdd, Int.reduceSub, Int.reduceMul, Int.reduceNeg, Int.reduceToNat, Nat.reduceMul]
          exact ⟨a.length - (i + 1), by omega, i + 1, o, by omega, rfl, by simp only [f0, go_sem, Nat.reduceEqDiff, Nat.reduceAdd, Nat.reduceLeDiff, Int.reduceEq, Int.reduceLT, Int.reduceLE, Int.reduceAdd, Int.reduceSub, Int.reduceMul, Int.reduceNeg, Int.reduceToNat, Nat.reduceMul], by simp only [f1, go_sem, Nat.reduceEqDiff, Nat.reduceAdd, Nat.reduceLeDiff, Int.reduceEq, Int.reduceLT, Int.reduceLE, Int.reduceAdd, Int.reduceSub, Int.reduceMul, Int.reduceNeg, Int.reduceToNat, Nat.reduceMul], by simp only [f5, go_sem, Nat.reduceEqDiff, Nat.reduceAdd, Nat.reduceLeDiff, Int.reduceEq, Int.reduceLT, Int.reduceLE, Int.reduceAdd, Int.reduceSub, Int.reduceMul, Int.reduceNeg, Int.reduceToNat, Nat.reduceMul], by simp only [f21, go_sem, Nat.reduceEqDiff, Nat.reduceAdd, Nat.reduceLeDiff, Int.reduceEq, Int.reduceLT, Int.reduceLE, Int.reduceAdd, Int.reduceSub, Int.reduceMul, Int.reduceNeg, Int.reduceToNat, Nat.reduceMul], by simp only [f22, go_sem, Nat.reduceEqDiff, Nat.reduceAdd, Nat.reduceLeDiff, Int.reduceEq, Int.reduceLT, Int.reduceLE, Int.reduceAdd, Int.reduceSub, Int.reduceMul, Int.reduceNeg, Int.reduceToNat, Nat.reduceMul], by simp only [go_sem, Nat.reduceEqDiff, Nat.reduceAdd, Nat.reduceLeDiff, Int.reduceEq, Int.reduceLT, Int.reduceLE, Int.reduceAdd, Int.reduceSub, Int.reduceMul, Int.reduceNeg, Int.reduceToNat, Nat.reduceMul] <;> rfl, st, hv⟩
    · have hie : i = a.length := by omega
      subst hie
      rw [List.take_length] at hv
      have hlow := st.low
      have hol := st.len
      simp only [f0, f1, f5, f21, f22, f23, hlt, go_sem, Nat.reduceEqDiff, Nat.reduceAdd, Nat.reduceLeDiff, Int.reduceEq, Int.reduceLT, Int.reduceLE, Int.reduceAdd, Int.reduceSub, Int.reduceMul, Int.reduceNeg, Int.reduceToNat, Nat.reduceMul]
      have hown : Own H.next H' 1 (.slice (some ⟨H.next, 0, none⟩) (a.length + b.length + 1) (a.length + b.length + 1)) (a.length + b.length + 1) (o.map I64) := .inr ⟨H.next, rfl, st.g, by rw [List.length_map, hol, Nat.mul_one], Nat.le_refl _, by omega⟩
      rw [back_own hown (Nat.le_refl _) hlow (i64_p1 _)]
      have := hQ o st.dg hol hv
      rw [hol] at this
      exact this
  obtain ⟨n, v, H', he, o, h1, h2, h3, rfl, rfl⟩ := key (fun v H' => ∃ o : List Int, Dig o ∧ o.length = a.length + b.length + 1 ∧ val o = val a * val b ∧ v = mkS H o.length ∧ H' = mkH H 1 o.length (o.map I64)) fun o h1 h2 h3 => ⟨o, h1, h2, h3, rfl, rfl⟩
  exact ⟨o, h1, h2, h3, n, he⟩
end Go.Proofs.Ytildhljhbbhmmaa.AM
namespace Go.Proofs.Ytildhljhbbhmmaa.AM
open Go
set_option linter.all false
set_option maxRecDepth 10000
variable {tbl : Tbl} [hT : TMono tbl]

/-- What stands below the bit 130, digit by digit. -/
def lowD (a : List Int) (i : Nat) : Int := if i < 16 then dig a i else dig a 16 % 4
def lowL (a : List Int) : List Int := (List.range (min 17 a.length)).map (lowD a)
def highD (a : List Int) (i : Nat) : Int := dig a (16 + i) / 4 + dig a (16 + i + 1) * 64 % 256
def highL (a : List Int) : List Int := (List.range (a.length - 16)).map (highD a)
theorem val_drop {l : List Int} {n : Nat} (h : n ≤ l.length) : val l = val (l.take n) + val (l.drop n) * 256 ^ n := by
  have := val_app (l := l.take n) (r := l.drop n)
  rw [List.take_append_drop, List.length_take, Nat.min_eq_left h] at this
  exact this
theorem lowL_Dig {a : List Int} (h : Dig a) : Dig (lowL a) := by
  intro j
  simp only [lowL, dig, List.getD_eq_getElem?_getD, List.getElem?_map]
  cases (List.range (min 17 a.length))[j]? with
  | none => simp
  | some i =>
    simp only [Option.map_some, Option.getD_some, lowD]
    have h1 := h i
    have h2 := h 16
    split <;> omega
theorem highL_Dig {a : List Int} (h : Dig a) : Dig (highL a) := by
  intro j
  simp only [highL, dig, List.getD_eq_getElem?_getD, List.getElem?_map]
  cases (List.range (a.length - 16))[j]? with
  | none => simp
  | some i =>
    simp only [Option.map_some, Option.getD_some, highD]
    have h1 := h (16 + i)
    have h2 := h (16 + i + 1)
    omega
/-- The high digits make the quarter of what stands above. -/
theorem val_high {a : List Int} (h : Dig a) : ∀ n, 4 * val ((List.range n).map (highD a)) + dig a 16 % 4 = val ((List.range n).map fun i => dig a (16 + i)) + (dig a (16 + n) % 4) * 256 ^ n := by
  intro n
  induction n with
  | zero => simp [val]
  | succ n ih =>
    simp only [map_range_succ, val_app, List.length_map, List.length_range, Int.pow_succ, val, Int.mul_zero, Int.add_zero]
    have h1 := h (16 + n)
    have h2 := h (16 + n + 1)
    have e : 4 * highD a n + dig a (16 + n) % 4 = dig a (16 + n) + dig a (16 + n + 1) % 4 * 256 := by
      unfold highD
      omega
    have e2 : 4 * (highD a n * 256 ^ n) + dig a (16 + n) % 4 * 256 ^ n = dig a (16 + n) * 256 ^ n + dig a (16 + n + 1) % 4 * (256 ^ n * 256) := by
      rw [← Int.mul_assoc, ← Int.add_mul, e, Int.add_mul]
      congr 1
      rw [Int.mul_assoc, Int.mul_comm 256]
    have e3 : 16 + (n + 1) = 16 + n + 1 := by omega
    rw [e3]
    omega
theorem range_split {a : List Int} {m n : Nat} : (List.range (m + n)).map (dig a) = (List.range m).map (dig a) ++ (List.range n).map fun i => dig a (m + i) := by
  induction n with
  | zero => simp
  | succ n ih => rw [← Nat.add_assoc, map_range_succ, ih, map_range_succ, List.append_assoc]
theorem val_split {a : List Int} (h : Dig a) : val a = val (lowL a) + 1361129467683753853853498429727072845824 * val (highL a) := by
  by_cases hl : 17 ≤ a.length
  · obtain ⟨n, hn⟩ : ∃ n, a.length = 16 + n := ⟨a.length - 16, by omega⟩
    have e1 := range_dig (l := a) (n := 16 + n) (by omega)
    rw [range_split, val_app, List.length_map, List.length_range] at e1
    have e2 := val_high h n
    have e6 : dig a (16 + n) = 0 := dig_ge (by omega)
    rw [e6, Int.zero_emod, Int.zero_mul, Int.add_zero] at e2
    have e3 : highL a = (List.range n).map (highD a) := by unfold highL; rw [hn, Nat.add_sub_cancel_left]
    have e4 : lowL a = (List.range 16).map (dig a) ++ [dig a 16 % 4] := by
      unfold lowL
      rw [Nat.min_eq_left hl, map_range_succ]
      congr 1
    rw [e3, e4, val_app, List.length_map, List.length_range]
    simp only [val]
    rw [← e1]
    have e5 : (256 : Int) ^ 16 = 340282366920938463463374607431768211456 := by decide
    rw [e5]
    omega
  · have e3 : highL a = [] := by
      unfold highL
      rw [show a.length - 16 = 0 by omega]
      rfl
    have e4 : lowL a = (List.range a.length).map (dig a) := by
      unfold lowL
      rw [Nat.min_eq_right (by omega)]
      apply List.map_congr_left
      intro i hi
      rw [List.mem_range] at hi
      unfold lowD
      rw [if_pos (by omega)]
    rw [e3, e4, range_dig (Nat.le_refl _)]
    simp only [val]
    omega
end Go.Proofs.Ytildhljhbbhmmaa.AM
namespace Go.Proofs.Ytildhljhbbhmmaa.AM
open Go
set_option linter.all false
set_option maxRecDepth 10000

/-- A round of reduced keeps the rest. -/
theorem red_mod (l h : Int) : (l + h * 5) % 1361129467683753853853498429727072845819 = (l + 1361129467683753853853498429727072845824 * h) % 1361129467683753853853498429727072845819 := by omega
theorem red_less {l h : Int} (hh : 0 < h) : l + h * 5 < l + 1361129467683753853853498429727072845824 * h := by omega
theorem red_end {l : Int} (h0 : 0 ≤ l) (h1 : l < 1361129467683753853853498429727072845824) : l % 1361129467683753853853498429727072845819 = if 1361129467683753853853498429727072845824 ≤ l + 5 then l + 5 - 1361129467683753853853498429727072845824 else l := by
  split <;> omega
/-- The low part lies below the bit 130. -/
theorem lowL_lt {a : List Int} (h : Dig a) : 0 ≤ val (lowL a) ∧ val (lowL a) < 1361129467683753853853498429727072845824 := by
  refine ⟨(val_bound (lowL_Dig h)).1, ?_⟩
  by_cases hl : 17 ≤ a.length
  · have e4 : lowL a = (List.range 16).map (lowD a) ++ [dig a 16 % 4] := by
      unfold lowL
      rw [Nat.min_eq_left hl, map_range_succ]
      rfl
    have hd : Dig ((List.range 16).map (lowD a)) := by
      have := (lowL_Dig h).take 16
      rw [e4, List.take_append_of_le_length (by simp), List.take_of_length_le (by simp)] at this
      exact this
    have hb := val_bound hd
    rw [List.length_map, List.length_range] at hb
    rw [e4, val_app, List.length_map, List.length_range]
    have e5 : (256 : Int) ^ 16 = 340282366920938463463374607431768211456 := by decide
    rw [e5] at hb ⊢
    have := h 16
    simp only [val]
    omega
  · have hb := val_bound (lowL_Dig h)
    have hlen : (lowL a).length ≤ 16 := by simp [lowL]; omega
    have h2 : (256 : Int) ^ (lowL a).length ≤ 256 ^ 16 := by
      have e : 16 = (lowL a).length + (16 - (lowL a).length) := by omega
      have h1 : (1 : Int) ≤ 256 ^ (16 - (lowL a).length) := Int.pow_pos (by omega)
      have h3 : (0 : Int) ≤ 256 ^ (lowL a).length := Int.le_of_lt (Int.pow_pos (by omega))
      have h4 := Int.mul_le_mul_of_nonneg_left h1 h3
      rw [Int.mul_one, ← Int.pow_add, ← e] at h4
      exact h4
    have e5 : (256 : Int) ^ 16 = 340282366920938463463374607431768211456 := by decide
    omega
end Go.Proofs.Ytildhljhbbhmmaa.AM
namespace Go.Proofs.Ytildhljhbbhmmaa.AM
open Go
set_option linter.all false
set_option maxRecDepth 10000
variable {tbl : Tbl} [hT : TMono tbl]

theorem and3 {x : Int} (h : 0 ≤ x ∧ x < 4611686018427387904) : bitsK .and .i64 x 3 = x % 4 := by
  obtain ⟨n, rfl⟩ : ∃ n : Nat, x = n := ⟨x.toNat, by omega⟩
  simp only [bitsK, BitVec.toNat_and]
  rw [show (BitVec.ofInt IntKind.i64.bits (3 : Int)).toNat = 2 ^ 2 - 1 from rfl, ofInt_nat, show n % 2 ^ IntKind.i64.bits = n from Nat.mod_eq_of_lt (by
    show n < 2 ^ 64
    omega), Nat.and_two_pow_sub_one_eq_mod]
  rw [w64 (by omega) (by omega)]
  rfl
theorem or_high {p q : Int} (hp : 0 ≤ p ∧ p < 64) (hq : 0 ≤ q ∧ q < 4) : bitsK .or .i64 p (q * 64) = p + q * 64 := by
  obtain ⟨n, rfl⟩ : ∃ n : Nat, p = n := ⟨p.toNat, by omega⟩
  obtain ⟨m, rfl⟩ : ∃ m : Nat, q = m := ⟨q.toNat, by omega⟩
  have e : (m : Int) * 64 = ((m * 64 : Nat) : Int) := by omega
  rw [e]
  simp only [bitsK, BitVec.toNat_or, ofInt_nat]
  have e1 : n % 2 ^ IntKind.i64.bits = n := Nat.mod_eq_of_lt (by show n < 2 ^ 64; omega)
  have e2 : m * 64 % 2 ^ IntKind.i64.bits = m * 64 := Nat.mod_eq_of_lt (by show m * 64 < 2 ^ 64; omega)
  rw [e1, e2]
  have h := Nat.two_pow_add_eq_or_of_lt (i := 6) (b := n) (by omega) m
  rw [show n ||| m * 64 = 2 ^ 6 * m ||| n from by rw [Nat.or_comm, Nat.mul_comm], ← h]
  rw [w64 (by omega) (by omega)]
  omega
theorem shl6 {x : Int} (h : 0 ≤ x ∧ x ≤ 255) : shiftK .shl .i64 x 6 = x * 64 := by
  simp only [shiftK]
  rw [show (2 : Int) ^ Nat.min (6 : Int).toNat IntKind.i64.bits = 64 from rfl, w64 (by omega) (by omega)]
theorem shr2 {x : Int} : shiftK .shr .i64 x 2 = x / 4 := by
  simp only [shiftK]
  rw [show (2 : Int) ^ Nat.min (2 : Int).toNat IntKind.i64.bits = 4 from rfl, Int.fdiv_eq_ediv_of_nonneg _ (by omega)]
theorem Own.keep {base : Nat} {H H' : AH} {es n : Nat} {v : Value} {l : List Value} (h : Own base H es v n l) (k : ∀ id, id < H.next → H'.get id = H.get id) : Own base H' es v n l := by
  rcases h with h | ⟨b, h1, h2, h3, h4, h5⟩
  · exact .inl h
  · exact .inr ⟨b, h1, by rw [k b (AH.get_lt h2)]; exact h2, h3, h4, h5⟩
theorem Own.base {base base' : Nat} {H : AH} {es n : Nat} {v : Value} {l : List Value} (h : Own base H es v n l) (k : base' ≤ base) : Own base' H es v n l := by
  rcases h with h | ⟨b, h1, h2, h3, h4, h5⟩
  · exact .inl h
  · exact .inr ⟨b, h1, h2, h3, by omega, h5⟩
theorem Sl.keep {H H' : AH} {es n : Nat} {v : Value} {l : List Value} (h : Sl H es v n l) (k : ∀ id, id < H.next → H'.get id = H.get id) : Sl H' es v n l := by
  rcases h with h | ⟨a, c, h1, h2⟩
  · exact .inl h
  · refine .inr ⟨a, c, h1, ?_⟩
    rw [ldc_eq, k _ (ldc_lt h2), ← ldc_eq]
    exact h2
def lowP (a : List Int) (i : Nat) : List Int := (List.range (min 17 i)).map (lowD a)
def highP (a : List Int) (i : Nat) : List Int := (List.range i).map (highD a)
theorem lowP_all {a : List Int} : lowP a a.length = lowL a := rfl
theorem highP_all {a : List Int} : highP a (a.length - 16) = highL a := rfl
theorem lowP_step {a : List Int} {i : Nat} (h : i < 17) : (lowP a i).map I64 ++ [.int .i64 (lowD a i)] = (lowP a (i + 1)).map I64 := by
  unfold lowP
  rw [Nat.min_eq_right (by omega), Nat.min_eq_right (by omega), map_range_succ, List.map_append]
  rfl
theorem lowP_stop {a : List Int} {i : Nat} (h : 17 ≤ i) : lowP a i = lowP a (i + 1) := by
  unfold lowP
  rw [Nat.min_eq_left h, Nat.min_eq_left (by omega)]
theorem highP_step {a : List Int} {i : Nat} : (highP a i).map I64 ++ [.int .i64 (highD a i)] = (highP a (i + 1)).map I64 := by
  unfold highP
  rw [map_range_succ, List.map_append]
  rfl
theorem mkS_pos {H : AH} {n : Nat} (h : 0 < n) : mkS H n = .slice (some ⟨H.next, 0, none⟩) n n := by
  unfold mkS; rw [if_neg (by omega)]
theorem mkH_pos {H : AH} {es n : Nat} {l : List Value} (h : 0 < n) : mkH H es n l = H.push ⟨l, es, false⟩ := by
  unfold mkH; rw [if_neg (by omega)]
theorem val_pos {l : List Int} (h : Dig l) {i : Nat} (hi : i < l.length) : (0 < val (l.take (i + 1))) ↔ (0 < val (l.take i) ∨ 0 < dig l i) := by
  rw [val_take hi]
  have h1 := (val_bound (h.take i)).1
  have h2 := h i
  have h3 : (0 : Int) < 256 ^ i := Int.pow_pos (by omega)
  constructor
  · intro h
    by_cases hd : 0 < dig l i
    · exact .inr hd
    · have : dig l i = 0 := by omega
      rw [this, Int.zero_mul] at h
      exact .inl (by omega)
  · rintro (h | h)
    · have := Int.mul_nonneg h2.1 (Int.le_of_lt h3); omega
    · have := Int.mul_pos h h3; omega
theorem five_Dig : Dig [5] := by
  intro i
  match i with
  | 0 => exact ⟨by decide, by decide⟩
  | i + 1 => rw [dig_cons_succ]; simp [dig]
end Go.Proofs.Ytildhljhbbhmmaa.AM
namespace Go.Proofs.Ytildhljhbbhmmaa.AM
open Go
set_option linter.all false
set_option maxRecDepth 10000
variable {tbl : Tbl} [hT : TMono tbl]

/-- A low number and five: what the last step makes of it. -/
theorem red_five {b : List Int} (hb : Dig b) (hlen : b.length ≤ 17) (h1 : val b < 1361129467683753853853498429727072845824) :
    ((16 < plusN b [5] ∧ 4 ≤ dig (plusL b [5]) 16) → plusN b [5] = 17 ∧ Dig ((plusL b [5]).set 16 (dig (plusL b [5]) 16 % 4)) ∧ val ((plusL b [5]).set 16 (dig (plusL b [5]) 16 % 4)) = val b % 1361129467683753853853498429727072845819) ∧
    (¬ (16 < plusN b [5] ∧ 4 ≤ dig (plusL b [5]) 16) → val b = val b % 1361129467683753853853498429727072845819) := by
  have hv := val_plus hb five_Dig
  have h5 : val [5] = 5 := rfl
  rw [h5] at hv
  have h0 := (val_bound hb).1
  have hD : Dig (plusL b [5]) := plusL_Dig
  have hL : (plusL b [5]).length = plusN b [5] := plusL_len
  have hN : plusN b [5] ≤ 17 ∨ 17 < plusN b [5] := by omega
  have hend := red_end h0 h1
  have e16 : (256 : Int) ^ 16 = 340282366920938463463374607431768211456 := by decide
  have e17 : (256 : Int) ^ 17 = 340282366920938463463374607431768211456 * 256 := by decide
  -- no digit stands above the seventeenth
  have hN17 : plusN b [5] ≤ 17 := by
    by_cases hbl : b.length = 17
    · have hM : plusM b [5] = 17 := by unfold plusM; rw [hbl]; rfl
      have hc := plusC_range hb five_Dig 16
      have hd : dig b 16 ≤ 3 := by
        have ht := val_take (l := b) (i := 16) (by omega)
        rw [List.take_of_length_le (by omega), e16] at ht
        have := (val_bound (hb.take 16)).1
        have := (hb 16).1
        omega
      have hd5 : dig [5] 16 = 0 := rfl
      have hc17 : plusC b [5] 17 = 0 := by
        simp only [plusC, hd5]
        have := (hb 16).1
        have hc' : 0 ≤ plusC b [5] 16 ∧ plusC b [5] 16 ≤ 1 := hc
        simp only [plusC, hd5] at hc'
        omega
      unfold plusN
      rw [hM, hc17, if_neg (by omega)]
      omega
    · have hM : plusM b [5] ≤ 16 := by
        unfold plusM
        have : [(5 : Int)].length = 1 := rfl
        omega
      unfold plusN
      split <;> omega
  by_cases h16 : 16 < plusN b [5]
  · have hn : plusN b [5] = 17 := by omega
    have ht := val_take (l := plusL b [5]) (i := 16) (by omega)
    rw [List.take_of_length_le (by omega), e16] at ht
    have hb16 := val_bound (hD.take 16)
    rw [List.length_take, Nat.min_eq_left (by omega), e16] at hb16
    have hdd := hD 16
    refine ⟨fun h => ?_, fun h => ?_⟩
    · have hs := val_set (l := plusL b [5]) (i := 16) (x := dig (plusL b [5]) 16 % 4) (by omega)
      rw [e16] at hs
      refine ⟨hn, hD.set (by omega), ?_⟩
      rw [hend, if_pos (by omega), hs]
      omega
    · rw [hend, if_neg]
      intro h3
      exact h ⟨h16, by omega⟩
  · refine ⟨fun h => absurd h.1 h16, fun _ => ?_⟩
    rw [hend, if_neg]
    intro h3
    have hb2 := val_bound hD
    rw [hL, hv] at hb2
    have h2 : (256 : Int) ^ plusN b [5] ≤ 256 ^ 16 := by
      have e : 16 = plusN b [5] + (16 - plusN b [5]) := by omega
      have g1 : (1 : Int) ≤ 256 ^ (16 - plusN b [5]) := Int.pow_pos (by omega)
      have g3 : (0 : Int) ≤ 256 ^ plusN b [5] := Int.le_of_lt (Int.pow_pos (by omega))
      have g4 := Int.mul_le_mul_of_nonneg_left g1 g3
      rw [Int.mul_one, ← Int.pow_add, ← e] at g4
      exact g4
    rw [e16] at h2
    omega
end Go.Proofs.Ytildhljhbbhmmaa.AM
namespace Go.Proofs.Ytildhljhbbhmmaa.AM
open Go
set_option linter.all false
set_option maxRecDepth 10000
variable {tbl : Tbl} [hT : TMono tbl]

theorem rowS {X : AH} {l : List Int} (h : 0 < l.length) : Sl (X.push ⟨l.map I64, 1, false⟩) 1 (.slice (some ⟨X.next, 0, none⟩) l.length l.length) l.length (l.map I64) := by
  refine .inr ⟨_, _, rfl, ldc_all (AH.get_push_eq _ _) (by simp)⟩
theorem fiveS {X : AH} : Sl (X.push ⟨[.int .i64 5], 1, false⟩) 1 (.slice (some ⟨X.next, 0, none⟩) 1 1) [(5 : Int)].length ([(5 : Int)].map I64) := rowS (l := [5]) (by decide)
theorem keepP {X : AH} {b : Blk} : ∀ id, id < X.next → (X.push b).get id = X.get id := fun id h => AH.get_push_lt _ _ h
theorem plusN_pos {a b : List Int} (h : 0 < b.length) : 0 < plusN a b := by
  have : plusM a b = max a.length b.length := rfl
  unfold plusN
  split <;> omega
theorem plusN_le {a b : List Int} : plusN a b ≤ max a.length b.length + 1 := by
  have : plusM a b = max a.length b.length := rfl
  unfold plusN
  split <;> omega
set_option maxHeartbeats 2000000 in
theorem v66 (h66 : tbl 66 = some (.code m66)) (h67 : tbl 67 = some (.code m67)) (h68 : tbl 68 = some (.code m68)) (a0 : List Int) (ha0 : Dig a0) (hl0 : a0.length ≤ 500) {va : Value} {H : AH} (hva : Sl H 1 va a0.length (a0.map I64)) :
    ∃ r : List Int, Dig r ∧ r.length ≤ 17 ∧ val r = val a0 % 1361129467683753853853498429727072845819 ∧ Val tbl 66 [va] H (mkS H r.length) (mkH H 1 r.length (r.map I64)) := by
  have key : ∀ Q : Value → AH → Prop, (∀ r : List Int, Dig r → r.length ≤ 17 → val r = val a0 % 1361129467683753853853498429727072845819 → Q (mkS H r.length) (mkH H 1 r.length (r.map I64))) → (@RunF tbl 66 [va] H ⟨Q⟩) := by
    intro Q hQ
    rw [rn_fun h66, k66]
    simp only [go_sem, Nat.reduceEqDiff, Nat.reduceAdd, Nat.reduceLeDiff, Int.reduceEq, Int.reduceLT, Int.reduceLE, Int.reduceAdd, Int.reduceSub, Int.reduceMul, Int.reduceNeg, Int.reduceToNat, Nat.reduceMul]
    refine rn_loop (fun m f H' => ∃ (a : List Int) (v : Value), Dig a ∧ a.length ≤ 500 ∧ m = (val a).toNat ∧ f 0 = v ∧ Sl H' 1 v a.length (a.map I64) ∧ val a % 1361129467683753853853498429727072845819 = val a0 % 1361129467683753853853498429727072845819 ∧ H.next ≤ H'.next ∧ H.next ≤ H'.low) ?_ (n := (val a0).toNat)
      ⟨a0, va, ha0, hl0, rfl, by simp only [go_sem, Nat.reduceEqDiff, Nat.reduceAdd, Nat.reduceLeDiff, Int.reduceEq, Int.reduceLT, Int.reduceLE, Int.reduceAdd, Int.reduceSub, Int.reduceMul, Int.reduceNeg, Int.reduceToNat, Nat.reduceMul], hva, rfl, by rw [nx_enter]; omega, by rw [lw_enter]; omega⟩
    rintro m f H' ⟨a, v, ha, hla, rfl, f0, hsl, hmod, n1, l1⟩
    obtain ⟨pa, ca, ea⟩ := hsl.shape
    subst ea
    simp only [f0, go_sem, Nat.reduceEqDiff, Nat.reduceAdd, Nat.reduceLeDiff, Int.reduceEq, Int.reduceLT, Int.reduceLE, Int.reduceAdd, Int.reduceSub, Int.reduceMul, Int.reduceNeg, Int.reduceToNat, Nat.reduceMul]
    -- the low part
    refine rn_loop (fun m f H2 => ∃ (i : Nat) (w : Value), i ≤ a.length ∧ m = a.length - i ∧ f 0 = .slice pa a.length ca ∧ f 13 = .slice pa a.length ca ∧ f 14 = .int .i64 a.length ∧ f 15 = .int .i64 i ∧ f 3 = w ∧ f 4 = .slice none 0 0 ∧ Own H'.next H2 1 w (min 17 i) ((lowP a i).map I64) ∧ H'.next ≤ H2.next ∧ H.next ≤ H2.low ∧ (∀ id, id < H'.next → H2.get id = H'.get id)) ?_ (n := a.length)
      ⟨0, .slice none 0 0, by omega, by omega, by simp only [f0, go_sem, Nat.reduceEqDiff, Nat.reduceAdd, Nat.reduceLeDiff, Int.reduceEq, Int.reduceLT, Int.reduceLE, Int.reduceAdd, Int.reduceSub, Int.reduceMul, Int.reduceNeg, Int.reduceToNat, Nat.reduceMul], by simp only [f0, go_sem, Nat.reduceEqDiff, Nat.reduceAdd, Nat.reduceLeDiff, Int.reduceEq, Int.reduceLT, Int.reduceLE, Int.reduceAdd, Int.reduceSub, Int.reduceMul, Int.reduceNeg, Int.reduceToNat, Nat.reduceMul], by simp only [f0, go_sem, Nat.reduceEqDiff, Nat.reduceAdd, Nat.reduceLeDiff, Int.reduceEq, Int.reduceLT, Int.reduceLE, Int.reduceAdd, Int.reduceSub, Int.reduceMul, Int.reduceNeg, Int.reduceToNat, Nat.reduceMul], by simp only [go_sem, Nat.reduceEqDiff, Nat.reduceAdd, Nat.reduceLeDiff, Int.reduceEq, Int.reduceLT, Int.reduceLE, Int.reduceAdd, Int.reduceSub, Int.reduceMul, Int.reduceNeg, Int.reduceToNat, Nat.reduceMul] <;> rfl, by simp only [go_sem, Nat.reduceEqDiff, Nat.reduceAdd, Nat.reduceLeDiff, Int.reduceEq, Int.reduceLT, Int.reduceLE, Int.reduceAdd, Int.reduceSub, Int.reduceMul, Int.reduceNeg, Int.reduceToNat, Nat.reduceMul], by simp only [go_sem, Nat.reduceEqDiff, Nat.reduceAdd, Nat.reduceLeDiff, Int.reduceEq, Int.reduceLT, Int.reduceLE, Int.reduceAdd, Int.reduceSub, Int.reduceMul, Int.reduceNeg, Int.reduceToNat, Nat.reduceMul], .inl ⟨rfl, rfl, rfl⟩, by omega, l1, fun _ _ => rfl⟩
    clear f0
    rintro m f H2 ⟨i, w, hi, rfl, f0, f13, f14, f15, f3, f4, ho, n2, l2, hold⟩
    by_cases hlt : (i : Int) < a.length
    · have i0 : (0 : Int) ≤ i := by omega
      have wi := w64 (x := (i : Int) + 1) (by omega) (by omega)
      have ga := dig_lt (l := a) (i := i) (by omega)
      have hdi := ha i
      simp only [f0, f13, f14, f15, f3, f4, hlt, i0, wi, go_sem, Nat.reduceEqDiff, Nat.reduceAdd, Nat.reduceLeDiff, Int.reduceEq, Int.reduceLT, Int.reduceLE, Int.reduceAdd, Int.reduceSub, Int.reduceMul, Int.reduceNeg, Int.reduceToNat, Nat.reduceMul]
      refine hsl.int (i := i) (by omega) fun p hpl hp => ?_
      rw [← ga] at hp
      have hpn : p.block < H2.next := by omega
      by_cases h16 : i < 16
      · have c16 : (i : Int) < 16 := by omega
        have hlow : lowD a i = dig a i := by unfold lowD; rw [if_pos h16]
        obtain ⟨s', H3, hap, ho2, hold2, hn2, hl2⟩ := (ho.push ⟨[.int .i64 (dig a i)], 1, false⟩).append (bytes := 8) (k := 1) (new := [.int .i64 (dig a i)]) (by rw [AH.next_push]; omega) (by omega) rfl (by omega)
        rw [← hlow, lowP_step (by omega), show min 17 i + 1 = min 17 (i + 1) by omega] at ho2
        rw [AH.next_push] at hn2
        have hl3 := hl2 H.next (by omega) (by rw [lw_push]; exact l2)
        simp only [hpn, hold p.block hpl, hp, f0, f13, f14, f15, f3, f4, c16, wi, hap, go_sem, Nat.reduceEqDiff, Nat.reduceAdd, Nat.reduceLeDiff, Int.reduceEq, Int.reduceLT, Int.reduceLE, Int.reduceAdd, Int.reduceSub, Int.reduceMul, Int.reduceNeg, Int.reduceToNat, Nat.reduceMul]
        exact ⟨a.length - (i + 1), by omega, i + 1, s', by omega, rfl, by simp only [f0, go_sem, Nat.reduceEqDiff, Nat.reduceAdd, Nat.reduceLeDiff, Int.reduceEq, Int.reduceLT, Int.reduceLE, Int.reduceAdd, Int.reduceSub, Int.reduceMul, Int.reduceNeg, Int.reduceToNat, Nat.reduceMul], by simp only [f13, go_sem, Nat.reduceEqDiff, Nat.reduceAdd, Nat.reduceLeDiff, Int.reduceEq, Int.reduceLT, Int.reduceLE, Int.reduceAdd, Int.reduceSub, Int.reduceMul, Int.reduceNeg, Int.reduceToNat, Nat.reduceMul], by simp only [f14, go_sem, Nat.reduceEqDiff, Nat.reduceAdd, Nat.reduceLeDiff, Int.reduceEq, Int.reduceLT, Int.reduceLE, Int.reduceAdd, Int.reduceSub, Int.reduceMul, Int.reduceNeg, Int.reduceToNat, Nat.reduceMul], by simp only [go_sem, Nat.reduceEqDiff, Nat.reduceAdd, Nat.reduceLeDiff, Int.reduceEq, Int.reduceLT, Int.reduceLE, Int.reduceAdd, Int.reduceSub, Int.reduceMul, Int.reduceNeg, Int.reduceToNat, Nat.reduceMul] <;> rfl, by simp only [go_sem, Nat.reduceEqDiff, Nat.reduceAdd, Nat.reduceLeDiff, Int.reduceEq, Int.reduceLT, Int.reduceLE, Int.reduceAdd, Int.reduceSub, Int.reduceMul, Int.reduceNeg, Int.reduceToNat, Nat.reduceMul], by simp only [f4, go_sem, Nat.reduceEqDiff, Nat.reduceAdd, Nat.reduceLeDiff, Int.reduceEq, Int.reduceLT, Int.reduceLE, Int.reduceAdd, Int.reduceSub, Int.reduceMul, Int.reduceNeg, Int.reduceToNat, Nat.reduceMul], ho2, by omega, hl3, fun id hid => by rw [hold2 id hid, AH.get_push_lt _ _ (by omega)]; exact hold id hid⟩
      · have c16 : ¬ (i : Int) < 16 := by omega
        by_cases h17 : i = 16
        · have c17 : (i : Int) = 16 := by omega
          have hlow : lowD a i = dig a i % 4 := by unfold lowD; rw [if_neg h16, h17]
          have h3 := and3 (x := dig a i) (by omega)
          obtain ⟨s', H3, hap, ho2, hold2, hn2, hl2⟩ := (ho.push ⟨[.int .i64 (dig a i % 4)], 1, false⟩).append (bytes := 8) (k := 1) (new := [.int .i64 (dig a i % 4)]) (by rw [AH.next_push]; omega) (by omega) rfl (by omega)
          rw [← hlow, lowP_step (by omega), show min 17 i + 1 = min 17 (i + 1) by omega] at ho2
          rw [AH.next_push] at hn2
          have hl3 := hl2 H.next (by omega) (by rw [lw_push]; exact l2)
          simp only [hpn, hold p.block hpl, hp, f0, f13, f14, f15, f3, f4, c16, c17, h3, wi, hap, go_sem, Nat.reduceEqDiff, Nat.reduceAdd, Nat.reduceLeDiff, Int.reduceEq, Int.reduceLT, Int.reduceLE, Int.reduceAdd, Int.reduceSub, Int.reduceMul, Int.reduceNeg, Int.reduceToNat, Nat.reduceMul]
          exact ⟨a.length - (i + 1), by omega, i + 1, s', by omega, rfl, by simp only [f0, go_sem, Nat.reduceEqDiff, Nat.reduceAdd, Nat.reduceLeDiff, Int.reduceEq, Int.reduceLT, Int.reduceLE, Int.reduceAdd, Int.reduceSub, Int.reduceMul, Int.reduceNeg, Int.reduceToNat, Nat.reduceMul], by simp only [f13, go_sem, Nat.reduceEqDiff, Nat.reduceAdd, Nat.reduceLeDiff, Int.reduceEq, Int.reduceLT, Int.reduceLE, Int.reduceAdd, Int.reduceSub, Int.reduceMul, Int.reduceNeg, Int.reduceToNat, Nat.reduceMul], by simp only [f14, go_sem, Nat.reduceEqDiff, Nat.reduceAdd, Nat.reduceLeDiff, Int.reduceEq, Int.reduceLT, Int.reduceLE, Int.reduceAdd, Int.reduceSub, Int.reduceMul, Int.reduceNeg, Int.reduceToNat, Nat.reduceMul], by simp only [go_sem, Nat.reduceEqDiff, Nat.reduceAdd, Nat.reduceLeDiff, Int.reduceEq, Int.reduceLT, Int.reduceLE, Int.reduceAdd, Int.reduceSub, Int.reduceMul, Int.reduceNeg, Int.reduceToNat, Nat.reduceMul] <;> (congr 1; rw [show IntKind.wrap .i64 17 = 17 from rfl]; omega), by simp only [go_sem, Nat.reduceEqDiff, Nat.reduceAdd, Nat.reduceLeDiff, Int.reduceEq, Int.reduceLT, Int.reduceLE, Int.reduceAdd, Int.reduceSub, Int.reduceMul, Int.reduceNeg, Int.reduceToNat, Nat.reduceMul], by simp only [f4, go_sem, Nat.reduceEqDiff, Nat.reduceAdd, Nat.reduceLeDiff, Int.reduceEq, Int.reduceLT, Int.reduceLE, Int.reduceAdd, Int.reduceSub, Int.reduceMul, Int.reduceNeg, Int.reduceToNat, Nat.reduceMul], ho2, by omega, hl3, fun id hid => by rw [hold2 id hid, AH.get_push_lt _ _ (by omega)]; exact hold id hid⟩
        · have c17 : ¬ (i : Int) = 16 := by omega
          rw [lowP_stop (by omega), show min 17 i = min 17 (i + 1) by omega] at ho
          simp only [hpn, hold p.block hpl, hp, f0, f13, f14, f15, f3, f4, c16, c17, wi, go_sem, Nat.reduceEqDiff, Nat.reduceAdd, Nat.reduceLeDiff, Int.reduceEq, Int.reduceLT, Int.reduceLE, Int.reduceAdd, Int.reduceSub, Int.reduceMul, Int.reduceNeg, Int.reduceToNat, Nat.reduceMul]
          exact ⟨a.length - (i + 1), by omega, i + 1, w, by omega, rfl, by simp only [f0, go_sem, Nat.reduceEqDiff, Nat.reduceAdd, Nat.reduceLeDiff, Int.reduceEq, Int.reduceLT, Int.reduceLE, Int.reduceAdd, Int.reduceSub, Int.reduceMul, Int.reduceNeg, Int.reduceToNat, Nat.reduceMul], by simp only [f13, go_sem, Nat.reduceEqDiff, Nat.reduceAdd, Nat.reduceLeDiff, Int.reduceEq, Int.reduceLT, Int.reduceLE, Int.reduceAdd, Int.reduceSub, Int.reduceMul, Int.reduceNeg, Int.reduceToNat, Nat.reduceMul], by simp only [f14, go_sem, Nat.reduceEqDiff, Nat.reduceAdd, Nat.reduceLeDiff, Int.reduceEq, Int.reduceLT, Int.reduceLE, Int.reduceAdd, Int.reduceSub, Int.reduceMul, Int.reduceNeg, Int.reduceToNat, Nat.reduceMul], by simp only [go_sem, Nat.reduceEqDiff, Nat.reduceAdd, Nat.reduceLeDiff, Int.reduceEq, Int.reduceLT, Int.reduceLE, Int.reduceAdd, Int.reduceSub, Int.reduceMul, Int.reduceNeg, Int.reduceToNat, Nat.reduceMul] <;> rfl, by simp only [f3, go_sem, Nat.reduceEqDiff, Nat.reduceAdd, Nat.reduceLeDiff, Int.reduceEq, Int.reduceLT, Int.reduceLE, Int.reduceAdd, Int.reduceSub, Int.reduceMul, Int.reduceNeg, Int.reduceToNat, Nat.reduceMul], by simp only [f4, go_sem, Nat.reduceEqDiff, Nat.reduceAdd, Nat.reduceLeDiff, Int.reduceEq, Int.reduceLT, Int.reduceLE, Int.reduceAdd, Int.reduceSub, Int.reduceMul, Int.reduceNeg, Int.reduceToNat, Nat.reduceMul], ho, by omega, l2, hold⟩
    · have hie : i = a.length := by omega
      subst hie
      rw [lowP_all] at ho
      simp only [f0, f13, f14, f15, f3, f4, hlt, go_sem, Nat.reduceEqDiff, Nat.reduceAdd, Nat.reduceLeDiff, Int.reduceEq, Int.reduceLT, Int.reduceLE, Int.reduceAdd, Int.reduceSub, Int.reduceMul, Int.reduceNeg, Int.reduceToNat, Nat.reduceMul]
      -- the high part
      refine rn_loop (fun m f H3 => ∃ (k : Nat) (u : Value), 16 + k ≤ max 16 a.length ∧ m = a.length - (16 + k) ∧ f 0 = .slice pa a.length ca ∧ f 3 = w ∧ f 4 = u ∧ f 7 = .int .i64 ((16 + k : Nat) : Int) ∧ Own H2.next H3 1 u k ((highP a k).map I64) ∧ H2.next ≤ H3.next ∧ H.next ≤ H3.low ∧ (∀ id, id < H2.next → H3.get id = H2.get id)) ?_ (n := a.length - 16)
        ⟨0, .slice none 0 0, by omega, by omega, by simp only [f0, go_sem, Nat.reduceEqDiff, Nat.reduceAdd, Nat.reduceLeDiff, Int.reduceEq, Int.reduceLT, Int.reduceLE, Int.reduceAdd, Int.reduceSub, Int.reduceMul, Int.reduceNeg, Int.reduceToNat, Nat.reduceMul], by simp only [f3, go_sem, Nat.reduceEqDiff, Nat.reduceAdd, Nat.reduceLeDiff, Int.reduceEq, Int.reduceLT, Int.reduceLE, Int.reduceAdd, Int.reduceSub, Int.reduceMul, Int.reduceNeg, Int.reduceToNat, Nat.reduceMul], by simp only [f4, go_sem, Nat.reduceEqDiff, Nat.reduceAdd, Nat.reduceLeDiff, Int.reduceEq, Int.reduceLT, Int.reduceLE, Int.reduceAdd, Int.reduceSub, Int.reduceMul, Int.reduceNeg, Int.reduceToNat, Nat.reduceMul], by simp only [go_sem, Nat.reduceEqDiff, Nat.reduceAdd, Nat.reduceLeDiff, Int.reduceEq, Int.reduceLT, Int.reduceLE, Int.reduceAdd, Int.reduceSub, Int.reduceMul, Int.reduceNeg, Int.reduceToNat, Nat.reduceMul] <;> rfl, .inl ⟨rfl, rfl, rfl⟩, by omega, l2, fun _ _ => rfl⟩
      clear f0 f13 f14 f15 f3 f4
      rintro m f H3 ⟨k, u, hk, rfl, f0, f3, f4, f7, hu, n3, l3, hold3⟩
      by_cases hlk : ((16 + k : Nat) : Int) < a.length
      · have k0 : (0 : Int) ≤ ((16 + k : Nat) : Int) := by omega
        have wk := w64 (x := ((16 + k : Nat) : Int) + 1) (by omega) (by omega)
        have ek : ((16 + k : Nat) : Int) + 1 = ((16 + k + 1 : Nat) : Int) := by omega
        rw [ek] at wk
        have k1 : (0 : Int) ≤ ((16 + k + 1 : Nat) : Int) := by omega
        have hd1 := ha (16 + k)
        have hd2 := ha (16 + k + 1)
        have ga := dig_lt (l := a) (i := 16 + k) (by omega)
        have hsh := shl6 (x := dig a (16 + k + 1)) (by omega)
        have h2 := shr2 (x := dig a (16 + k))
        have ha255 := and255 (x := dig a (16 + k + 1) * 64) (by omega)
        have e4 : dig a (16 + k + 1) * 64 % 256 = (dig a (16 + k + 1) % 4) * 64 := by omega
        have hor := or_high (p := dig a (16 + k) / 4) (q := dig a (16 + k + 1) % 4) (by omega) (by omega)
        have hD : dig a (16 + k) / 4 + dig a (16 + k + 1) % 4 * 64 = highD a k := by unfold highD; rw [e4]
        rw [hD] at hor
        obtain ⟨s', H4, hap, ho2, hold2, hn2, hl2⟩ := (hu.push ⟨[.int .i64 (highD a k)], 1, false⟩).append (bytes := 8) (k := 1) (new := [.int .i64 (highD a k)]) (by rw [AH.next_push]; omega) (by omega) rfl (by omega)
        rw [highP_step] at ho2
        rw [AH.next_push] at hn2
        have hl3 := hl2 H.next (by omega) (by rw [lw_push]; exact l3)
        have fin : ∀ id, id < H2.next → H4.get id = H2.get id := fun id hid => by rw [hold2 id hid, AH.get_push_lt _ _ (by omega)]; exact hold3 id hid
        by_cases h17 : ((16 + k + 1 : Nat) : Int) < a.length
        · have ga1 := dig_lt (l := a) (i := 16 + k + 1) (by omega)
          simp only [f0, f3, f4, f7, hlk, ek, wk, h17, k0, k1, go_sem, Nat.reduceEqDiff, Nat.reduceAdd, Nat.reduceLeDiff, Int.reduceEq, Int.reduceLT, Int.reduceLE, Int.reduceAdd, Int.reduceSub, Int.reduceMul, Int.reduceNeg, Int.reduceToNat, Nat.reduceMul]
          refine hsl.int (i := 16 + k + 1) (by omega) fun p hpl hp => ?_
          rw [← ga1] at hp
          have hpn : p.block < H3.next := by omega
          have hpo : H3.get p.block = H'.get p.block := by rw [hold3 p.block (by omega), hold p.block hpl]
          simp only [hpn, hpo, hp, f0, f3, f4, f7, ek, wk, k0, k1, go_sem, Nat.reduceEqDiff, Nat.reduceAdd, Nat.reduceLeDiff, Int.reduceEq, Int.reduceLT, Int.reduceLE, Int.reduceAdd, Int.reduceSub, Int.reduceMul, Int.reduceNeg, Int.reduceToNat, Nat.reduceMul]
          refine hsl.int (i := 16 + k) (by omega) fun p2 hpl2 hp2 => ?_
          rw [← ga] at hp2
          have hpn2 : p2.block < H3.next := by omega
          have hpo2 : H3.get p2.block = H'.get p2.block := by rw [hold3 p2.block (by omega), hold p2.block hpl2]
          simp only [hpn2, hpo2, hp2, f0, f3, f4, f7, ek, wk, hsh, h2, ha255, e4, hor, hap, go_sem, Nat.reduceEqDiff, Nat.reduceAdd, Nat.reduceLeDiff, Int.reduceEq, Int.reduceLT, Int.reduceLE, Int.reduceAdd, Int.reduceSub, Int.reduceMul, Int.reduceNeg, Int.reduceToNat, Nat.reduceMul]
          exact ⟨a.length - (16 + (k + 1)), by omega, k + 1, s', by omega, rfl, by simp only [f0, go_sem, Nat.reduceEqDiff, Nat.reduceAdd, Nat.reduceLeDiff, Int.reduceEq, Int.reduceLT, Int.reduceLE, Int.reduceAdd, Int.reduceSub, Int.reduceMul, Int.reduceNeg, Int.reduceToNat, Nat.reduceMul], by simp only [f3, go_sem, Nat.reduceEqDiff, Nat.reduceAdd, Nat.reduceLeDiff, Int.reduceEq, Int.reduceLT, Int.reduceLE, Int.reduceAdd, Int.reduceSub, Int.reduceMul, Int.reduceNeg, Int.reduceToNat, Nat.reduceMul], by simp only [go_sem, Nat.reduceEqDiff, Nat.reduceAdd, Nat.reduceLeDiff, Int.reduceEq, Int.reduceLT, Int.reduceLE, Int.reduceAdd, Int.reduceSub, Int.reduceMul, Int.reduceNeg, Int.reduceToNat, Nat.reduceMul], by simp only [go_sem, Nat.reduceEqDiff, Nat.reduceAdd, Nat.reduceLeDiff, Int.reduceEq, Int.reduceLT, Int.reduceLE, Int.reduceAdd, Int.reduceSub, Int.reduceMul, Int.reduceNeg, Int.reduceToNat, Nat.reduceMul] <;> rfl, ho2, by omega, hl3, fin⟩
        · have g0 : dig a (16 + k + 1) = 0 := dig_ge (by omega)
          rw [g0] at hsh ha255 e4 hor
          have z1 : (0 : Int) * 64 = 0 := rfl
          have z2 : (0 : Int) % 4 = 0 := rfl
          rw [z1] at hsh ha255
          have z3 : (0 : Int) % 256 = 0 := rfl
          rw [z3] at ha255
          rw [z2, z1] at hor
          simp only [f0, f3, f4, f7, hlk, ek, wk, h17, k0, k1, go_sem, Nat.reduceEqDiff, Nat.reduceAdd, Nat.reduceLeDiff, Int.reduceEq, Int.reduceLT, Int.reduceLE, Int.reduceAdd, Int.reduceSub, Int.reduceMul, Int.reduceNeg, Int.reduceToNat, Nat.reduceMul]
          refine hsl.int (i := 16 + k) (by omega) fun p2 hpl2 hp2 => ?_
          rw [← ga] at hp2
          have hpn2 : p2.block < H3.next := by omega
          have hpo2 : H3.get p2.block = H'.get p2.block := by rw [hold3 p2.block (by omega), hold p2.block hpl2]
          simp only [hpn2, hpo2, hp2, f0, f3, f4, f7, ek, wk, hsh, h2, ha255, hor, hap, go_sem, Nat.reduceEqDiff, Nat.reduceAdd, Nat.reduceLeDiff, Int.reduceEq, Int.reduceLT, Int.reduceLE, Int.reduceAdd, Int.reduceSub, Int.reduceMul, Int.reduceNeg, Int.reduceToNat, Nat.reduceMul]
          exact ⟨a.length - (16 + (k + 1)), by omega, k + 1, s', by omega, rfl, by simp only [f0, go_sem, Nat.reduceEqDiff, Nat.reduceAdd, Nat.reduceLeDiff, Int.reduceEq, Int.reduceLT, Int.reduceLE, Int.reduceAdd, Int.reduceSub, Int.reduceMul, Int.reduceNeg, Int.reduceToNat, Nat.reduceMul], by simp only [f3, go_sem, Nat.reduceEqDiff, Nat.reduceAdd, Nat.reduceLeDiff, Int.reduceEq, Int.reduceLT, Int.reduceLE, Int.reduceAdd, Int.reduceSub, Int.reduceMul, Int.reduceNeg, Int.reduceToNat, Nat.reduceMul], by simp only [go_sem, Nat.reduceEqDiff, Nat.reduceAdd, Nat.reduceLeDiff, Int.reduceEq, Int.reduceLT, Int.reduceLE, Int.reduceAdd, Int.reduceSub, Int.reduceMul, Int.reduceNeg, Int.reduceToNat, Nat.reduceMul], by simp only [go_sem, Nat.reduceEqDiff, Nat.reduceAdd, Nat.reduceLeDiff, Int.reduceEq, Int.reduceLT, Int.reduceLE, Int.reduceAdd, Int.reduceSub, Int.reduceMul, Int.reduceNeg, Int.reduceToNat, Nat.reduceMul] <;> rfl, ho2, by omega, hl3, fin⟩
      · have hke : k = a.length - 16 := by omega
        subst hke
        rw [highP_all] at hu
        have hhl : (highL a).length = a.length - 16 := by simp [highL]
        have hD := highL_Dig ha
        have hus := hu.sl
        rw [← hhl] at hus
        obtain ⟨pu, cu, eu⟩ := hus.shape
        have hlt2 : ¬ ((16 + (a.length - 16) : Nat) : Int) < a.length := hlk
        simp only [f0, f3, f4, f7, hlt2, go_sem, Nat.reduceEqDiff, Nat.reduceAdd, Nat.reduceLeDiff, Int.reduceEq, Int.reduceLT, Int.reduceLE, Int.reduceAdd, Int.reduceSub, Int.reduceMul, Int.reduceNeg, Int.reduceToNat, Nat.reduceMul]
        subst eu
        simp only [go_sem, Nat.reduceEqDiff, Nat.reduceAdd, Nat.reduceLeDiff, Int.reduceEq, Int.reduceLT, Int.reduceLE, Int.reduceAdd, Int.reduceSub, Int.reduceMul, Int.reduceNeg, Int.reduceToNat, Nat.reduceMul]
        -- is some of it more than nothing
        refine rn_loop (fun m f H4 => ∃ (i : Nat), i ≤ (highL a).length ∧ m = (highL a).length - i ∧ f 0 = .slice pa a.length ca ∧ f 3 = w ∧ f 4 = .slice pu (highL a).length cu ∧ f 64 = .slice pu (highL a).length cu ∧ f 65 = .int .i64 (highL a).length ∧ f 66 = .int .i64 i ∧ f 9 = .bool (decide (0 < val ((highL a).take i))) ∧ H4 = H3) ?_ (n := (highL a).length)
          ⟨0, by omega, by omega, by simp only [f0, go_sem, Nat.reduceEqDiff, Nat.reduceAdd, Nat.reduceLeDiff, Int.reduceEq, Int.reduceLT, Int.reduceLE, Int.reduceAdd, Int.reduceSub, Int.reduceMul, Int.reduceNeg, Int.reduceToNat, Nat.reduceMul], by simp only [f3, go_sem, Nat.reduceEqDiff, Nat.reduceAdd, Nat.reduceLeDiff, Int.reduceEq, Int.reduceLT, Int.reduceLE, Int.reduceAdd, Int.reduceSub, Int.reduceMul, Int.reduceNeg, Int.reduceToNat, Nat.reduceMul], by simp only [f4, go_sem, Nat.reduceEqDiff, Nat.reduceAdd, Nat.reduceLeDiff, Int.reduceEq, Int.reduceLT, Int.reduceLE, Int.reduceAdd, Int.reduceSub, Int.reduceMul, Int.reduceNeg, Int.reduceToNat, Nat.reduceMul], by simp only [go_sem, Nat.reduceEqDiff, Nat.reduceAdd, Nat.reduceLeDiff, Int.reduceEq, Int.reduceLT, Int.reduceLE, Int.reduceAdd, Int.reduceSub, Int.reduceMul, Int.reduceNeg, Int.reduceToNat, Nat.reduceMul], by simp only [go_sem, Nat.reduceEqDiff, Nat.reduceAdd, Nat.reduceLeDiff, Int.reduceEq, Int.reduceLT, Int.reduceLE, Int.reduceAdd, Int.reduceSub, Int.reduceMul, Int.reduceNeg, Int.reduceToNat, Nat.reduceMul], by simp only [go_sem, Nat.reduceEqDiff, Nat.reduceAdd, Nat.reduceLeDiff, Int.reduceEq, Int.reduceLT, Int.reduceLE, Int.reduceAdd, Int.reduceSub, Int.reduceMul, Int.reduceNeg, Int.reduceToNat, Nat.reduceMul] <;> rfl, by simp only [go_sem, Nat.reduceEqDiff, Nat.reduceAdd, Nat.reduceLeDiff, Int.reduceEq, Int.reduceLT, Int.reduceLE, Int.reduceAdd, Int.reduceSub, Int.reduceMul, Int.reduceNeg, Int.reduceToNat, Nat.reduceMul] <;> rfl, rfl⟩
        clear f0 f3 f4 f7
        rintro m f H4 ⟨i, hi, rfl, f0, f3, f4, f64, f65, f66, f9, rfl⟩
        by_cases hli : (i : Int) < (highL a).length
        · have i0 : (0 : Int) ≤ i := by omega
          have wi := w64 (x := (i : Int) + 1) (by omega) (by omega)
          have ga := dig_lt (l := highL a) (i := i) (by omega)
          have hvp := val_pos hD (i := i) (by omega)
          simp only [f0, f3, f4, f64, f65, f66, f9, hli, i0, wi, go_sem, Nat.reduceEqDiff, Nat.reduceAdd, Nat.reduceLeDiff, Int.reduceEq, Int.reduceLT, Int.reduceLE, Int.reduceAdd, Int.reduceSub, Int.reduceMul, Int.reduceNeg, Int.reduceToNat, Nat.reduceMul]
          refine hus.int (i := i) (by omega) fun p hpl hp => ?_
          rw [← ga] at hp
          by_cases hs : 0 < val ((highL a).take i)
          · have hs1 : 0 < val ((highL a).take (i + 1)) := hvp.2 (.inl hs)
            simp only [hpl, hp, f0, f3, f4, f64, f65, f66, f9, hs, wi, go_sem, Nat.reduceEqDiff, Nat.reduceAdd, Nat.reduceLeDiff, Int.reduceEq, Int.reduceLT, Int.reduceLE, Int.reduceAdd, Int.reduceSub, Int.reduceMul, Int.reduceNeg, Int.reduceToNat, Nat.reduceMul]
            exact ⟨(highL a).length - (i + 1), by omega, i + 1, by omega, rfl, by simp only [f0, go_sem, Nat.reduceEqDiff, Nat.reduceAdd, Nat.reduceLeDiff, Int.reduceEq, Int.reduceLT, Int.reduceLE, Int.reduceAdd, Int.reduceSub, Int.reduceMul, Int.reduceNeg, Int.reduceToNat, Nat.reduceMul], by simp only [f3, go_sem, Nat.reduceEqDiff, Nat.reduceAdd, Nat.reduceLeDiff, Int.reduceEq, Int.reduceLT, Int.reduceLE, Int.reduceAdd, Int.reduceSub, Int.reduceMul, Int.reduceNeg, Int.reduceToNat, Nat.reduceMul], by simp only [f4, go_sem, Nat.reduceEqDiff, Nat.reduceAdd, Nat.reduceLeDiff, Int.reduceEq, Int.reduceLT, Int.reduceLE, Int.reduceAdd, Int.reduceSub, Int.reduceMul, Int.reduceNeg, Int.reduceToNat, Nat.reduceMul], by simp only [f64, go_sem, Nat.reduceEqDiff, Nat.reduceAdd, Nat.reduceLeDiff, Int.reduceEq, Int.reduceLT, Int.reduceLE, Int.reduceAdd, Int.reduceSub, Int.reduceMul, Int.reduceNeg, Int.reduceToNat, Nat.reduceMul], by simp only [f65, go_sem, Nat.reduceEqDiff, Nat.reduceAdd, Nat.reduceLeDiff, Int.reduceEq, Int.reduceLT, Int.reduceLE, Int.reduceAdd, Int.reduceSub, Int.reduceMul, Int.reduceNeg, Int.reduceToNat, Nat.reduceMul], by simp only [go_sem, Nat.reduceEqDiff, Nat.reduceAdd, Nat.reduceLeDiff, Int.reduceEq, Int.reduceLT, Int.reduceLE, Int.reduceAdd, Int.reduceSub, Int.reduceMul, Int.reduceNeg, Int.reduceToNat, Nat.reduceMul] <;> rfl, by simp only [hs1, go_sem, Nat.reduceEqDiff, Nat.reduceAdd, Nat.reduceLeDiff, Int.reduceEq, Int.reduceLT, Int.reduceLE, Int.reduceAdd, Int.reduceSub, Int.reduceMul, Int.reduceNeg, Int.reduceToNat, Nat.reduceMul], rfl⟩
          · have hs1 : (0 < val ((highL a).take (i + 1))) ↔ 0 < dig (highL a) i := by rw [hvp]; exact ⟨fun h => h.resolve_left hs, .inr⟩
            simp only [hpl, hp, f0, f3, f4, f64, f65, f66, f9, hs, wi, go_sem, Nat.reduceEqDiff, Nat.reduceAdd, Nat.reduceLeDiff, Int.reduceEq, Int.reduceLT, Int.reduceLE, Int.reduceAdd, Int.reduceSub, Int.reduceMul, Int.reduceNeg, Int.reduceToNat, Nat.reduceMul]
            exact ⟨(highL a).length - (i + 1), by omega, i + 1, by omega, rfl, by simp only [f0, go_sem, Nat.reduceEqDiff, Nat.reduceAdd, Nat.reduceLeDiff, Int.reduceEq, Int.reduceLT, Int.reduceLE, Int.reduceAdd, Int.reduceSub, Int.reduceMul, Int.reduceNeg, Int.reduceToNat, Nat.reduceMul], by simp only [f3, go_sem, Nat.reduceEqDiff, Nat.reduceAdd, Nat.reduceLeDiff, Int.reduceEq, Int.reduceLT, Int.reduceLE, Int.reduceAdd, Int.reduceSub, Int.reduceMul, Int.reduceNeg, Int.reduceToNat, Nat.reduceMul], by simp only [f4, go_sem, Nat.reduceEqDiff, Nat.reduceAdd, Nat.reduceLeDiff, Int.reduceEq, Int.reduceLT, Int.reduceLE, Int.reduceAdd, Int.reduceSub, Int.reduceMul, Int.reduceNeg, Int.reduceToNat, Nat.reduceMul], by simp only [f64, go_sem, Nat.reduceEqDiff, Nat.reduceAdd, Nat.reduceLeDiff, Int.reduceEq, Int.reduceLT, Int.reduceLE, Int.reduceAdd, Int.reduceSub, Int.reduceMul, Int.reduceNeg, Int.reduceToNat, Nat.reduceMul], by simp only [f65, go_sem, Nat.reduceEqDiff, Nat.reduceAdd, Nat.reduceLeDiff, Int.reduceEq, Int.reduceLT, Int.reduceLE, Int.reduceAdd, Int.reduceSub, Int.reduceMul, Int.reduceNeg, Int.reduceToNat, Nat.reduceMul], by simp only [go_sem, Nat.reduceEqDiff, Nat.reduceAdd, Nat.reduceLeDiff, Int.reduceEq, Int.reduceLT, Int.reduceLE, Int.reduceAdd, Int.reduceSub, Int.reduceMul, Int.reduceNeg, Int.reduceToNat, Nat.reduceMul] <;> rfl, by simp only [hs1, go_sem, Nat.reduceEqDiff, Nat.reduceAdd, Nat.reduceLeDiff, Int.reduceEq, Int.reduceLT, Int.reduceLE, Int.reduceAdd, Int.reduceSub, Int.reduceMul, Int.reduceNeg, Int.reduceToNat, Nat.reduceMul], rfl⟩
        · have hie : i = (highL a).length := by omega
          subst hie
          rw [List.take_length] at f9
          have hsplit := val_split ha
          have hlow := lowL_lt ha
          have hlD := lowL_Dig ha
          have hhv := (val_bound hD).1
          have hll : (lowL a).length = min 17 a.length := by simp [lowL]
          have how : Own H'.next H4 1 w (min 17 a.length) ((lowL a).map I64) := ho.keep fun id hid => hold3 id hid
          by_cases hs : 0 < val (highL a)
          · simp only [hli, f0, f3, f4, f64, f65, f66, f9, hs, go_sem, Nat.reduceEqDiff, Nat.reduceAdd, Nat.reduceLeDiff, Int.reduceEq, Int.reduceLT, Int.reduceLE, Int.reduceAdd, Int.reduceSub, Int.reduceMul, Int.reduceNeg, Int.reduceToNat, Nat.reduceMul]
            obtain ⟨o, ho1, ho2, ho3, hv67⟩ := v67 (tbl := tbl) (H := H4.push ⟨[.int .i64 5], 1, false⟩) h67 (highL a) [5] hD five_Dig (by omega) (by decide) (hus.keep keepP) fiveS
            have e1 : [(5 : Int)].length = 1 := rfl
            rw [e1] at ho2
            rw [mkS_pos (by omega), mkH_pos (by omega)] at hv67
            have hv68 := v68 (tbl := tbl) (H := (H4.push ⟨[.int .i64 5], 1, false⟩).push ⟨o.map I64, 1, false⟩) h68 (lowL a) o hlD ho1 (by omega) (by omega) (va := w) (vb := .slice (some ⟨(H4.push ⟨[.int .i64 5], 1, false⟩).next, 0, none⟩) o.length o.length) (by rw [hll]; exact ((how.sl.keep keepP).keep keepP)) (rowS (by omega))
            have hN := plusN_le (a := lowL a) (b := o)
            have hNp := plusN_pos (a := lowL a) (b := o) (by omega)
            have h5v : val [5] = 5 := rfl
            rw [h5v] at ho3
            have hval := val_plus hlD ho1
            have hown := own_mk (H := (H4.push ⟨[.int .i64 5], 1, false⟩).push ⟨o.map I64, 1, false⟩) (es := 1) (n := plusN (lowL a) o) (l := (plusL (lowL a) o).map I64) (by rw [List.length_map, plusL_len, Nat.mul_one])
            rw [AH.next_push] at hv67 hv68
            simp only [f0, f3, f4, ↓hv67.run, ↓hv68.run, go_sem, Nat.reduceEqDiff, Nat.reduceAdd, Nat.reduceLeDiff, Int.reduceEq, Int.reduceLT, Int.reduceLE, Int.reduceAdd, Int.reduceSub, Int.reduceMul, Int.reduceNeg, Int.reduceToNat, Nat.reduceMul]
            refine ⟨(val (plusL (lowL a) o)).toNat, ?_, plusL (lowL a) o, _, plusL_Dig, by rw [plusL_len]; omega, rfl, rfl, by rw [plusL_len]; exact hown.sl, ?_, ?_, ?_⟩
            · have := red_less (l := val (lowL a)) hs
              rw [hval, ho3]
              have h0 := (val_bound ha).1
              omega
            · rw [hval, ho3, red_mod, ← hsplit]; exact hmod
            · have := mkH_next (H := (H4.push ⟨[.int .i64 5], 1, false⟩).push ⟨o.map I64, 1, false⟩) (es := 1) (n := plusN (lowL a) o) (l := (plusL (lowL a) o).map I64)
              rw [AH.next_push, AH.next_push] at this
              omega
            · rw [mkH_low, lw_push, lw_push]; exact l3
          · simp only [hli, f0, f3, f4, f64, f65, f66, f9, hs, go_sem, Nat.reduceEqDiff, Nat.reduceAdd, Nat.reduceLeDiff, Int.reduceEq, Int.reduceLT, Int.reduceLE, Int.reduceAdd, Int.reduceSub, Int.reduceMul, Int.reduceNeg, Int.reduceToNat, Nat.reduceMul]
            have hv0 : val (highL a) = 0 := by omega
            rw [hv0, Int.mul_zero, Int.add_zero] at hsplit
            rw [hsplit] at hmod
            have hv68 := v68 (tbl := tbl) (H := H4.push ⟨[.int .i64 5], 1, false⟩) h68 (lowL a) [5] hlD five_Dig (by omega) (by decide) (va := w) (by rw [hll]; exact how.sl.keep keepP) fiveS
            have hNp := plusN_pos (a := lowL a) (b := [5]) (by decide)
            rw [mkS_pos hNp, mkH_pos hNp, AH.next_push] at hv68
            have hpl := plusL_len (a := lowL a) (b := [5])
            have hrow : (⟨(plusL (lowL a) [5]).map I64, 1, false⟩ : Blk) = row .i64 (plusL (lowL a) [5]) := rfl
            rw [hrow] at hv68
            simp only [f0, f3, f4, ↓hv68.run, go_sem, Nat.reduceEqDiff, Nat.reduceAdd, Nat.reduceLeDiff, Int.reduceEq, Int.reduceLT, Int.reduceLE, Int.reduceAdd, Int.reduceSub, Int.reduceMul, Int.reduceNeg, Int.reduceToNat, Nat.reduceMul]
            have hfive := red_five hlD (by omega) hlow.2
            rw [hmod] at hfive
            have hDp : Dig (plusL (lowL a) [5]) := plusL_Dig
            obtain ⟨K, hK⟩ : ∃ K, K = H4.push ⟨[.int .i64 5], 1, false⟩ := ⟨_, rfl⟩
            have hKn : K.next = H4.next + 1 := by rw [hK, AH.next_push]
            have hKl : H.next ≤ K.low := by rw [hK, lw_push]; exact l3
            have hw : Own H'.next K 1 w (min 17 a.length) ((lowL a).map I64) := by rw [hK]; exact how.keep keepP
            rw [← hK, ← hKn]
            obtain ⟨L, hL⟩ : ∃ L, L = plusL (lowL a) [5] := ⟨_, rfl⟩
            obtain ⟨N, hN⟩ : ∃ N, N = plusN (lowL a) [5] := ⟨_, rfl⟩
            rw [← hL, ← hN] at hpl hfive ⊢
            rw [← hL] at hDp
            rw [← hN] at hNp
            have hg : (K.push (row .i64 L)).get K.next = some (row .i64 L) := AH.get_push_eq _ _
            have hgs : ∀ X : Option Blk, ((K.push (row .i64 L)).set K.next X).get K.next = X := fun X => AH.get_set_eq _ _ (by rw [AH.next_push]; omega)
            by_cases h16 : 16 < N
            · have c16 : (16 : Int) < N := by omega
              have t16 : (16 : Int).toNat = 16 := rfl
              have p16 : (0 : Int) ≤ 16 := by omega
              have l16 : 16 + 1 ≤ L.length := by omega
              have hat := row_at (k := .i64) (x := L) (i := 16) (by omega)
              have hgw : gw L 16 = dig L 16 := rfl
              have hd := hDp 16
              have h3 := and3 (x := dig L 16) (by omega)
              have hlt0 : K.next < K.next + 1 := by omega
              by_cases h4 : 4 ≤ dig L 16
              · obtain ⟨r1, r2, r3⟩ := hfive.1 ⟨h16, h4⟩
                subst r1
                have hlen : L.length = 17 := hpl
                have l17 : 17 ≤ L.length := by omega
                have t17 : (17 : Int).toNat = 17 := rfl
                have p17 : (0 : Int) ≤ 17 := by omega
                simp only [c16, t16, p16, l16, hat, hgw, h3, h4, hg, hgs, hlt0, hlen, l17, t17, p17, row_len, row_ro, row_es, row_set, splice_one, stc_eq, stB_some, idxSP_slc, Nat.zero_add, go_sem, Nat.reduceEqDiff, Nat.reduceAdd, Nat.reduceLeDiff, Int.reduceEq, Int.reduceLT, Int.reduceLE, Int.reduceAdd, Int.reduceSub, Int.reduceMul, Int.reduceNeg, Int.reduceToNat, Nat.reduceMul]
                have hsl17 : slcAt ((K.push (row .i64 L)).set K.next (some (row .i64 (L.set 16 (dig L 16 % 4))))) 1 (.slice (some ⟨K.next, 0, none⟩) 17 17) 0 17 = some (.slice (some ⟨K.next, 0, none⟩) 17 17) := by
                  simp only [slcAt, hgs, row_es, Nat.le_refl, if_true]
                simp only [hsl17, go_sem, Nat.reduceEqDiff, Nat.reduceAdd, Nat.reduceLeDiff, Int.reduceEq, Int.reduceLT, Int.reduceLE, Int.reduceAdd, Int.reduceSub, Int.reduceMul, Int.reduceNeg, Int.reduceToNat, Nat.reduceMul]
                have hr : (L.set 16 (dig L 16 % 4)).length = 17 := by rw [List.length_set, hlen]
                have hown : Own H.next ((K.push (row .i64 L)).set K.next (some (row .i64 (L.set 16 (dig L 16 % 4))))) 1 (.slice (some ⟨K.next, 0, none⟩) 17 17) 17 ((L.set 16 (dig L 16 % 4)).map I64) := .inr ⟨K.next, rfl, hgs _, by rw [List.length_map, hr], by omega, by omega⟩
                rw [back_own hown (Nat.le_refl _) (by rw [lw_set, lw_push]; omega) (i64_p1 _)]
                have := hQ _ r2 (by omega) r3
                rw [hr] at this
                exact this
              · simp only [c16, t16, p16, l16, hat, hgw, h3, h4, hg, hgs, hlt0, row_len, row_ro, row_es, row_set, splice_one, stc_eq, stB_some, idxSP_slc, Nat.zero_add, go_sem, Nat.reduceEqDiff, Nat.reduceAdd, Nat.reduceLeDiff, Int.reduceEq, Int.reduceLT, Int.reduceLE, Int.reduceAdd, Int.reduceSub, Int.reduceMul, Int.reduceNeg, Int.reduceToNat, Nat.reduceMul]
                rw [back_own ((hw.keep keepP).base n1) (Nat.le_refl _) (by rw [lw_push]; exact hKl) (i64_p1 _), ← hll]
                exact hQ (lowL a) hlD (by omega) (hfive.2 fun h => h4 h.2)
            · have c16 : ¬ (16 : Int) < N := by omega
              simp only [c16, go_sem, Nat.reduceEqDiff, Nat.reduceAdd, Nat.reduceLeDiff, Int.reduceEq, Int.reduceLT, Int.reduceLE, Int.reduceAdd, Int.reduceSub, Int.reduceMul, Int.reduceNeg, Int.reduceToNat, Nat.reduceMul]
              rw [back_own ((hw.keep keepP).base n1) (Nat.le_refl _) (by rw [lw_push]; exact hKl) (i64_p1 _), ← hll]
              exact hQ (lowL a) hlD (by omega) (hfive.2 fun h => h16 h.1)
  obtain ⟨n, v, H', he, o, h1, h2, h3, rfl, rfl⟩ := key (fun v H' => ∃ r : List Int, Dig r ∧ r.length ≤ 17 ∧ val r = val a0 % 1361129467683753853853498429727072845819 ∧ v = mkS H r.length ∧ H' = mkH H 1 r.length (r.map I64)) fun o h1 h2 h3 => ⟨o, h1, h2, h3, rfl, rfl⟩
  exact ⟨o, h1, h2, h3, n, he⟩
end Go.Proofs.Ytildhljhbbhmmaa.AM
namespace Go.Proofs.Ytildhljhbbhmmaa.AM
open Go
set_option linter.all false
set_option maxRecDepth 10000
variable {tbl : Tbl} [hT : TMono tbl]

theorem and15 {x : Int} (h : 0 ≤ x ∧ x < 4611686018427387904) : bitsK .and .i64 x 15 = x % 16 := by
  obtain ⟨n, rfl⟩ : ∃ n : Nat, x = n := ⟨x.toNat, by omega⟩
  simp only [bitsK, BitVec.toNat_and]
  rw [show (BitVec.ofInt IntKind.i64.bits (15 : Int)).toNat = 2 ^ 4 - 1 from rfl, ofInt_nat, show n % 2 ^ IntKind.i64.bits = n from Nat.mod_eq_of_lt (by
    show n < 2 ^ 64
    omega), Nat.and_two_pow_sub_one_eq_mod]
  rw [w64 (by omega) (by omega)]
  rfl
theorem and252 {x : Int} (h : 0 ≤ x ∧ x ≤ 255) : bitsK .and .i64 x 252 = x / 4 * 4 := by
  have key : ∀ n : Fin 256, bitsK .and .i64 (n.val : Int) 252 = (n.val : Int) / 4 * 4 := by decide +kernel
  have := key ⟨x.toNat, by omega⟩
  simp only at this
  rw [show ((x.toNat : Nat) : Int) = x by omega] at this
  exact this
def mA (L : List Int) (i : Nat) : List Int := L.set i (dig L i % 16)
def mB (L : List Int) (i : Nat) : List Int := L.set i (dig L i / 4 * 4)
theorem mA_Dig {L : List Int} (h : Dig L) {i : Nat} : Dig (mA L i) := h.set (by have := h i; omega)
theorem mB_Dig {L : List Int} (h : Dig L) {i : Nat} : Dig (mB L i) := h.set (by have := h i; omega)
theorem mA_len {L : List Int} {i : Nat} : (mA L i).length = L.length := by simp [mA]
theorem mB_len {L : List Int} {i : Nat} : (mB L i).length = L.length := by simp [mB]
/-- The digits to multiply by. -/
def rdig (k : List UInt8) : List Int := mB (mB (mB (mA (mA (mA (mA (dgs (k.take 16)) 3) 7) 11) 15) 4) 8) 12
theorem rdig_Dig {k : List UInt8} : Dig (rdig k) := mB_Dig (mB_Dig (mB_Dig (mA_Dig (mA_Dig (mA_Dig (mA_Dig dgs_Dig))))))
theorem rdig_len {k : List UInt8} (h : 16 ≤ k.length) : (rdig k).length = 16 := by
  simp only [rdig, mB_len, mA_len, dgs_len, List.length_take]
  omega
/-- What the reference has behind q parts. -/
def accV (k m : List UInt8) : Nat → Int
  | 0 => 0
  | q + 1 => ((accV k m q + val (dgs (blk 16 m q ++ [1]))) * val (rdig k)) % 1361129467683753853853498429727072845819
theorem pow_mono {a b : Nat} (h : a ≤ b) : (256 : Int) ^ a ≤ 256 ^ b := by
  have e : b = a + (b - a) := by omega
  have h1 : (1 : Int) ≤ 256 ^ (b - a) := Int.pow_pos (by omega)
  have h3 : (0 : Int) ≤ 256 ^ a := Int.le_of_lt (Int.pow_pos (by omega))
  have h4 := Int.mul_le_mul_of_nonneg_left h1 h3
  rw [Int.mul_one, ← Int.pow_add, ← e] at h4
  exact h4
theorem range_take {l : List Int} {n : Nat} (h : n ≤ l.length) : (List.range n).map (dig l) = l.take n := by
  apply List.ext_getElem
  · simp; omega
  · intro i h1 h2
    simp only [List.length_map, List.length_range] at h1
    simp only [List.getElem_map, List.getElem_range, List.getElem_take]
    exact dig_lt (by omega)
theorem val_mod {l : List Int} (h : Dig l) {n : Nat} : val ((List.range n).map (dig l)) = val l % 256 ^ n := by
  by_cases hn : n ≤ l.length
  · have h1 := val_drop hn
    have h2 := val_bound (h.take n)
    rw [List.length_take, Nat.min_eq_left hn] at h2
    rw [range_take hn, h1, Int.add_mul_emod_self_right, Int.emod_eq_of_lt h2.1 h2.2]
  · have h2 := val_bound h
    have h3 := pow_mono (a := l.length) (b := n) (by omega)
    rw [range_dig (by omega), Int.emod_eq_of_lt h2.1 (by omega)]
theorem part_same {f : Nat → UInt8} {t : List UInt8} {p : Nat} (h : p < t.length) (hf : f p = gb t p) : part f t p = part f t (p + 1) := by
  rw [← part_step h, hf]
  have := part_at (f := f) h
  rw [← this]
  have hl := part_len (f := f) (t := t) (p := p) (by omega)
  simp [gb, hl, h]
theorem gb_zb {n i : Nat} : gb (zb n) i = 0 := by
  simp only [gb, zb, List.getD_eq_getElem?_getD, List.getElem?_replicate]
  split <;> rfl
theorem b8_dig {l : List Int} (h : Dig l) {i : Nat} : ((b8 (dig l i)).toNat : Int) = dig l i := by
  have := h i
  rw [b8_val]; omega
set_option maxHeartbeats 2000000 in
theorem v30 (h30 : tbl 30 = some (.code m30)) (h64 : tbl 64 = some (.code m64)) (h65 : tbl 65 = some (.code m65)) (h66 : tbl 66 = some (.code m66)) (h67 : tbl 67 = some (.code m67)) (h68 : tbl 68 = some (.code m68)) (k m : List UInt8) (hk : k.length = 32) (hm : m.length ≤ 100000000) (H : AH) :
    ∃ R : List UInt8, R.length = 16 ∧ val (dgs R) = (accV k m (blkN 16 m.length) + val (dgs (k.drop 16))) % 340282366920938463463374607431768211456 ∧ Val tbl 30 [.string (tx k), .string (tx m)] H (.string (tx R)) H := by
  have key : ∀ Q : Value → AH → Prop, (∀ R : List UInt8, R.length = 16 → val (dgs R) = (accV k m (blkN 16 m.length) + val (dgs (k.drop 16))) % 340282366920938463463374607431768211456 → Q (.string (tx R)) H) → (@RunF tbl 30 [.string (tx k), .string (tx m)] H ⟨Q⟩) := by
    intro Q hQ
    rw [rn_fun h30, k30]
    have hkt : (k.take 16).length = 16 := by rw [List.length_take]; omega
    have h64a := v64 (tbl := tbl) h64 (k.take 16) (by omega) H.enter
    rw [hkt, mkS_pos (by omega), mkH_pos (by omega), nx_enter] at h64a
    have hrow : (⟨(dgs (k.take 16)).map I64, 1, false⟩ : Blk) = row .i64 (dgs (k.take 16)) := rfl
    rw [hrow] at h64a
    have hsz : (16 : Nat) ≤ (tx k).size := by rw [tx_size]; omega
    have e1 : (tx k).extract 0 16 = tx (k.take 16) := by rw [tx_extract]; rfl
    obtain ⟨L, hL⟩ : ∃ L, L = dgs (k.take 16) := ⟨_, rfl⟩
    have hLl : L.length = 16 := by rw [hL, dgs_len, hkt]
    have hLD : Dig L := by rw [hL]; exact dgs_Dig
    have hR : mB (mB (mB (mA (mA (mA (mA L 3) 7) 11) 15) 4) 8) 12 = rdig k := by rw [hL]; rfl
    rw [← hL] at h64a
    have hD1 : Dig (mA L 3) := mA_Dig hLD
    have hD2 : Dig (mA (mA L 3) 7) := mA_Dig hD1
    have hD3 : Dig (mA (mA (mA L 3) 7) 11) := mA_Dig hD2
    have hD4 : Dig (mA (mA (mA (mA L 3) 7) 11) 15) := mA_Dig hD3
    have hD5 : Dig (mB (mA (mA (mA (mA L 3) 7) 11) 15) 4) := mB_Dig hD4
    have hD6 : Dig (mB (mB (mA (mA (mA (mA L 3) 7) 11) 15) 4) 8) := mB_Dig hD5
    have fA : ∀ {X : List Int} (hX : Dig X) (hXl : X.length = 16) (i : Nat) (hi : i < 16), List.take 1 (List.drop i (row .i64 X).cells) = [.int .i64 (dig X i)] ∧ bitsK .and .i64 (dig X i) 15 = dig X i % 16 ∧ i + 1 ≤ X.length := fun hX hXl i hi => ⟨row_at (by omega), and15 (by have := hX i; omega), by omega⟩
    have fB : ∀ {X : List Int} (hX : Dig X) (hXl : X.length = 16) (i : Nat) (hi : i < 16), List.take 1 (List.drop i (row .i64 X).cells) = [.int .i64 (dig X i)] ∧ bitsK .and .i64 (dig X i) 252 = dig X i / 4 * 4 ∧ i + 1 ≤ X.length := fun hX hXl i hi => ⟨row_at (by omega), and252 (hX i), by omega⟩
    have fa : ∀ (X : List Int) (i : Nat), X.set i (dig X i % 16) = mA X i := fun _ _ => rfl
    have fb : ∀ (X : List Int) (i : Nat), X.set i (dig X i / 4 * 4) = mB X i := fun _ _ => rfl
    obtain ⟨a1, a2, a3⟩ := fA hLD hLl 3 (by omega)
    obtain ⟨b1, b2, b3⟩ := fA hD1 (by rw [mA_len, hLl]) 7 (by omega)
    obtain ⟨c1, c2, c3⟩ := fA hD2 (by rw [mA_len, mA_len, hLl]) 11 (by omega)
    obtain ⟨d1, d2, d3⟩ := fA hD3 (by rw [mA_len, mA_len, mA_len, hLl]) 15 (by omega)
    obtain ⟨g1, g2, g3⟩ := fB hD4 (by rw [mA_len, mA_len, mA_len, mA_len, hLl]) 4 (by omega)
    obtain ⟨i1, i2, i3⟩ := fB hD5 (by rw [mB_len, mA_len, mA_len, mA_len, mA_len, hLl]) 8 (by omega)
    obtain ⟨j1, j2, j3⟩ := fB hD6 (by rw [mB_len, mB_len, mA_len, mA_len, mA_len, mA_len, hLl]) 12 (by omega)
    obtain ⟨B, hB⟩ : ∃ B : Blk, B = ⟨[.int .i64 3, .int .i64 7, .int .i64 11, .int .i64 15], 1, false⟩ := ⟨_, rfl⟩
    have h0 : ∀ X : Option Blk, (((H.enter.push (row .i64 L)).push B).set H.next X).get H.next = X := fun X => AH.get_set_eq _ _ (by rw [AH.next_push, AH.next_push, nx_enter]; omega)
    have h00 : ((H.enter.push (row .i64 L)).push B).get H.next = some (row .i64 L) := by rw [AH.get_push_lt _ _ (by rw [AH.next_push, nx_enter]; omega)]; exact AH.get_push_eq H.enter _
    have h01 : ((H.enter.push (row .i64 L)).push B).get (H.next + 1) = some B := by
      have := AH.get_push_eq (H.enter.push (row .i64 L)) B
      rw [AH.next_push, nx_enter] at this
      exact this
    have h1 : ∀ X : Option Blk, (((H.enter.push (row .i64 L)).push B).set H.next X).get (H.next + 1) = some B := fun X => by rw [AH.get_set_ne _ _ (by omega)]; exact h01
    have hlt1 : H.next + 1 < H.next + 1 + 1 := by omega
    have hlt0 : H.next < H.next + 1 + 1 := by omega
    have hBl : B.cells = [.int .i64 3, .int .i64 7, .int .i64 11, .int .i64 15] := by rw [hB]
    obtain ⟨C, hC⟩ : ∃ C : Blk, C = ⟨[.int .i64 4, .int .i64 8, .int .i64 12], 1, false⟩ := ⟨_, rfl⟩
    have hCl : C.cells = [.int .i64 4, .int .i64 8, .int .i64 12] := by rw [hC]
    have q1 : IntKind.wrap .i64 1 = 1 := rfl
    have q2 : IntKind.wrap .i64 2 = 2 := rfl
    have q3 : IntKind.wrap .i64 3 = 3 := rfl
    have q4 : IntKind.wrap .i64 4 = 4 := rfl
    simp only [hsz, e1, ← hB, ← hC, ↓h64a.run, go_sem, Nat.reduceEqDiff, Nat.reduceAdd, Nat.reduceLeDiff, Int.reduceEq, Int.reduceLT, Int.reduceLE, Int.reduceAdd, Int.reduceSub, Int.reduceMul, Int.reduceNeg, Int.reduceToNat, Nat.reduceMul]
    rw [rn_round]
    simp only [h0, h00, h01, h1, hlt1, hlt0, hBl, hCl, q1, q2, q3, q4, a1, a2, a3, fa, fb, set_set, AH.next_set, row_len, row_ro, row_es, row_set, splice_one, stc_eq, stB_some, idxSP_slc, Nat.zero_add, go_sem, Nat.reduceEqDiff, Nat.reduceAdd, Nat.reduceLeDiff, Int.reduceEq, Int.reduceLT, Int.reduceLE, Int.reduceAdd, Int.reduceSub, Int.reduceMul, Int.reduceNeg, Int.reduceToNat, Nat.reduceMul]
    rw [rn_round]
    simp only [h0, h00, h01, h1, hlt1, hlt0, hBl, hCl, q1, q2, q3, q4, b1, b2, b3, fa, fb, set_set, AH.next_set, row_len, row_ro, row_es, row_set, splice_one, stc_eq, stB_some, idxSP_slc, Nat.zero_add, go_sem, Nat.reduceEqDiff, Nat.reduceAdd, Nat.reduceLeDiff, Int.reduceEq, Int.reduceLT, Int.reduceLE, Int.reduceAdd, Int.reduceSub, Int.reduceMul, Int.reduceNeg, Int.reduceToNat, Nat.reduceMul]
    rw [rn_round]
    simp only [h0, h00, h01, h1, hlt1, hlt0, hBl, hCl, q1, q2, q3, q4, c1, c2, c3, fa, fb, set_set, AH.next_set, row_len, row_ro, row_es, row_set, splice_one, stc_eq, stB_some, idxSP_slc, Nat.zero_add, go_sem, Nat.reduceEqDiff, Nat.reduceAdd, Nat.reduceLeDiff, Int.reduceEq, Int.reduceLT, Int.reduceLE, Int.reduceAdd, Int.reduceSub, Int.reduceMul, Int.reduceNeg, Int.reduceToNat, Nat.reduceMul]
    rw [rn_round]
    simp only [h0, h00, h01, h1, hlt1, hlt0, hBl, hCl, q1, q2, q3, q4, d1, d2, d3, fa, fb, set_set, AH.next_set, row_len, row_ro, row_es, row_set, splice_one, stc_eq, stB_some, idxSP_slc, Nat.zero_add, go_sem, Nat.reduceEqDiff, Nat.reduceAdd, Nat.reduceLeDiff, Int.reduceEq, Int.reduceLT, Int.reduceLE, Int.reduceAdd, Int.reduceSub, Int.reduceMul, Int.reduceNeg, Int.reduceToNat, Nat.reduceMul]
    rw [rn_round]
    simp only [h0, h00, h01, h1, hlt1, hlt0, hBl, hCl, q1, q2, q3, q4, ← hC, fa, fb, set_set, AH.next_set, row_len, row_ro, row_es, row_set, splice_one, stc_eq, stB_some, idxSP_slc, Nat.zero_add, go_sem, Nat.reduceEqDiff, Nat.reduceAdd, Nat.reduceLeDiff, Int.reduceEq, Int.reduceLT, Int.reduceLE, Int.reduceAdd, Int.reduceSub, Int.reduceMul, Int.reduceNeg, Int.reduceToNat, Nat.reduceMul]
    generalize hK : ((H.enter.push (row .i64 L)).push B).set H.next _ = K
    have hKn : K.next = H.next + 2 := by rw [← hK, AH.next_set, AH.next_push, AH.next_push, nx_enter]
    have hKl : H.next ≤ K.low := by rw [← hK, lw_set, lw_push, lw_push, lw_enter]; omega
    have hKg : K.get H.next = some (row .i64 (mA (mA (mA (mA L 3) 7) 11) 15)) := by rw [← hK]; exact h0 _
    clear hK h0 h00 h01 h1
    have k0 : ∀ X : Option Blk, ((K.push C).set H.next X).get H.next = X := fun X => AH.get_set_eq _ _ (by rw [AH.next_push]; omega)
    have k00 : (K.push C).get H.next = some (row .i64 (mA (mA (mA (mA L 3) 7) 11) 15)) := by rw [AH.get_push_lt _ _ (by omega)]; exact hKg
    have k01 : (K.push C).get (H.next + 2) = some C := by rw [← hKn]; exact AH.get_push_eq _ _
    have k1 : ∀ X : Option Blk, ((K.push C).set H.next X).get (H.next + 2) = some C := fun X => by rw [AH.get_set_ne _ _ (by omega)]; exact k01
    have ltC : H.next + 2 < H.next + 2 + 1 := by omega
    have lt0 : H.next < H.next + 2 + 1 := by omega
    rw [rn_round]
    simp only [k0, k00, k01, k1, ltC, lt0, hCl, q1, q2, q3, q4, hKn, g1, g2, g3, fa, fb, set_set, AH.next_set, row_len, row_ro, row_es, row_set, splice_one, stc_eq, stB_some, idxSP_slc, Nat.zero_add, go_sem, Nat.reduceEqDiff, Nat.reduceAdd, Nat.reduceLeDiff, Int.reduceEq, Int.reduceLT, Int.reduceLE, Int.reduceAdd, Int.reduceSub, Int.reduceMul, Int.reduceNeg, Int.reduceToNat, Nat.reduceMul]
    rw [rn_round]
    simp only [k0, k00, k01, k1, ltC, lt0, hCl, q1, q2, q3, q4, hKn, i1, i2, i3, fa, fb, set_set, AH.next_set, row_len, row_ro, row_es, row_set, splice_one, stc_eq, stB_some, idxSP_slc, Nat.zero_add, go_sem, Nat.reduceEqDiff, Nat.reduceAdd, Nat.reduceLeDiff, Int.reduceEq, Int.reduceLT, Int.reduceLE, Int.reduceAdd, Int.reduceSub, Int.reduceMul, Int.reduceNeg, Int.reduceToNat, Nat.reduceMul]
    rw [rn_round]
    simp only [k0, k00, k01, k1, ltC, lt0, hCl, q1, q2, q3, q4, hKn, j1, j2, j3, fa, fb, set_set, AH.next_set, row_len, row_ro, row_es, row_set, splice_one, stc_eq, stB_some, idxSP_slc, Nat.zero_add, go_sem, Nat.reduceEqDiff, Nat.reduceAdd, Nat.reduceLeDiff, Int.reduceEq, Int.reduceLT, Int.reduceLE, Int.reduceAdd, Int.reduceSub, Int.reduceMul, Int.reduceNeg, Int.reduceToNat, Nat.reduceMul]
    have h65a := v65 (tbl := tbl) h65 m 16 (by omega) (by omega) (by omega)
    have c16 : ((16 : Nat) : Int) = 16 := rfl
    rw [c16] at h65a
    rw [rn_round]
    simp only [k0, k00, k01, k1, ltC, lt0, hCl, q1, q2, q3, q4, hKn, hR, ↓(h65a _).run, fa, fb, set_set, AH.next_set, row_len, row_ro, row_es, row_set, splice_one, stc_eq, stB_some, idxSP_slc, Nat.zero_add, go_sem, Nat.reduceEqDiff, Nat.reduceAdd, Nat.reduceLeDiff, Int.reduceEq, Int.reduceLT, Int.reduceLE, Int.reduceAdd, Int.reduceSub, Int.reduceMul, Int.reduceNeg, Int.reduceToNat, Nat.reduceMul]
    generalize hM : (K.push C).set H.next (some (row .i64 (rdig k))) = M
    have hMn : M.next = H.next + 3 := by rw [← hM, AH.next_set, AH.next_push, hKn]
    have hMl : H.next ≤ M.low := by rw [← hM, lw_set, lw_push]; omega
    have hMg : M.get H.next = some (row .i64 (rdig k)) := by rw [← hM]; exact k0 _
    clear hM k0 k00 k01 k1 a1 a2 a3 b1 b2 b3 c1 c2 c3 d1 d2 d3 g1 g2 g3 i1 i2 i3 j1 j2 j3
    obtain ⟨n, hn⟩ : ∃ n, n = blkN 16 m.length := ⟨_, rfl⟩
    rw [← hn] at hQ ⊢
    have hnle : n ≤ 100000000 := by rw [hn]; unfold blkN; omega
    obtain ⟨M2, hM2⟩ : ∃ M2, M2 = mkH M 1 n (strs (blk 16 m) n) := ⟨_, rfl⟩
    have hown := own_mk (H := M) (es := 1) (n := n) (l := strs (blk 16 m) n) (by rw [strs_len, Nat.mul_one])
    rw [← hM2] at hown ⊢
    have hbl := hown.sl
    have hM2n : M.next ≤ M2.next := by rw [hM2]; exact mkH_next
    have hM2l : H.next ≤ M2.low := by rw [hM2, mkH_low]; exact hMl
    have hM2g : M2.get H.next = some (row .i64 (rdig k)) := by rw [hM2, mkH_get (by omega)]; exact hMg
    obtain ⟨pb, cb, eb⟩ := hbl.shape
    rw [eb] at hbl ⊢
    clear hown hM2
    simp only [go_sem, Nat.reduceEqDiff, Nat.reduceAdd, Nat.reduceLeDiff, Int.reduceEq, Int.reduceLT, Int.reduceLE, Int.reduceAdd, Int.reduceSub, Int.reduceMul, Int.reduceNeg, Int.reduceToNat, Nat.reduceMul]
    refine rn_loop (fun m' f H' => ∃ (i : Nat) (a : List Int) (v : Value), i ≤ n ∧ m' = n - i ∧ f 0 = .string (tx k) ∧ f 5 = .slice (some ⟨H.next, 0, none⟩) 16 16 ∧ f 10 = v ∧ f 45 = .slice pb n cb ∧ f 46 = .int .i64 n ∧ f 47 = .int .i64 i ∧ Sl H' 1 v a.length (a.map I64) ∧ Dig a ∧ a.length ≤ 17 ∧ val a = accV k m i ∧ M2.next ≤ H'.next ∧ H.next ≤ H'.low ∧ (∀ id, id < M2.next → H'.get id = M2.get id)) ?_ (n := n)
      ⟨0, [], .slice none 0 0, by omega, by omega, by simp only [go_sem, Nat.reduceEqDiff, Nat.reduceAdd, Nat.reduceLeDiff, Int.reduceEq, Int.reduceLT, Int.reduceLE, Int.reduceAdd, Int.reduceSub, Int.reduceMul, Int.reduceNeg, Int.reduceToNat, Nat.reduceMul], by simp only [go_sem, Nat.reduceEqDiff, Nat.reduceAdd, Nat.reduceLeDiff, Int.reduceEq, Int.reduceLT, Int.reduceLE, Int.reduceAdd, Int.reduceSub, Int.reduceMul, Int.reduceNeg, Int.reduceToNat, Nat.reduceMul], by simp only [go_sem, Nat.reduceEqDiff, Nat.reduceAdd, Nat.reduceLeDiff, Int.reduceEq, Int.reduceLT, Int.reduceLE, Int.reduceAdd, Int.reduceSub, Int.reduceMul, Int.reduceNeg, Int.reduceToNat, Nat.reduceMul], by simp only [go_sem, Nat.reduceEqDiff, Nat.reduceAdd, Nat.reduceLeDiff, Int.reduceEq, Int.reduceLT, Int.reduceLE, Int.reduceAdd, Int.reduceSub, Int.reduceMul, Int.reduceNeg, Int.reduceToNat, Nat.reduceMul], by simp only [go_sem, Nat.reduceEqDiff, Nat.reduceAdd, Nat.reduceLeDiff, Int.reduceEq, Int.reduceLT, Int.reduceLE, Int.reduceAdd, Int.reduceSub, Int.reduceMul, Int.reduceNeg, Int.reduceToNat, Nat.reduceMul], by simp only [go_sem, Nat.reduceEqDiff, Nat.reduceAdd, Nat.reduceLeDiff, Int.reduceEq, Int.reduceLT, Int.reduceLE, Int.reduceAdd, Int.reduceSub, Int.reduceMul, Int.reduceNeg, Int.reduceToNat, Nat.reduceMul] <;> rfl, .inl ⟨none, 0, rfl, rfl, rfl⟩, fun i => by simp [dig], by simp, rfl, by omega, hM2l, fun _ _ => rfl⟩
    rintro m' f H' ⟨i, a, v, hi, rfl, f0, f5, f10, f45, f46, f47, hsl, haD, hal, hav, n1, l1, hold⟩
    by_cases hlt : (i : Int) < n
    · have i0 : (0 : Int) ≤ i := by omega
      have wi := w64 (x := (i : Int) + 1) (by omega) (by omega)
      simp only [f0, f5, f10, f45, f46, f47, hlt, i0, wi, go_sem, Nat.reduceEqDiff, Nat.reduceAdd, Nat.reduceLeDiff, Int.reduceEq, Int.reduceLT, Int.reduceLE, Int.reduceAdd, Int.reduceSub, Int.reduceMul, Int.reduceNeg, Int.reduceToNat, Nat.reduceMul]
      refine hbl.at_ (i := i) (by omega) fun p hpl hp => ?_
      rw [strs_at (by omega)] at hp
      have hpn : p.block < H'.next := by omega
      obtain ⟨D, hD⟩ : ∃ D, D = blk 16 m i ++ [1] := ⟨_, rfl⟩
      have hDl : D.length ≤ 17 ∧ 0 < D.length := by rw [hD]; simp [blk]; omega
      have hone : (⟨#[1]⟩ : ByteArray) = tx [1] := rfl
      have hcat : tx (blk 16 m i) ++ tx [1] = tx D := by rw [tx_cat, hD]
      have hszz : (tx (blk 16 m i)).size + (tx [1]).size ≤ 9223372036854775807 := by
        rw [tx_size, tx_size]
        have : (blk 16 m i).length ≤ 16 := by simp [blk]; omega
        have h1 : [(1 : UInt8)].length = 1 := rfl
        omega
      have h64b := v64 (tbl := tbl) h64 D (by omega) H'
      rw [mkS_pos (by omega), mkH_pos (by omega)] at h64b
      have hDD : Dig (dgs D) := dgs_Dig
      have hrD := rowS (X := H') (l := dgs D) (by rw [dgs_len]; omega)
      have h68b := v68 (tbl := tbl) (H := H'.push ⟨(dgs D).map I64, 1, false⟩) h68 a (dgs D) haD hDD (by omega) (by rw [dgs_len]; omega) (hsl.keep keepP) hrD
      have hN := plusN_le (a := a) (b := dgs D)
      have hNp := plusN_pos (a := a) (b := dgs D) (by rw [dgs_len]; omega)
      rw [dgs_len] at hN hrD h68b
      rw [mkS_pos hNp, mkH_pos hNp, AH.next_push] at h68b
      have hPD : Dig (plusL a (dgs D)) := plusL_Dig
      have hPl := plusL_len (a := a) (b := dgs D)
      have hPv := val_plus haD hDD
      obtain ⟨H2, hH2⟩ : ∃ H2, H2 = (H'.push ⟨(dgs D).map I64, 1, false⟩).push ⟨(plusL a (dgs D)).map I64, 1, false⟩ := ⟨_, rfl⟩
      have hH2n : H2.next = H'.next + 2 := by rw [hH2, AH.next_push, AH.next_push]
      have hH2l : H2.low = H'.low := by rw [hH2, lw_push, lw_push]
      have hH2g : ∀ id, id < H'.next → H2.get id = H'.get id := fun id hid => by rw [hH2, AH.get_push_lt _ _ (by rw [AH.next_push]; omega), AH.get_push_lt _ _ hid]
      have hrP := rowS (X := H'.push ⟨(dgs D).map I64, 1, false⟩) (l := plusL a (dgs D)) (by omega)
      rw [← hH2] at hrP h68b
      rw [hPl, AH.next_push] at hrP
      have hrR : Sl H2 1 (.slice (some ⟨H.next, 0, none⟩) 16 16) (rdig k).length ((rdig k).map I64) := by
        have hl := rdig_len (k := k) (by omega)
        rw [hl]
        refine .inr ⟨_, _, rfl, ?_⟩
        have : H2.get H.next = some ⟨(rdig k).map I64, 1, false⟩ := by rw [hH2g _ (by omega), hold _ (by omega)]; exact hM2g
        exact ldc_all this (by rw [List.length_map, hl])
      obtain ⟨o, ho1, ho2, ho3, h67b⟩ := v67 (tbl := tbl) (H := H2) h67 (plusL a (dgs D)) (rdig k) hPD rdig_Dig (by omega) (by rw [rdig_len (by omega)]; omega) (va := .slice (some ⟨H'.next + 1, 0, none⟩) (plusN a (dgs D)) (plusN a (dgs D))) (by rw [hPl]; exact hrP) hrR
      rw [rdig_len (by omega)] at ho2
      rw [mkS_pos (by omega), mkH_pos (by omega)] at h67b
      obtain ⟨r, hr1, hr2, hr3, h66b⟩ := v66 (tbl := tbl) (H := H2.push ⟨o.map I64, 1, false⟩) h66 h67 h68 o ho1 (by omega) (rowS (by omega))
      have hrow := own_mk (H := H2.push ⟨o.map I64, 1, false⟩) (es := 1) (n := r.length) (l := r.map I64) (by simp)
      have hnx := mkH_next (H := H2.push ⟨o.map I64, 1, false⟩) (es := 1) (n := r.length) (l := r.map I64)
      rw [AH.next_push] at hnx
      simp only [hpn, hold p.block hpl, hp, f0, f5, f10, f45, f46, f47, wi, hone, hcat, hszz, ↓h64b.run, ↓h68b.run, ↓h67b.run, ↓h66b.run, go_sem, Nat.reduceEqDiff, Nat.reduceAdd, Nat.reduceLeDiff, Int.reduceEq, Int.reduceLT, Int.reduceLE, Int.reduceAdd, Int.reduceSub, Int.reduceMul, Int.reduceNeg, Int.reduceToNat, Nat.reduceMul]
      refine ⟨n - (i + 1), by omega, i + 1, r, _, by omega, rfl, by simp only [f0, go_sem, Nat.reduceEqDiff, Nat.reduceAdd, Nat.reduceLeDiff, Int.reduceEq, Int.reduceLT, Int.reduceLE, Int.reduceAdd, Int.reduceSub, Int.reduceMul, Int.reduceNeg, Int.reduceToNat, Nat.reduceMul], by simp only [f5, go_sem, Nat.reduceEqDiff, Nat.reduceAdd, Nat.reduceLeDiff, Int.reduceEq, Int.reduceLT, Int.reduceLE, Int.reduceAdd, Int.reduceSub, Int.reduceMul, Int.reduceNeg, Int.reduceToNat, Nat.reduceMul], rfl, by simp only [f45, go_sem, Nat.reduceEqDiff, Nat.reduceAdd, Nat.reduceLeDiff, Int.reduceEq, Int.reduceLT, Int.reduceLE, Int.reduceAdd, Int.reduceSub, Int.reduceMul, Int.reduceNeg, Int.reduceToNat, Nat.reduceMul], by simp only [f46, go_sem, Nat.reduceEqDiff, Nat.reduceAdd, Nat.reduceLeDiff, Int.reduceEq, Int.reduceLT, Int.reduceLE, Int.reduceAdd, Int.reduceSub, Int.reduceMul, Int.reduceNeg, Int.reduceToNat, Nat.reduceMul], by simp only [go_sem, Nat.reduceEqDiff, Nat.reduceAdd, Nat.reduceLeDiff, Int.reduceEq, Int.reduceLT, Int.reduceLE, Int.reduceAdd, Int.reduceSub, Int.reduceMul, Int.reduceNeg, Int.reduceToNat, Nat.reduceMul] <;> rfl, by simp only [go_sem, Nat.reduceEqDiff, Nat.reduceAdd, Nat.reduceLeDiff, Int.reduceEq, Int.reduceLT, Int.reduceLE, Int.reduceAdd, Int.reduceSub, Int.reduceMul, Int.reduceNeg, Int.reduceToNat, Nat.reduceMul]; exact hrow.sl, hr1, hr2, ?_, by omega, ?_, fun id hid => ?_⟩
      · rw [hr3, ho3, hPv, hav, hD]; rfl
      · rw [mkH_low, lw_push, hH2l]; exact l1
      · rw [mkH_get (by rw [AH.next_push]; omega), AH.get_push_lt _ _ (by omega), hH2g _ (by omega)]; exact hold id hid
    · have hie : i = n := by omega
      subst hie
      have hsz32 : (tx k).size = 32 := by rw [tx_size, hk]
      have hx : (tx k).extract 16 32 = tx (k.drop 16) := by rw [tx_extract, List.take_of_length_le (by omega)]
      have hle16 : 16 ≤ 32 := by omega
      have hkd : (k.drop 16).length = 16 := by rw [List.length_drop]; omega
      have h64c := v64 (tbl := tbl) h64 (k.drop 16) (by omega) H'
      rw [hkd, mkS_pos (by omega), mkH_pos (by omega)] at h64c
      have hSD : Dig (dgs (k.drop 16)) := dgs_Dig
      have hrD := rowS (X := H') (l := dgs (k.drop 16)) (by rw [dgs_len]; omega)
      rw [dgs_len, hkd] at hrD
      have h68c := v68 (tbl := tbl) (H := H'.push ⟨(dgs (k.drop 16)).map I64, 1, false⟩) h68 a (dgs (k.drop 16)) haD hSD (by omega) (by rw [dgs_len]; omega) (hsl.keep keepP) (vb := .slice (some ⟨H'.next, 0, none⟩) 16 16) (by rw [dgs_len, hkd]; exact hrD)
      have hN := plusN_le (a := a) (b := dgs (k.drop 16))
      have hNp := plusN_pos (a := a) (b := dgs (k.drop 16)) (by rw [dgs_len]; omega)
      rw [dgs_len] at hN
      rw [mkS_pos hNp, mkH_pos hNp, AH.next_push] at h68c
      have hPD : Dig (plusL a (dgs (k.drop 16))) := plusL_Dig
      have hPl := plusL_len (a := a) (b := dgs (k.drop 16))
      have hPv := val_plus haD hSD
      obtain ⟨P, hP⟩ : ∃ P, P = plusL a (dgs (k.drop 16)) := ⟨_, rfl⟩
      obtain ⟨N, hNe⟩ : ∃ N, N = plusN a (dgs (k.drop 16)) := ⟨_, rfl⟩
      rw [← hP] at h68c hPD hPl hPv
      rw [← hNe] at h68c hPl hN hNp
      have hz16 : (⟨rep 16 [Value.int .u8 0], 1, false⟩ : Blk) = u8r (zb 16) := rfl
      have z1 : (0 : Int) ≤ 16 := by omega
      have z2 : (16 : Int).toNat = 16 := rfl
      have z3 : 16 ≤ 140737488355328 := by omega
      have z4 : (16 : Int) ≤ 9223372036854775807 := by omega
      have z5 : (16 : Int) ≤ 16 := by omega
      simp only [f0, f5, f10, f45, f46, f47, hlt, hsz32, hx, hle16, hz16, z1, z2, z3, z4, z5, ↓h64c.run, ↓h68c.run, go_sem, Nat.reduceEqDiff, Nat.reduceAdd, Nat.reduceLeDiff, Int.reduceEq, Int.reduceLT, Int.reduceLE, Int.reduceAdd, Int.reduceSub, Int.reduceMul, Int.reduceNeg, Int.reduceToNat, Nat.reduceMul]
      obtain ⟨K2, hK2⟩ : ∃ K2, K2 = (H'.push ⟨(dgs (k.drop 16)).map I64, 1, false⟩).push ⟨P.map I64, 1, false⟩ := ⟨_, rfl⟩
      have hK2n : K2.next = H'.next + 2 := by rw [hK2, AH.next_push, AH.next_push]
      have hK2l : H.next ≤ K2.low := by rw [hK2, lw_push, lw_push]; exact l1
      have hK2g : K2.get (H'.next + 1) = some (row .i64 P) := by
        rw [hK2]
        have := AH.get_push_eq (H'.push ⟨(dgs (k.drop 16)).map I64, 1, false⟩) ⟨P.map I64, 1, false⟩
        rw [AH.next_push] at this
        exact this
      rw [← hK2]
      have hnn : H'.next + 1 + 1 = K2.next := by omega
      rw [hnn]
      refine rn_loop (fun m f H3 => ∃ i : Nat, i ≤ 16 ∧ m = 16 - i ∧ f 10 = .slice (some ⟨H'.next + 1, 0, none⟩) N N ∧ f 13 = .slice (some ⟨K2.next, 0, none⟩) 16 16 ∧ f 67 = .int .i64 16 ∧ f 68 = .int .i64 i ∧ H3.next = K2.next + 1 ∧ H.next ≤ H3.low ∧ H3.get (H'.next + 1) = some (row .i64 P) ∧ H3.get K2.next = some (u8r (part (fun i => b8 (dig P i)) (zb 16) i))) ?_ (n := 16)
        ⟨0, by omega, by omega, by simp only [go_sem, Nat.reduceEqDiff, Nat.reduceAdd, Nat.reduceLeDiff, Int.reduceEq, Int.reduceLT, Int.reduceLE, Int.reduceAdd, Int.reduceSub, Int.reduceMul, Int.reduceNeg, Int.reduceToNat, Nat.reduceMul], by simp only [go_sem, Nat.reduceEqDiff, Nat.reduceAdd, Nat.reduceLeDiff, Int.reduceEq, Int.reduceLT, Int.reduceLE, Int.reduceAdd, Int.reduceSub, Int.reduceMul, Int.reduceNeg, Int.reduceToNat, Nat.reduceMul], by simp only [go_sem, Nat.reduceEqDiff, Nat.reduceAdd, Nat.reduceLeDiff, Int.reduceEq, Int.reduceLT, Int.reduceLE, Int.reduceAdd, Int.reduceSub, Int.reduceMul, Int.reduceNeg, Int.reduceToNat, Nat.reduceMul], by simp only [go_sem, Nat.reduceEqDiff, Nat.reduceAdd, Nat.reduceLeDiff, Int.reduceEq, Int.reduceLT, Int.reduceLE, Int.reduceAdd, Int.reduceSub, Int.reduceMul, Int.reduceNeg, Int.reduceToNat, Nat.reduceMul] <;> rfl, by rw [AH.next_push], by rw [lw_push]; exact hK2l, by rw [AH.get_push_lt _ _ (by omega)]; exact hK2g, AH.get_push_eq _ _⟩
      clear f0 f5 f10 f45 f46 f47
      rintro m' f H3 ⟨i, hi, rfl, f10, f13, f67, f68, n3, l3, gP, gZ⟩
      have hz : (zb 16).length = 16 := rfl
      have hpl : (part (fun i => b8 (dig P i)) (zb 16) i).length = 16 := by rw [part_len (by omega), hz]
      by_cases hl16 : (i : Int) < 16
      · have i0 : (0 : Int) ≤ i := by omega
        have wi := w64 (x := (i : Int) + 1) (by omega) (by omega)
        by_cases hiN : (i : Int) < N
        · have hat := row_at (k := .i64) (x := P) (i := i) (by omega)
          have hgw : gw P i = dig P i := rfl
          have hle : i + 1 ≤ P.length := by omega
          have hle2 : i + 1 ≤ 16 := by omega
          have hl1 : H'.next + 1 < K2.next + 1 := by omega
          have hl2 : K2.next < K2.next + 1 := by omega
          have hst : (part (fun i => b8 (dig P i)) (zb 16) i).set i (b8 (dig P i)) = part (fun i => b8 (dig P i)) (zb 16) (i + 1) := part_step (f := fun i => b8 (dig P i)) (by omega)
          simp only [f10, f13, f67, f68, n3, gP, gZ, hl1, hl2, hl16, hiN, i0, wi, hat, hgw, hle, hle2, hpl, hst, b8_nat, u8r_len, u8r_ro, u8r_es, u8r_set, row_len, row_ro, row_es, Int.toNat_natCast, idxSP_slc, stc_eq, stB_some, splice_one, addA, Nat.zero_add, go_sem, Nat.reduceEqDiff, Nat.reduceAdd, Nat.reduceLeDiff, Int.reduceEq, Int.reduceLT, Int.reduceLE, Int.reduceAdd, Int.reduceSub, Int.reduceMul, Int.reduceNeg, Int.reduceToNat, Nat.reduceMul]
          refine ⟨16 - (i + 1), by omega, i + 1, by omega, rfl, by simp only [f10, go_sem, Nat.reduceEqDiff, Nat.reduceAdd, Nat.reduceLeDiff, Int.reduceEq, Int.reduceLT, Int.reduceLE, Int.reduceAdd, Int.reduceSub, Int.reduceMul, Int.reduceNeg, Int.reduceToNat, Nat.reduceMul], by simp only [f13, go_sem, Nat.reduceEqDiff, Nat.reduceAdd, Nat.reduceLeDiff, Int.reduceEq, Int.reduceLT, Int.reduceLE, Int.reduceAdd, Int.reduceSub, Int.reduceMul, Int.reduceNeg, Int.reduceToNat, Nat.reduceMul], by simp only [f67, go_sem, Nat.reduceEqDiff, Nat.reduceAdd, Nat.reduceLeDiff, Int.reduceEq, Int.reduceLT, Int.reduceLE, Int.reduceAdd, Int.reduceSub, Int.reduceMul, Int.reduceNeg, Int.reduceToNat, Nat.reduceMul], by simp only [go_sem, Nat.reduceEqDiff, Nat.reduceAdd, Nat.reduceLeDiff, Int.reduceEq, Int.reduceLT, Int.reduceLE, Int.reduceAdd, Int.reduceSub, Int.reduceMul, Int.reduceNeg, Int.reduceToNat, Nat.reduceMul] <;> rfl, by rw [AH.next_set]; exact n3, by rw [lw_set]; omega, by rw [AH.get_set_ne _ _ (by omega)]; exact gP, AH.get_set_eq _ _ (by omega)⟩
        · have hs := part_same (f := fun i => b8 (dig P i)) (t := zb 16) (p := i) (by omega) (by
            show b8 (dig P i) = gb (zb 16) i
            rw [gb_zb, dig_ge (by omega)]; rfl)
          rw [hs] at gZ
          simp only [f10, f13, f67, f68, hl16, hiN, i0, wi, go_sem, Nat.reduceEqDiff, Nat.reduceAdd, Nat.reduceLeDiff, Int.reduceEq, Int.reduceLT, Int.reduceLE, Int.reduceAdd, Int.reduceSub, Int.reduceMul, Int.reduceNeg, Int.reduceToNat, Nat.reduceMul]
          refine ⟨16 - (i + 1), by omega, i + 1, by omega, rfl, by simp only [f10, go_sem, Nat.reduceEqDiff, Nat.reduceAdd, Nat.reduceLeDiff, Int.reduceEq, Int.reduceLT, Int.reduceLE, Int.reduceAdd, Int.reduceSub, Int.reduceMul, Int.reduceNeg, Int.reduceToNat, Nat.reduceMul], by simp only [f13, go_sem, Nat.reduceEqDiff, Nat.reduceAdd, Nat.reduceLeDiff, Int.reduceEq, Int.reduceLT, Int.reduceLE, Int.reduceAdd, Int.reduceSub, Int.reduceMul, Int.reduceNeg, Int.reduceToNat, Nat.reduceMul], by simp only [f67, go_sem, Nat.reduceEqDiff, Nat.reduceAdd, Nat.reduceLeDiff, Int.reduceEq, Int.reduceLT, Int.reduceLE, Int.reduceAdd, Int.reduceSub, Int.reduceMul, Int.reduceNeg, Int.reduceToNat, Nat.reduceMul], by simp only [go_sem, Nat.reduceEqDiff, Nat.reduceAdd, Nat.reduceLeDiff, Int.reduceEq, Int.reduceLT, Int.reduceLE, Int.reduceAdd, Int.reduceSub, Int.reduceMul, Int.reduceNeg, Int.reduceToNat, Nat.reduceMul] <;> rfl, n3, l3, gP, gZ⟩
      · have hie : i = 16 := by omega
        subst hie
        have hall : part (fun i => b8 (dig P i)) (zb 16) 16 = (List.range 16).map fun i => b8 (dig P i) := part_all (f := fun i => b8 (dig P i)) (t := zb 16)
        rw [hall] at gZ
        have hsb := slcBytes_row (n := 16) (c := 16) gZ (by simp)
        simp only [f10, f13, f67, f68, hl16, hsb, go_sem, Nat.reduceEqDiff, Nat.reduceAdd, Nat.reduceLeDiff, Int.reduceEq, Int.reduceLT, Int.reduceLE, Int.reduceAdd, Int.reduceSub, Int.reduceMul, Int.reduceNeg, Int.reduceToNat, Nat.reduceMul]
        rw [back_p3 (by omega) rfl]
        refine hQ ((List.range 16).map fun i => b8 (dig P i)) (by rw [List.length_map, List.length_range]) ?_
        have hd : dgs ((List.range 16).map fun i => b8 (dig P i)) = (List.range 16).map (dig P) := by
          simp only [dgs, List.map_map]
          apply List.map_congr_left
          intro i _
          exact b8_dig hPD
        have e16 : (256 : Int) ^ 16 = 340282366920938463463374607431768211456 := by decide
        rw [hd, val_mod hPD, hPv, hav, e16]
  obtain ⟨n, v, H', he, o, h1, h2, rfl, rfl⟩ := key (fun v H' => ∃ R : List UInt8, R.length = 16 ∧ val (dgs R) = (accV k m (blkN 16 m.length) + val (dgs (k.drop 16))) % 340282366920938463463374607431768211456 ∧ v = .string (tx R) ∧ H' = H) fun o h1 h2 => ⟨o, h1, h2, rfl, rfl⟩
  exact ⟨o, h1, h2, n, he⟩
end Go.Proofs.Ytildhljhbbhmmaa.AM
namespace Go.Proofs.Ytildhljhbbhmmaa.AM
open Go
set_option linter.all false
set_option maxRecDepth 10000

/-- The number of five limbs of 26 bits. -/
def lv (h : List Int) : Int := gw h 0 + 67108864 * gw h 1 + 4503599627370496 * gw h 2 + 302231454903657293676544 * gw h 3 + 20282409603651670423947251286016 * gw h 4
theorem lv5 {a b c d e : Int} : lv [a, b, c, d, e] = a + 67108864 * b + 4503599627370496 * c + 302231454903657293676544 * d + 20282409603651670423947251286016 * e := rfl
theorem carS0 {a b c d e : Int} (h : 0 ≤ b + a / 67108864 ∧ b + a / 67108864 < 18446744073709551616) : carS [a, b, c, d, e] 0 = [a % 67108864, b + a / 67108864, c, d, e] := by
  show [a % 67108864, IntKind.wrap .u64 (b + a / 67108864), c, d, e] = _
  rw [u64w h.1 h.2]
theorem carS1 {a b c d e : Int} (h : 0 ≤ c + b / 67108864 ∧ c + b / 67108864 < 18446744073709551616) : carS [a, b, c, d, e] 1 = [a, b % 67108864, c + b / 67108864, d, e] := by
  show [a, b % 67108864, IntKind.wrap .u64 (c + b / 67108864), d, e] = _
  rw [u64w h.1 h.2]
theorem carS2 {a b c d e : Int} (h : 0 ≤ d + c / 67108864 ∧ d + c / 67108864 < 18446744073709551616) : carS [a, b, c, d, e] 2 = [a, b, c % 67108864, d + c / 67108864, e] := by
  show [a, b, c % 67108864, IntKind.wrap .u64 (d + c / 67108864), e] = _
  rw [u64w h.1 h.2]
theorem carS3 {a b c d e : Int} (h : 0 ≤ e + d / 67108864 ∧ e + d / 67108864 < 18446744073709551616) : carS [a, b, c, d, e] 3 = [a, b, c, d % 67108864, e + d / 67108864] := by
  show [a, b, c, d % 67108864, IntKind.wrap .u64 (e + d / 67108864)] = _
  rw [u64w h.1 h.2]
theorem carS4 {a b c d e : Int} (h0 : 0 ≤ e ∧ e < 18446744073709551616) (h : 0 ≤ a ∧ a < 1000000000000000000) : carS [a, b, c, d, e] 4 = [a + 5 * (e / 67108864), b, c, d, e % 67108864] := by
  show [IntKind.wrap .u64 (a + IntKind.wrap .u64 (5 * (e / 67108864))), b, c, d, e % 67108864] = _
  rw [u64w (n := 5 * (e / 67108864)) (by omega) (by omega), u64w (by omega) (by omega)]
/-- What a round of carries does. -/
theorem car5 {a b c d e : Int} (ha : 0 ≤ a ∧ a < 1152921504606846976) (hb : 0 ≤ b ∧ b < 1152921504606846976) (hc : 0 ≤ c ∧ c < 1152921504606846976) (hd : 0 ≤ d ∧ d < 1152921504606846976) (he : 0 ≤ e ∧ e < 1152921504606846976) :
    ∃ a' b' c' d' e' q u v w : Int, carN [a, b, c, d, e] 5 = [a', b', c', d', e'] ∧ lv [a', b', c', d', e'] + 1361129467683753853853498429727072845819 * q = lv [a, b, c, d, e] ∧
      a' = a % 67108864 + 5 * q ∧ b' = (b + a / 67108864) % 67108864 ∧ u = (b + a / 67108864) / 67108864 ∧ c' = (c + u) % 67108864 ∧ v = (c + u) / 67108864 ∧ d' = (d + v) % 67108864 ∧ w = (d + v) / 67108864 ∧ e' = (e + w) % 67108864 ∧ q = (e + w) / 67108864 := by
  refine ⟨a % 67108864 + 5 * ((e + (d + (c + (b + a / 67108864) / 67108864) / 67108864) / 67108864) / 67108864), (b + a / 67108864) % 67108864, (c + (b + a / 67108864) / 67108864) % 67108864, (d + (c + (b + a / 67108864) / 67108864) / 67108864) % 67108864, (e + (d + (c + (b + a / 67108864) / 67108864) / 67108864) / 67108864) % 67108864, (e + (d + (c + (b + a / 67108864) / 67108864) / 67108864) / 67108864) / 67108864, (b + a / 67108864) / 67108864, (c + (b + a / 67108864) / 67108864) / 67108864, (d + (c + (b + a / 67108864) / 67108864) / 67108864) / 67108864, ?_, ?_, rfl, rfl, rfl, rfl, rfl, rfl, rfl, rfl, rfl⟩
  · show carS (carS (carS (carS (carS [a, b, c, d, e] 0) 1) 2) 3) 4 = _
    rw [carS0 (by omega), carS1 (by omega), carS2 (by omega), carS3 (by omega), carS4 (by omega) (by omega)]
  · rw [lv5, lv5]
    generalize ha' : a / 67108864 = x
    generalize hb' : (b + x) / 67108864 = y
    generalize hc' : (c + y) / 67108864 = z
    generalize hd' : (d + z) / 67108864 = t
    generalize he' : (e + t) / 67108864 = q
    omega
/-- Limbs that two rounds of carries leave. -/
def Near (h : List Int) : Prop := ∃ a b c d e : Int, h = [a, b, c, d, e] ∧ 0 ≤ a ∧ a < 67109888 ∧ 0 ≤ b ∧ b < 67108864 ∧ 0 ≤ c ∧ c < 67108864 ∧ 0 ≤ d ∧ d < 67108864 ∧ 0 ≤ e ∧ e < 67108864
theorem car_car {a b c d e : Int} (ha : 0 ≤ a ∧ a < 1152921504606846976) (hb : 0 ≤ b ∧ b < 1152921504606846976) (hc : 0 ≤ c ∧ c < 1152921504606846976) (hd : 0 ≤ d ∧ d < 1152921504606846976) (he : 0 ≤ e ∧ e < 1152921504606846976) :
    Near (carN (carN [a, b, c, d, e] 5) 5) ∧ lv (carN (carN [a, b, c, d, e] 5) 5) % 1361129467683753853853498429727072845819 = lv [a, b, c, d, e] % 1361129467683753853853498429727072845819 := by
  obtain ⟨a1, b1, c1, d1, e1, q1, u, v, w, h1, h2, e2, e3, e4, e5, e6, e7, e8, e9, e10⟩ := car5 ha hb hc hd he
  obtain ⟨a2, b2, c2, d2, e2', q2, u', v', w', g1, g2, f2, f3, f4, f5, f6, f7, f8, f9, f10⟩ := car5 (a := a1) (b := b1) (c := c1) (d := d1) (e := e1) (by omega) (by omega) (by omega) (by omega) (by omega)
  rw [h1, g1]
  refine ⟨⟨a2, b2, c2, d2, e2', rfl, ?_, ?_, ?_, ?_, ?_, ?_, ?_, ?_, ?_, ?_⟩, by omega⟩ <;> omega
end Go.Proofs.Ytildhljhbbhmmaa.AM
namespace Go.Proofs.Ytildhljhbbhmmaa.AM
open Go
set_option linter.all false
set_option maxRecDepth 10000

def W5 (x y z u v : Int) : Int := IntKind.wrap .u64 (IntKind.wrap .u64 (IntKind.wrap .u64 (IntKind.wrap .u64 (IntKind.wrap .u64 (0 + x) + y) + z) + u) + v)
theorem W5_eq {x y z u v : Int} (hx : 0 ≤ x ∧ x < 200000000000000000) (hy : 0 ≤ y ∧ y < 200000000000000000) (hz : 0 ≤ z ∧ z < 200000000000000000) (hu : 0 ≤ u ∧ u < 200000000000000000) (hv : 0 ≤ v ∧ v < 200000000000000000) : W5 x y z u v = x + y + z + u + v := by
  unfold W5
  rw [u64w (n := 0 + x) (by omega) (by omega), u64w (n := 0 + x + y) (by omega) (by omega), u64w (n := 0 + x + y + z) (by omega) (by omega), u64w (n := 0 + x + y + z + u) (by omega) (by omega), u64w (n := 0 + x + y + z + u + v) (by omega) (by omega)]
  omega
theorem prK0 {h r : List Int} {a b c d e : Int} : prK h r [a, b, c, d, e] 0 5 = [IntKind.wrap .u64 (a + mulX h r 0 0), IntKind.wrap .u64 (b + mulX h r 0 1), IntKind.wrap .u64 (c + mulX h r 0 2), IntKind.wrap .u64 (d + mulX h r 0 3), IntKind.wrap .u64 (e + mulX h r 0 4)] := rfl
theorem prK1 {h r : List Int} {a b c d e : Int} : prK h r [a, b, c, d, e] 1 5 = [IntKind.wrap .u64 (a + mulX h r 1 4), IntKind.wrap .u64 (b + mulX h r 1 0), IntKind.wrap .u64 (c + mulX h r 1 1), IntKind.wrap .u64 (d + mulX h r 1 2), IntKind.wrap .u64 (e + mulX h r 1 3)] := rfl
theorem prK2 {h r : List Int} {a b c d e : Int} : prK h r [a, b, c, d, e] 2 5 = [IntKind.wrap .u64 (a + mulX h r 2 3), IntKind.wrap .u64 (b + mulX h r 2 4), IntKind.wrap .u64 (c + mulX h r 2 0), IntKind.wrap .u64 (d + mulX h r 2 1), IntKind.wrap .u64 (e + mulX h r 2 2)] := rfl
theorem prK3 {h r : List Int} {a b c d e : Int} : prK h r [a, b, c, d, e] 3 5 = [IntKind.wrap .u64 (a + mulX h r 3 2), IntKind.wrap .u64 (b + mulX h r 3 3), IntKind.wrap .u64 (c + mulX h r 3 4), IntKind.wrap .u64 (d + mulX h r 3 0), IntKind.wrap .u64 (e + mulX h r 3 1)] := rfl
theorem prK4 {h r : List Int} {a b c d e : Int} : prK h r [a, b, c, d, e] 4 5 = [IntKind.wrap .u64 (a + mulX h r 4 1), IntKind.wrap .u64 (b + mulX h r 4 2), IntKind.wrap .u64 (c + mulX h r 4 3), IntKind.wrap .u64 (d + mulX h r 4 4), IntKind.wrap .u64 (e + mulX h r 4 0)] := rfl
theorem prN5 {h r : List Int} : prN h r 5 = [W5 (mulX h r 0 0) (mulX h r 1 4) (mulX h r 2 3) (mulX h r 3 2) (mulX h r 4 1),
    W5 (mulX h r 0 1) (mulX h r 1 0) (mulX h r 2 4) (mulX h r 3 3) (mulX h r 4 2),
    W5 (mulX h r 0 2) (mulX h r 1 1) (mulX h r 2 0) (mulX h r 3 4) (mulX h r 4 3),
    W5 (mulX h r 0 3) (mulX h r 1 2) (mulX h r 2 1) (mulX h r 3 0) (mulX h r 4 4),
    W5 (mulX h r 0 4) (mulX h r 1 3) (mulX h r 2 2) (mulX h r 3 1) (mulX h r 4 0)] := by
  show prK h r (prK h r (prK h r (prK h r (prK h r [0, 0, 0, 0, 0] 0 5) 1 5) 2 5) 3 5) 4 5 = _
  rw [prK0, prK1, prK2, prK3, prK4]
  simp only [W5]
/-- Limbs that are no greater than a sum of two. -/
def Wide (h : List Int) : Prop := h.length = 5 ∧ ∀ i, i < 5 → 0 ≤ gw h i ∧ gw h i < 150000000
def Tight (r : List Int) : Prop := r.length = 5 ∧ ∀ i, i < 5 → 0 ≤ gw r i ∧ gw r i < 67108864
theorem mulX_lo {h r : List Int} (hh : Wide h) (hr : Tight r) {i k : Nat} (hi : i < 5) (hk : k < 5) (hik : i + k < 5) : mulX h r i k = gw h i * gw r k ∧ 0 ≤ mulX h r i k ∧ mulX h r i k < 200000000000000000 := by
  have h1 := hh.2 i hi
  have h2 := hr.2 k hk
  have p0 := Int.mul_nonneg h1.1 h2.1
  have p1 : gw h i * gw r k ≤ 150000000 * 67108864 := Int.mul_le_mul (by omega) (by omega) h2.1 (by omega)
  unfold mulX
  rw [if_neg (by omega), u64w p0 (by omega)]
  exact ⟨rfl, p0, by omega⟩
theorem mulX_hi {h r : List Int} (hh : Wide h) (hr : Tight r) {i k : Nat} (hi : i < 5) (hk : k < 5) (hik : ¬ i + k < 5) : mulX h r i k = 5 * (gw h i * gw r k) ∧ 0 ≤ mulX h r i k ∧ mulX h r i k < 200000000000000000 := by
  have h1 := hh.2 i hi
  have h2 := hr.2 k hk
  have p0 := Int.mul_nonneg h1.1 h2.1
  have p1 : gw h i * gw r k ≤ 150000000 * 67108864 := Int.mul_le_mul (by omega) (by omega) h2.1 (by omega)
  unfold mulX
  rw [if_pos (by omega), u64w (n := gw h i * gw r k) p0 (by omega), u64w (by omega) (by omega)]
  refine ⟨by omega, by omega, by omega⟩
theorem lv_mul {h0 h1 h2 h3 h4 r0 r1 r2 r3 r4 : Int} :
    (h0 + 67108864 * h1 + 4503599627370496 * h2 + 302231454903657293676544 * h3 + 20282409603651670423947251286016 * h4) * (r0 + 67108864 * r1 + 4503599627370496 * r2 + 302231454903657293676544 * r3 + 20282409603651670423947251286016 * r4) =
    (h0 * r0 + 5 * (h1 * r4) + 5 * (h2 * r3) + 5 * (h3 * r2) + 5 * (h4 * r1)) + 67108864 * (h0 * r1 + h1 * r0 + 5 * (h2 * r4) + 5 * (h3 * r3) + 5 * (h4 * r2)) + 4503599627370496 * (h0 * r2 + h1 * r1 + h2 * r0 + 5 * (h3 * r4) + 5 * (h4 * r3)) + 302231454903657293676544 * (h0 * r3 + h1 * r2 + h2 * r1 + h3 * r0 + 5 * (h4 * r4)) + 20282409603651670423947251286016 * (h0 * r4 + h1 * r3 + h2 * r2 + h3 * r1 + h4 * r0) +
    1361129467683753853853498429727072845819 * ((h1 * r4 + h2 * r3 + h3 * r2 + h4 * r1) + 67108864 * (h2 * r4 + h3 * r3 + h4 * r2) + 4503599627370496 * (h3 * r4 + h4 * r3) + 302231454903657293676544 * (h4 * r4)) := by grind
theorem mulL_lv {h r : List Int} (hh : Wide h) (hr : Tight r) : Near (mulL h r) ∧ lv (mulL h r) % 1361129467683753853853498429727072845819 = (lv h * lv r) % 1361129467683753853853498429727072845819 := by
  unfold mulL
  rw [prN5]
  obtain ⟨a1, a2, a3⟩ := mulX_lo hh hr (i := 0) (k := 0) (by omega) (by omega) (by omega)
  obtain ⟨b1, b2, b3⟩ := mulX_hi hh hr (i := 1) (k := 4) (by omega) (by omega) (by omega)
  obtain ⟨c1, c2, c3⟩ := mulX_hi hh hr (i := 2) (k := 3) (by omega) (by omega) (by omega)
  obtain ⟨d1, d2, d3⟩ := mulX_hi hh hr (i := 3) (k := 2) (by omega) (by omega) (by omega)
  obtain ⟨e1, e2, e3⟩ := mulX_hi hh hr (i := 4) (k := 1) (by omega) (by omega) (by omega)
  rw [W5_eq ⟨a2, a3⟩ ⟨b2, b3⟩ ⟨c2, c3⟩ ⟨d2, d3⟩ ⟨e2, e3⟩]
  obtain ⟨f1, f2, f3⟩ := mulX_lo hh hr (i := 0) (k := 1) (by omega) (by omega) (by omega)
  obtain ⟨g1, g2, g3⟩ := mulX_lo hh hr (i := 1) (k := 0) (by omega) (by omega) (by omega)
  obtain ⟨h1, h2, h3⟩ := mulX_hi hh hr (i := 2) (k := 4) (by omega) (by omega) (by omega)
  obtain ⟨i1, i2, i3⟩ := mulX_hi hh hr (i := 3) (k := 3) (by omega) (by omega) (by omega)
  obtain ⟨j1, j2, j3⟩ := mulX_hi hh hr (i := 4) (k := 2) (by omega) (by omega) (by omega)
  rw [W5_eq ⟨f2, f3⟩ ⟨g2, g3⟩ ⟨h2, h3⟩ ⟨i2, i3⟩ ⟨j2, j3⟩]
  obtain ⟨k1, k2, k3⟩ := mulX_lo hh hr (i := 0) (k := 2) (by omega) (by omega) (by omega)
  obtain ⟨l1, l2, l3⟩ := mulX_lo hh hr (i := 1) (k := 1) (by omega) (by omega) (by omega)
  obtain ⟨m1, m2, m3⟩ := mulX_lo hh hr (i := 2) (k := 0) (by omega) (by omega) (by omega)
  obtain ⟨n1, n2, n3⟩ := mulX_hi hh hr (i := 3) (k := 4) (by omega) (by omega) (by omega)
  obtain ⟨o1, o2, o3⟩ := mulX_hi hh hr (i := 4) (k := 3) (by omega) (by omega) (by omega)
  rw [W5_eq ⟨k2, k3⟩ ⟨l2, l3⟩ ⟨m2, m3⟩ ⟨n2, n3⟩ ⟨o2, o3⟩]
  obtain ⟨p1, p2, p3⟩ := mulX_lo hh hr (i := 0) (k := 3) (by omega) (by omega) (by omega)
  obtain ⟨q1, q2, q3⟩ := mulX_lo hh hr (i := 1) (k := 2) (by omega) (by omega) (by omega)
  obtain ⟨r1, r2, r3⟩ := mulX_lo hh hr (i := 2) (k := 1) (by omega) (by omega) (by omega)
  obtain ⟨s1, s2, s3⟩ := mulX_lo hh hr (i := 3) (k := 0) (by omega) (by omega) (by omega)
  obtain ⟨t1, t2, t3⟩ := mulX_hi hh hr (i := 4) (k := 4) (by omega) (by omega) (by omega)
  rw [W5_eq ⟨p2, p3⟩ ⟨q2, q3⟩ ⟨r2, r3⟩ ⟨s2, s3⟩ ⟨t2, t3⟩]
  obtain ⟨u1, u2, u3⟩ := mulX_lo hh hr (i := 0) (k := 4) (by omega) (by omega) (by omega)
  obtain ⟨v1, v2, v3⟩ := mulX_lo hh hr (i := 1) (k := 3) (by omega) (by omega) (by omega)
  obtain ⟨w1, w2, w3⟩ := mulX_lo hh hr (i := 2) (k := 2) (by omega) (by omega) (by omega)
  obtain ⟨x1, x2, x3⟩ := mulX_lo hh hr (i := 3) (k := 1) (by omega) (by omega) (by omega)
  obtain ⟨y1, y2, y3⟩ := mulX_lo hh hr (i := 4) (k := 0) (by omega) (by omega) (by omega)
  rw [W5_eq ⟨u2, u3⟩ ⟨v2, v3⟩ ⟨w2, w3⟩ ⟨x2, x3⟩ ⟨y2, y3⟩]
  obtain ⟨z1, z2⟩ := car_car (a := mulX h r 0 0 + mulX h r 1 4 + mulX h r 2 3 + mulX h r 3 2 + mulX h r 4 1) (b := mulX h r 0 1 + mulX h r 1 0 + mulX h r 2 4 + mulX h r 3 3 + mulX h r 4 2) (c := mulX h r 0 2 + mulX h r 1 1 + mulX h r 2 0 + mulX h r 3 4 + mulX h r 4 3) (d := mulX h r 0 3 + mulX h r 1 2 + mulX h r 2 1 + mulX h r 3 0 + mulX h r 4 4) (e := mulX h r 0 4 + mulX h r 1 3 + mulX h r 2 2 + mulX h r 3 1 + mulX h r 4 0) (by omega) (by omega) (by omega) (by omega) (by omega)
  refine ⟨z1, ?_⟩
  rw [z2, lv5, a1, b1, c1, d1, e1, f1, g1, h1, i1, j1, k1, l1, m1, n1, o1, p1, q1, r1, s1, t1, u1, v1, w1, x1, y1]
  unfold lv
  rw [lv_mul, Int.add_mul_emod_self_left]
end Go.Proofs.Ytildhljhbbhmmaa.AM
namespace Go.Proofs.Ytildhljhbbhmmaa.AM
open Go
set_option linter.all false
set_option maxRecDepth 10000

theorem or_add (n p : Nat) (hp : p = 2 ^ n) {x y : Int} (h0 : 0 ≤ x) (h1 : x < (p : Int)) (y0 : 0 ≤ y) (hy : y % (p : Int) = 0) (hx : x + y < 18446744073709551616) : bitsK .or .u64 x y = x + y := by
  obtain ⟨a, rfl⟩ : ∃ a : Nat, x = a := ⟨x.toNat, by omega⟩
  obtain ⟨b, rfl⟩ : ∃ b : Nat, y = b := ⟨y.toNat, by omega⟩
  have hb : b % p = 0 := by
    have : ((b % p : Nat) : Int) = 0 := by rw [Int.natCast_emod]; exact hy
    omega
  have e : b = 2 ^ n * (b / p) := by
    have := Nat.div_add_mod b p
    rw [← hp]
    omega
  rw [or64 a b (by omega) (by omega)]
  have h := Nat.two_pow_add_eq_or_of_lt (i := n) (b := a) (by rw [← hp]; omega) (b / p)
  rw [← e] at h
  rw [Nat.or_comm, ← h]
  omega
theorem and28 {x : Int} (h : 0 ≤ x ∧ x < 4294967296) : bitsK .and .u64 x 268435455 = x % 268435456 := by
  obtain ⟨n, rfl⟩ : ∃ n : Nat, x = n := ⟨x.toNat, by omega⟩
  have e := and64 n 268435455 (by omega) (by omega)
  rw [show ((268435455 : Nat) : Int) = 268435455 from rfl] at e
  rw [e, show (268435455 : Nat) = 2 ^ 28 - 1 from rfl, Nat.and_two_pow_sub_one_eq_mod]
  rfl
theorem and28b {x : Int} (h : 0 ≤ x ∧ x < 4294967296) : bitsK .and .u64 x 268435452 = x % 268435456 / 4 * 4 := by
  obtain ⟨n, rfl⟩ : ∃ n : Nat, x = n := ⟨x.toNat, by omega⟩
  have e := and64 n 268435452 (by omega) (by omega)
  rw [show ((268435452 : Nat) : Int) = 268435452 from rfl] at e
  rw [e]
  have h1 : (n &&& 268435452) / 4 = n / 4 % 67108864 := by
    have := Nat.shiftRight_and_distrib (a := n) (b := 268435452) (i := 2)
    rw [Nat.shiftRight_eq_div_pow, Nat.shiftRight_eq_div_pow, Nat.shiftRight_eq_div_pow, show (268435452 : Nat) / 2 ^ 2 = 2 ^ 26 - 1 from rfl, Nat.and_two_pow_sub_one_eq_mod] at this
    exact this
  have h2 : (n &&& 268435452) % 4 = 0 := by
    have := Nat.and_mod_two_pow (a := n) (b := 268435452) (n := 2)
    rw [show (268435452 : Nat) % 2 ^ 2 = 0 from rfl, Nat.and_zero] at this
    exact this
  omega
theorem shl64 {x : Int} {j : Nat} (hj : j ≤ 64) : shiftK .shl .u64 x (j : Int) = (x * 2 ^ j) % 18446744073709551616 := by
  simp only [shiftK, Int.toNat_natCast]
  rw [show IntKind.u64.bits = 64 from rfl, show Nat.min j 64 = j from Nat.min_eq_left hj, u64wrap]
/-! ### The number to multiply by -/
theorem word_val {l : List UInt8} {i : Nat} : wordAt (tx l) i = ((gb l i).toNat : Int) + 256 * (gb l (i + 1)).toNat + 65536 * (gb l (i + 2)).toNat + 16777216 * (gb l (i + 3)).toNat := by
  rw [wordAt_tx]
  unfold le4
  omega
theorem lv_limbs_words {A B C D : Int} (ha : 0 ≤ A ∧ A < 268435456) (hb : 0 ≤ B ∧ B < 268435456) (hc : 0 ≤ C ∧ C < 268435456) (hd : 0 ≤ D ∧ D < 268435456) :
    [bitsK .and .u64 A 67108863, bitsK .and .u64 (bitsK .or .u64 (shiftK .shr .u64 A 26) (shiftK .shl .u64 B 6)) 67108863,
      bitsK .and .u64 (bitsK .or .u64 (shiftK .shr .u64 B 20) (shiftK .shl .u64 C 12)) 67108863,
      bitsK .and .u64 (bitsK .or .u64 (shiftK .shr .u64 C 14) (shiftK .shl .u64 D 18)) 67108863, shiftK .shr .u64 D 8] =
    [A % 67108864, (A / 67108864 + B * 64) % 67108864, (B / 1048576 + C * 4096) % 67108864, (C / 16384 + D * 262144) % 67108864, D / 256] := by
  have s1 := shr64 (x := A) (j := 26) (by omega)
  have s2 := shr64 (x := B) (j := 20) (by omega)
  have s3 := shr64 (x := C) (j := 14) (by omega)
  have s4 := shr64 (x := D) (j := 8) (by omega)
  have t1 := shl64 (x := B) (j := 6) (by omega)
  have t2 := shl64 (x := C) (j := 12) (by omega)
  have t3 := shl64 (x := D) (j := 18) (by omega)
  rw [show ((26 : Nat) : Int) = 26 from rfl, show (2 : Int) ^ 26 = 67108864 from rfl] at s1
  rw [show ((20 : Nat) : Int) = 20 from rfl, show (2 : Int) ^ 20 = 1048576 from rfl] at s2
  rw [show ((14 : Nat) : Int) = 14 from rfl, show (2 : Int) ^ 14 = 16384 from rfl] at s3
  rw [show ((8 : Nat) : Int) = 8 from rfl, show (2 : Int) ^ 8 = 256 from rfl] at s4
  rw [show ((6 : Nat) : Int) = 6 from rfl, show (2 : Int) ^ 6 = 64 from rfl] at t1
  rw [show ((12 : Nat) : Int) = 12 from rfl, show (2 : Int) ^ 12 = 4096 from rfl] at t2
  rw [show ((18 : Nat) : Int) = 18 from rfl, show (2 : Int) ^ 18 = 262144 from rfl] at t3
  rw [s1, s2, s3, s4, t1, t2, t3, Int.emod_eq_of_lt (a := B * 64) (by omega) (by omega), Int.emod_eq_of_lt (a := C * 4096) (by omega) (by omega), Int.emod_eq_of_lt (a := D * 262144) (by omega) (by omega)]
  rw [or_add 6 64 rfl (x := A / 67108864) (y := B * 64) (by omega) (by omega) (by omega) (by omega) (by omega)]
  rw [or_add 12 4096 rfl (x := B / 1048576) (y := C * 4096) (by omega) (by omega) (by omega) (by omega) (by omega)]
  rw [or_add 18 262144 rfl (x := C / 16384) (y := D * 262144) (by omega) (by omega) (by omega) (by omega) (by omega)]
  rw [mask26 (x := A) (by omega), mask26 (by omega), mask26 (by omega), mask26 (by omega)]
theorem lv_words {A B C D : Int} (ha : 0 ≤ A ∧ A < 268435456) (hb : 0 ≤ B ∧ B < 268435456) (hc : 0 ≤ C ∧ C < 268435456) (hd : 0 ≤ D ∧ D < 268435456) :
    lv [A % 67108864, (A / 67108864 + B * 64) % 67108864, (B / 1048576 + C * 4096) % 67108864, (C / 16384 + D * 262144) % 67108864, D / 256] = A + 4294967296 * B + 18446744073709551616 * C + 79228162514264337593543950336 * D := by
  rw [lv5]
  omega
def by_ (k : List UInt8) (i : Nat) : Int := (gb k i).toNat
theorem by_range {k : List UInt8} {i : Nat} : 0 ≤ by_ k i ∧ by_ k i < 256 := by
  have := UInt8.toNat_lt (gb k i)
  unfold by_
  omega
theorem dgs_take {k : List UInt8} {n : Nat} (h : n ≤ k.length) : dgs (k.take n) = (List.range n).map (by_ k) := by
  apply List.ext_getElem
  · simp [dgs]; omega
  · intro i h1 h2
    simp only [List.length_map, List.length_range] at h2
    have hi : i < k.length := by omega
    simp [dgs, by_, gb, hi]
theorem rdig_eq {k : List UInt8} (h : 16 ≤ k.length) : rdig k = [by_ k 0, by_ k 1, by_ k 2, by_ k 3 % 16, by_ k 4 / 4 * 4, by_ k 5, by_ k 6, by_ k 7 % 16, by_ k 8 / 4 * 4, by_ k 9, by_ k 10, by_ k 11 % 16, by_ k 12 / 4 * 4, by_ k 13, by_ k 14, by_ k 15 % 16] := by
  unfold rdig
  rw [dgs_take h]
  rfl
theorem limbs_lv {k : List UInt8} (h : 16 ≤ k.length) : Tight (limbs k) ∧ lv (limbs k) = val (rdig k) := by
  have r0 := wordAt_range (tx k) 0
  have r4 := wordAt_range (tx k) 4
  have r8 := wordAt_range (tx k) 8
  have r12 := wordAt_range (tx k) 12
  have e0 : c0E k = wordAt (tx k) 0 % 268435456 := and28 r0
  have e4 : c1E k 4 = wordAt (tx k) 4 % 268435456 / 4 * 4 := and28b r4
  have e8 : c1E k 8 = wordAt (tx k) 8 % 268435456 / 4 * 4 := and28b r8
  have e12 : c1E k 12 = wordAt (tx k) 12 % 268435456 / 4 * 4 := and28b r12
  have b0 : 0 ≤ c0E k ∧ c0E k < 268435456 := by omega
  have b4 : 0 ≤ c1E k 4 ∧ c1E k 4 < 268435456 := by omega
  have b8 : 0 ≤ c1E k 8 ∧ c1E k 8 < 268435456 := by omega
  have b12 : 0 ≤ c1E k 12 ∧ c1E k 12 < 268435456 := by omega
  have hl : limbs k = _ := lv_limbs_words b0 b4 b8 b12
  rw [hl]
  refine ⟨⟨rfl, fun i hi => ?_⟩, ?_⟩
  · match i, hi with
    | 0, _ => show 0 ≤ c0E k % 67108864 ∧ c0E k % 67108864 < 67108864; omega
    | 1, _ => show 0 ≤ (c0E k / 67108864 + c1E k 4 * 64) % 67108864 ∧ (c0E k / 67108864 + c1E k 4 * 64) % 67108864 < 67108864; omega
    | 2, _ => show 0 ≤ (c1E k 4 / 1048576 + c1E k 8 * 4096) % 67108864 ∧ (c1E k 4 / 1048576 + c1E k 8 * 4096) % 67108864 < 67108864; omega
    | 3, _ => show 0 ≤ (c1E k 8 / 16384 + c1E k 12 * 262144) % 67108864 ∧ (c1E k 8 / 16384 + c1E k 12 * 262144) % 67108864 < 67108864; omega
    | 4, _ => show 0 ≤ c1E k 12 / 256 ∧ c1E k 12 / 256 < 67108864; omega
  · rw [lv_words b0 b4 b8 b12, rdig_eq h, e0, e4, e8, e12, word_val, word_val, word_val, word_val]
    have q := fun i => by_range (k := k) (i := i)
    simp only [← by_.eq_def] at *
    show (by_ k 0 + 256 * by_ k 1 + 65536 * by_ k 2 + 16777216 * by_ k 3) % 268435456 + 4294967296 * ((by_ k 4 + 256 * by_ k 5 + 65536 * by_ k 6 + 16777216 * by_ k 7) % 268435456 / 4 * 4) + 18446744073709551616 * ((by_ k 8 + 256 * by_ k 9 + 65536 * by_ k 10 + 16777216 * by_ k 11) % 268435456 / 4 * 4) + 79228162514264337593543950336 * ((by_ k 12 + 256 * by_ k 13 + 65536 * by_ k 14 + 16777216 * by_ k 15) % 268435456 / 4 * 4) = _
    have w0 : (by_ k 0 + 256 * by_ k 1 + 65536 * by_ k 2 + 16777216 * by_ k 3) % 268435456 = by_ k 0 + 256 * by_ k 1 + 65536 * by_ k 2 + 16777216 * (by_ k 3 % 16) := by
      have := q 0; have := q 1; have := q 2; have := q 3; omega
    have w4 : (by_ k 4 + 256 * by_ k 5 + 65536 * by_ k 6 + 16777216 * by_ k 7) % 268435456 / 4 * 4 = by_ k 4 / 4 * 4 + 256 * by_ k 5 + 65536 * by_ k 6 + 16777216 * (by_ k 7 % 16) := by
      have := q 4; have := q 5; have := q 6; have := q 7; omega
    have w8 : (by_ k 8 + 256 * by_ k 9 + 65536 * by_ k 10 + 16777216 * by_ k 11) % 268435456 / 4 * 4 = by_ k 8 / 4 * 4 + 256 * by_ k 9 + 65536 * by_ k 10 + 16777216 * (by_ k 11 % 16) := by
      have := q 8; have := q 9; have := q 10; have := q 11; omega
    have w12 : (by_ k 12 + 256 * by_ k 13 + 65536 * by_ k 14 + 16777216 * by_ k 15) % 268435456 / 4 * 4 = by_ k 12 / 4 * 4 + 256 * by_ k 13 + 65536 * by_ k 14 + 16777216 * (by_ k 15 % 16) := by
      have := q 12; have := q 13; have := q 14; have := q 15; omega
    rw [w0, w4, w8, w12]
    simp only [val]
    omega
end Go.Proofs.Ytildhljhbbhmmaa.AM
