/- Part 5 of the texts that this claim needs. No conditions. -/
import Derived.JoinedCond
import Derived.Test.YtildhljhbbhmmaaProg
import Derived.KernelRfl
import Derived.Test.YtildhljhbbhmmaaCv4
namespace Go.Proofs.Ytildhljhbbhmmaa.AM
open Go
set_option linter.all false
set_option maxRecDepth 10000

theorem word_by {l : List UInt8} {i : Nat} : wordAt (tx l) i = by_ l i + 256 * by_ l (i + 1) + 65536 * by_ l (i + 2) + 16777216 * by_ l (i + 3) := word_val
/-- A part of a message, in limbs. -/
theorem step_limbs {p : List UInt8} :
    bitsK .and .u64 (wordAt (tx p) 0) 67108863 = by_ p 0 + 256 * by_ p 1 + 65536 * by_ p 2 + 16777216 * (by_ p 3 % 4) ∧
    bitsK .and .u64 (shiftK .shr .u64 (wordAt (tx p) 3) 2) 67108863 = by_ p 3 / 4 + 64 * by_ p 4 + 16384 * by_ p 5 + 4194304 * (by_ p 6 % 16) ∧
    bitsK .and .u64 (shiftK .shr .u64 (wordAt (tx p) 6) 4) 67108863 = by_ p 6 / 16 + 16 * by_ p 7 + 4096 * by_ p 8 + 1048576 * (by_ p 9 % 64) ∧
    bitsK .and .u64 (shiftK .shr .u64 (wordAt (tx p) 9) 6) 67108863 = by_ p 9 / 64 + 4 * by_ p 10 + 1024 * by_ p 11 + 262144 * by_ p 12 ∧
    bitsK .or .u64 (shiftK .shr .u64 (wordAt (tx p) 12) 8) (shiftK .shl .u64 ((gb p 16).toNat : Int) 24) = by_ p 13 + 256 * by_ p 14 + 65536 * by_ p 15 + 16777216 * by_ p 16 := by
  have q := fun i => by_range (k := p) (i := i)
  have r0 := wordAt_range (tx p) 0
  have r3 := wordAt_range (tx p) 3
  have r6 := wordAt_range (tx p) 6
  have r9 := wordAt_range (tx p) 9
  have r12 := wordAt_range (tx p) 12
  have s2 := shr64 (x := wordAt (tx p) 3) (j := 2) (by omega)
  have s4 := shr64 (x := wordAt (tx p) 6) (j := 4) (by omega)
  have s6 := shr64 (x := wordAt (tx p) 9) (j := 6) (by omega)
  have s8 := shr64 (x := wordAt (tx p) 12) (j := 8) (by omega)
  have t24 := shl64 (x := ((gb p 16).toNat : Int)) (j := 24) (by omega)
  rw [show ((2 : Nat) : Int) = 2 from rfl, show (2 : Int) ^ 2 = 4 from rfl] at s2
  rw [show ((4 : Nat) : Int) = 4 from rfl, show (2 : Int) ^ 4 = 16 from rfl] at s4
  rw [show ((6 : Nat) : Int) = 6 from rfl, show (2 : Int) ^ 6 = 64 from rfl] at s6
  rw [show ((8 : Nat) : Int) = 8 from rfl, show (2 : Int) ^ 8 = 256 from rfl] at s8
  rw [show ((24 : Nat) : Int) = 24 from rfl, show (2 : Int) ^ 24 = 16777216 from rfl] at t24
  have g16 : ((gb p 16).toNat : Int) = by_ p 16 := rfl
  rw [g16] at t24
  rw [s2, s4, s6, s8, g16, t24]
  refine ⟨?_, ?_, ?_, ?_, ?_⟩
  · rw [mask26 (by omega), word_by]
    have := q 0; have := q 1; have := q 2; have := q 3
    simp only [Nat.zero_add]
    omega
  · rw [mask26 (by omega), word_by]
    have := q 3; have := q 4; have := q 5; have := q 6
    simp only [Nat.reduceAdd]
    omega
  · rw [mask26 (by omega), word_by]
    have := q 6; have := q 7; have := q 8; have := q 9
    simp only [Nat.reduceAdd]
    omega
  · rw [mask26 (by omega), word_by]
    have := q 9; have := q 10; have := q 11; have := q 12
    simp only [Nat.reduceAdd]
    omega
  · have h12 := q 12
    have h13 := q 13
    have h14 := q 14
    have h15 := q 15
    have h16 := q 16
    rw [Int.emod_eq_of_lt (a := by_ p 16 * 16777216) (by omega) (by omega)]
    rw [or_add 24 16777216 rfl (x := wordAt (tx p) 12 / 256) (y := by_ p 16 * 16777216) (by omega) (by omega) (by omega) (by omega) (by omega), word_by]
    simp only [Nat.reduceAdd]
    omega
theorem val17 {p : List UInt8} (h : p.length = 17) : val (dgs p) = by_ p 0 + 256 * by_ p 1 + 65536 * by_ p 2 + 16777216 * by_ p 3 + 4294967296 * by_ p 4 + 1099511627776 * by_ p 5 + 281474976710656 * by_ p 6 + 72057594037927936 * by_ p 7 + 18446744073709551616 * by_ p 8 + 4722366482869645213696 * by_ p 9 + 1208925819614629174706176 * by_ p 10 + 309485009821345068724781056 * by_ p 11 + 79228162514264337593543950336 * by_ p 12 + 20282409603651670423947251286016 * by_ p 13 + 5192296858534827628530496329220096 * by_ p 14 + 1329227995784915872903807060280344576 * by_ p 15 + 340282366920938463463374607431768211456 * by_ p 16 := by
  have e : dgs p = (List.range 17).map (by_ p) := by
    have := dgs_take (k := p) (n := 17) (by omega)
    rw [List.take_of_length_le (by omega)] at this
    exact this
  rw [e]
  have : (List.range 17).map (by_ p) = [by_ p 0, by_ p 1, by_ p 2, by_ p 3, by_ p 4, by_ p 5, by_ p 6, by_ p 7, by_ p 8, by_ p 9, by_ p 10, by_ p 11, by_ p 12, by_ p 13, by_ p 14, by_ p 15, by_ p 16] := rfl
  rw [this]
  simp only [val]
  omega
theorem addA0 {a b c d e x : Int} (h : 0 ≤ a + x ∧ a + x < 18446744073709551616) : addAt [a, b, c, d, e] 0 x = [a + x, b, c, d, e] := by
  show [IntKind.wrap .u64 (a + x), b, c, d, e] = _
  rw [u64w h.1 h.2]
theorem addA1 {a b c d e x : Int} (h : 0 ≤ b + x ∧ b + x < 18446744073709551616) : addAt [a, b, c, d, e] 1 x = [a, b + x, c, d, e] := by
  show [a, IntKind.wrap .u64 (b + x), c, d, e] = _
  rw [u64w h.1 h.2]
theorem addA2 {a b c d e x : Int} (h : 0 ≤ c + x ∧ c + x < 18446744073709551616) : addAt [a, b, c, d, e] 2 x = [a, b, c + x, d, e] := by
  show [a, b, IntKind.wrap .u64 (c + x), d, e] = _
  rw [u64w h.1 h.2]
theorem addA3 {a b c d e x : Int} (h : 0 ≤ d + x ∧ d + x < 18446744073709551616) : addAt [a, b, c, d, e] 3 x = [a, b, c, d + x, e] := by
  show [a, b, c, IntKind.wrap .u64 (d + x), e] = _
  rw [u64w h.1 h.2]
theorem addA4 {a b c d e x : Int} (h : 0 ≤ e + x ∧ e + x < 18446744073709551616) : addAt [a, b, c, d, e] 4 x = [a, b, c, d, e + x] := by
  show [a, b, c, d, IntKind.wrap .u64 (e + x)] = _
  rw [u64w h.1 h.2]
theorem step_lv {h : List Int} (hn : Near h) {p : List UInt8} (hp : p.length = 17) (h16 : by_ p 16 ≤ 1) : Wide (stepL h p) ∧ lv (stepL h p) = lv h + val (dgs p) := by
  obtain ⟨a, b, c, d, e, rfl, a0, a1, b0, b1, c0, c1, d0, d1, e0, e1⟩ := hn
  obtain ⟨m0, m1, m2, m3, m4⟩ := step_limbs (p := p)
  have q := fun i => by_range (k := p) (i := i)
  rw [← stepL_eq, m0, m1, m2, m3, m4, val17 hp]
  have := q 0; have := q 1; have := q 2; have := q 3; have := q 4; have := q 5; have := q 6; have := q 7; have := q 8
  have := q 9; have := q 10; have := q 11; have := q 12; have := q 13; have := q 14; have := q 15; have := q 16
  rw [addA0 (by omega), addA1 (by omega), addA2 (by omega), addA3 (by omega), addA4 (by omega)]
  refine ⟨⟨rfl, fun i hi => ?_⟩, ?_⟩
  · match i, hi with
    | 0, _ => show 0 ≤ a + _ ∧ a + _ < _; omega
    | 1, _ => show 0 ≤ b + _ ∧ b + _ < _; omega
    | 2, _ => show 0 ≤ c + _ ∧ c + _ < _; omega
    | 3, _ => show 0 ≤ d + _ ∧ d + _ < _; omega
    | 4, _ => show 0 ≤ e + _ ∧ e + _ < _; omega
  · rw [lv5, lv5]
    omega
/-! ### Marks -/
theorem dgs_app {l r : List UInt8} : dgs (l ++ r) = dgs l ++ dgs r := by simp [dgs]
theorem val_zb {n : Nat} : val (dgs (zb n)) = 0 := by
  have : dgs (zb n) = List.replicate n 0 := by simp [dgs, zb]
  rw [this]; exact val_rep
theorem marked_eq {l : List UInt8} : marked l = (l.take 16 ++ [1]) ++ zb (16 - min 16 l.length) := by
  unfold marked
  rw [set_mid (i := 0) (y := 0) (by rw [List.length_take, Nat.add_zero])]
  have : zb (17 - min 16 l.length) = 0 :: zb (16 - min 16 l.length) := by
    rw [show 17 - min 16 l.length = (16 - min 16 l.length) + 1 by omega]
    simp [zb, List.replicate_succ]
  rw [this, List.append_assoc]
  rfl
theorem marked_len {l : List UInt8} : (marked l).length = 17 := by
  rw [marked_eq]
  simp only [List.length_append, List.length_take, List.length_cons, List.length_nil, zb, List.length_replicate]
  omega
theorem marked_val {l : List UInt8} : val (dgs (marked l)) = val (dgs (l.take 16 ++ [1])) := by
  rw [marked_eq, dgs_app, val_app, val_zb, Int.zero_mul, Int.add_zero]
theorem marked_top {l : List UInt8} : by_ (marked l) 16 ≤ 1 := by
  unfold by_
  rw [marked_eq]
  by_cases h : 16 ≤ l.length
  · have : gb ((l.take 16 ++ [1]) ++ zb (16 - min 16 l.length)) 16 = 1 := by
      rw [List.append_assoc, gb_app (j := 0) (by rw [List.length_take]; omega)]
      rfl
    rw [this]
    decide
  · have : gb ((l.take 16 ++ [1]) ++ zb (16 - min 16 l.length)) 16 = 0 := by
      rw [gb_app (j := 16 - (l.length + 1)) (by simp only [List.length_append, List.length_take, List.length_cons, List.length_nil]; omega), gb_zb]
    rw [this]
    decide
theorem acc_lv {k m : List UInt8} (hk : 16 ≤ k.length) : ∀ q, Near (accQ (limbs k) m q) ∧ lv (accQ (limbs k) m q) % 1361129467683753853853498429727072845819 = accV k m q % 1361129467683753853853498429727072845819 := by
  intro q
  obtain ⟨ht, hlv⟩ := limbs_lv hk
  induction q with
  | zero =>
    rw [accQ_zero]
    exact ⟨⟨0, 0, 0, 0, 0, rfl, by omega, by omega, by omega, by omega, by omega, by omega, by omega, by omega, by omega, by omega⟩, rfl⟩
  | succ q ih =>
    rw [accQ_succ]
    obtain ⟨s1, s2⟩ := step_lv ih.1 (marked_len (l := m.drop (16 * q))) marked_top
    obtain ⟨m1, m2⟩ := mulL_lv s1 ht
    refine ⟨m1, ?_⟩
    rw [m2, s2, hlv, marked_val]
    have hb : (m.drop (16 * q)).take 16 = blk 16 m q := rfl
    rw [hb, accV, Int.emod_emod, Int.mul_emod, Int.add_emod, ih.2, ← Int.add_emod, ← Int.mul_emod]
theorem accV_range {k m : List UInt8} : ∀ q, 0 ≤ accV k m q ∧ accV k m q < 1361129467683753853853498429727072845819 := by
  intro q
  cases q with
  | zero => show (0 : Int) ≤ 0 ∧ (0 : Int) < 1361129467683753853853498429727072845819; omega
  | succ q => simp only [accV]; omega
end Go.Proofs.Ytildhljhbbhmmaa.AM
namespace Go.Proofs.Ytildhljhbbhmmaa.AM
open Go
set_option linter.all false
set_option maxRecDepth 10000

/-- Limbs that are right. -/
def Norm (h : List Int) : Prop := ∃ a b c d e : Int, h = [a, b, c, d, e] ∧ 0 ≤ a ∧ a < 67108864 ∧ 0 ≤ b ∧ b < 67108864 ∧ 0 ≤ c ∧ c < 67108864 ∧ 0 ≤ d ∧ d < 67108864 ∧ 0 ≤ e ∧ e < 67108864
theorem norm_car {h : List Int} (hn : Near h) : Norm (carN h 5) ∧ lv (carN h 5) % 1361129467683753853853498429727072845819 = lv h % 1361129467683753853853498429727072845819 := by
  obtain ⟨a, b, c, d, e, rfl, a0, a1, b0, b1, c0, c1, d0, d1, e0, e1⟩ := hn
  obtain ⟨a', b', c', d', e', q, u, v, w, h1, h2, f2, f3, f4, f5, f6, f7, f8, f9, f10⟩ := car5 (a := a) (b := b) (c := c) (d := d) (e := e) (by omega) (by omega) (by omega) (by omega) (by omega)
  rw [h1]
  refine ⟨⟨a', b', c', d', e', rfl, ?_, ?_, ?_, ?_, ?_, ?_, ?_, ?_, ?_, ?_⟩, by omega⟩ <;> omega
theorem norm_near {h : List Int} (hn : Norm h) : Near h := by
  obtain ⟨a, b, c, d, e, rfl, a0, a1, b0, b1, c0, c1, d0, d1, e0, e1⟩ := hn
  exact ⟨a, b, c, d, e, rfl, a0, by omega, b0, b1, c0, c1, d0, d1, e0, e1⟩
theorem gS0 {a b c d e : Int} (h : 0 ≤ b + a / 67108864 ∧ b + a / 67108864 < 18446744073709551616) : gS [a, b, c, d, e] 0 = [a % 67108864, b + a / 67108864, c, d, e] := by
  show [a % 67108864, IntKind.wrap .u64 (b + a / 67108864), c, d, e] = _
  rw [u64w h.1 h.2]
theorem gS1 {a b c d e : Int} (h : 0 ≤ c + b / 67108864 ∧ c + b / 67108864 < 18446744073709551616) : gS [a, b, c, d, e] 1 = [a, b % 67108864, c + b / 67108864, d, e] := by
  show [a, b % 67108864, IntKind.wrap .u64 (c + b / 67108864), d, e] = _
  rw [u64w h.1 h.2]
theorem gS2 {a b c d e : Int} (h : 0 ≤ d + c / 67108864 ∧ d + c / 67108864 < 18446744073709551616) : gS [a, b, c, d, e] 2 = [a, b, c % 67108864, d + c / 67108864, e] := by
  show [a, b, c % 67108864, IntKind.wrap .u64 (d + c / 67108864), e] = _
  rw [u64w h.1 h.2]
theorem gS3 {a b c d e : Int} (h : 0 ≤ e + d / 67108864 ∧ e + d / 67108864 < 18446744073709551616) : gS [a, b, c, d, e] 3 = [a, b, c, d % 67108864, e + d / 67108864] := by
  show [a, b, c, d % 67108864, IntKind.wrap .u64 (e + d / 67108864)] = _
  rw [u64w h.1 h.2]
theorem less_lv {h : List Int} (hn : Norm h) : Norm (lessP h) ∧ lv (lessP h) = lv h % 1361129467683753853853498429727072845819 := by
  obtain ⟨a, b, c, d, e, rfl, a0, a1, b0, b1, c0, c1, d0, d1, e0, e1⟩ := hn
  have hend := red_end (l := lv [a, b, c, d, e]) (by rw [lv5]; omega) (by rw [lv5]; omega)
  rw [hend]
  have hset : [a, b, c, d, e].set 0 (IntKind.wrap .u64 (gw [a, b, c, d, e] 0 + 5)) = [a + 5, b, c, d, e] := by
    show [IntKind.wrap .u64 (a + 5), b, c, d, e] = _
    rw [u64w (by omega) (by omega)]
  have hg : gN [a + 5, b, c, d, e] 4 = [(a + 5) % 67108864, (b + (a + 5) / 67108864) % 67108864, (c + (b + (a + 5) / 67108864) / 67108864) % 67108864, (d + (c + (b + (a + 5) / 67108864) / 67108864) / 67108864) % 67108864, e + (d + (c + (b + (a + 5) / 67108864) / 67108864) / 67108864) / 67108864] := by
    show gS (gS (gS (gS [a + 5, b, c, d, e] 0) 1) 2) 3 = _
    rw [gS0 (by omega), gS1 (by omega), gS2 (by omega), gS3 (by omega)]
  unfold lessP
  rw [hset, hg]
  simp only
  generalize hx : (a + 5) / 67108864 = x
  generalize hy : (b + x) / 67108864 = y
  generalize hz : (c + y) / 67108864 = z
  generalize ht : (d + z) / 67108864 = t
  have hg4 : gw [(a + 5) % 67108864, (b + x) % 67108864, (c + y) % 67108864, (d + z) % 67108864, e + t] 4 = e + t := rfl
  rw [hg4]
  by_cases hc : 0 < (e + t) / 67108864
  · rw [if_pos hc, if_pos (by rw [lv5]; omega)]
    have hs : [(a + 5) % 67108864, (b + x) % 67108864, (c + y) % 67108864, (d + z) % 67108864, e + t].set 4 ((e + t) % 67108864) = [(a + 5) % 67108864, (b + x) % 67108864, (c + y) % 67108864, (d + z) % 67108864, (e + t) % 67108864] := rfl
    rw [hs]
    refine ⟨⟨_, _, _, _, _, rfl, ?_, ?_, ?_, ?_, ?_, ?_, ?_, ?_, ?_, ?_⟩, ?_⟩
    all_goals first | omega | (rw [lv5, lv5]; omega)
  · rw [if_neg hc, if_neg (by rw [lv5]; omega)]
    exact ⟨⟨a, b, c, d, e, rfl, a0, a1, b0, b1, c0, c1, d0, d1, e0, e1⟩, rfl⟩
theorem lohi {h : List Int} (hn : Norm h) : 0 ≤ loE h ∧ loE h < 18446744073709551616 ∧ 0 ≤ hiE h ∧ hiE h < 18446744073709551616 ∧ loE h + 18446744073709551616 * hiE h = lv h % 340282366920938463463374607431768211456 := by
  obtain ⟨a, b, c, d, e, rfl, a0, a1, b0, b1, c0, c1, d0, d1, e0, e1⟩ := hn
  have t1 := shl64 (x := b) (j := 26) (by omega)
  have t2 := shl64 (x := c) (j := 52) (by omega)
  have t3 := shl64 (x := d) (j := 14) (by omega)
  have t4 := shl64 (x := e) (j := 40) (by omega)
  rw [show ((26 : Nat) : Int) = 26 from rfl, show (2 : Int) ^ 26 = 67108864 from rfl] at t1
  rw [show ((52 : Nat) : Int) = 52 from rfl, show (2 : Int) ^ 52 = 4503599627370496 from rfl] at t2
  rw [show ((14 : Nat) : Int) = 14 from rfl, show (2 : Int) ^ 14 = 16384 from rfl] at t3
  rw [show ((40 : Nat) : Int) = 40 from rfl, show (2 : Int) ^ 40 = 1099511627776 from rfl] at t4
  have t2' : (c * 4503599627370496) % 18446744073709551616 = c % 4096 * 4503599627370496 := by omega
  have t4' : (e * 1099511627776) % 18446744073709551616 = e % 16777216 * 1099511627776 := by omega
  rw [t2'] at t2
  rw [t4'] at t4
  rw [Int.emod_eq_of_lt (by omega) (by omega)] at t1 t3
  have hlo : loE [a, b, c, d, e] = a + b * 67108864 + c % 4096 * 4503599627370496 := by
    show bitsK .or .u64 (bitsK .or .u64 a (shiftK .shl .u64 b 26)) (shiftK .shl .u64 c 52) = _
    rw [t1, t2, or_add 26 67108864 rfl (x := a) (y := b * 67108864) (by omega) (by omega) (by omega) (by omega) (by omega)]
    rw [or_add 52 4503599627370496 rfl (x := a + b * 67108864) (y := c % 4096 * 4503599627370496) (by omega) (by omega) (by omega) (by omega) (by omega)]
  have hhi : hiE [a, b, c, d, e] = c / 4096 + d * 16384 + e % 16777216 * 1099511627776 := by
    show bitsK .or .u64 (bitsK .or .u64 (c / 4096) (shiftK .shl .u64 d 14)) (shiftK .shl .u64 e 40) = _
    rw [t3, t4, or_add 14 16384 rfl (x := c / 4096) (y := d * 16384) (by omega) (by omega) (by omega) (by omega) (by omega)]
    rw [or_add 40 1099511627776 rfl (x := c / 4096 + d * 16384) (y := e % 16777216 * 1099511627776) (by omega) (by omega) (by omega) (by omega) (by omega)]
  rw [hlo, hhi, lv5]
  refine ⟨by omega, by omega, by omega, by omega, by omega⟩
theorem xE_val {s : List UInt8} {i : Nat} : xE (tx s) i = wordAt (tx s) i + 4294967296 * wordAt (tx s) (i + 4) := by
  have r0 := wordAt_range (tx s) i
  have r4 := wordAt_range (tx s) (i + 4)
  have t1 := shl64 (x := wordAt (tx s) (i + 4)) (j := 32) (by omega)
  rw [show ((32 : Nat) : Int) = 32 from rfl, show (2 : Int) ^ 32 = 4294967296 from rfl, Int.emod_eq_of_lt (by omega) (by omega)] at t1
  unfold xE
  rw [t1, or_add 32 4294967296 rfl (by omega) (by omega) (by omega) (by omega) (by omega)]
  omega
theorem val16 {p : List UInt8} (h : p.length = 16) : val (dgs p) = by_ p 0 + 256 * by_ p 1 + 65536 * by_ p 2 + 16777216 * by_ p 3 + 4294967296 * by_ p 4 + 1099511627776 * by_ p 5 + 281474976710656 * by_ p 6 + 72057594037927936 * by_ p 7 + 18446744073709551616 * by_ p 8 + 4722366482869645213696 * by_ p 9 + 1208925819614629174706176 * by_ p 10 + 309485009821345068724781056 * by_ p 11 + 79228162514264337593543950336 * by_ p 12 + 20282409603651670423947251286016 * by_ p 13 + 5192296858534827628530496329220096 * by_ p 14 + 1329227995784915872903807060280344576 * by_ p 15 := by
  have e : dgs p = (List.range 16).map (by_ p) := by
    have := dgs_take (k := p) (n := 16) (by omega)
    rw [List.take_of_length_le (by omega)] at this
    exact this
  rw [e]
  have : (List.range 16).map (by_ p) = [by_ p 0, by_ p 1, by_ p 2, by_ p 3, by_ p 4, by_ p 5, by_ p 6, by_ p 7, by_ p 8, by_ p 9, by_ p 10, by_ p 11, by_ p 12, by_ p 13, by_ p 14, by_ p 15] := rfl
  rw [this]
  simp only [val]
  omega
theorem x_val {s : List UInt8} (h : s.length = 16) : xE (tx s) 0 + 18446744073709551616 * xE (tx s) 8 = val (dgs s) := by
  rw [xE_val, xE_val, word_by, word_by, word_by, word_by, val16 h]
  simp only [Nat.reduceAdd]
  omega
theorem cl8 {lo hi : Int} : cl lo hi 8 = [b8 (lo / 2 ^ (8 * 0)), b8 (lo / 2 ^ (8 * 1)), b8 (lo / 2 ^ (8 * 2)), b8 (lo / 2 ^ (8 * 3)), b8 (lo / 2 ^ (8 * 4)), b8 (lo / 2 ^ (8 * 5)), b8 (lo / 2 ^ (8 * 6)), b8 (lo / 2 ^ (8 * 7)),
    b8 (hi / 2 ^ (8 * 0)), b8 (hi / 2 ^ (8 * 1)), b8 (hi / 2 ^ (8 * 2)), b8 (hi / 2 ^ (8 * 3)), b8 (hi / 2 ^ (8 * 4)), b8 (hi / 2 ^ (8 * 5)), b8 (hi / 2 ^ (8 * 6)), b8 (hi / 2 ^ (8 * 7))] := by
  have hz : cl lo hi 0 = [0, 0, 0, 0, 0, 0, 0, 0, 0, 0, 0, 0, 0, 0, 0, 0] := rfl
  simp only [cl] at hz ⊢
  rw [hz]
  rfl
theorem cl_val {lo hi : Int} (h0 : 0 ≤ lo ∧ lo < 18446744073709551616) (h1 : 0 ≤ hi ∧ hi < 18446744073709551616) : val (dgs (cl lo hi 8)) = lo + 18446744073709551616 * hi := by
  rw [cl8]
  simp only [dgs, List.map_cons, List.map_nil, b8_val, val]
  rw [show (2 : Int) ^ (8 * 0) = 1 from rfl, show (2 : Int) ^ (8 * 1) = 256 from rfl, show (2 : Int) ^ (8 * 2) = 65536 from rfl, show (2 : Int) ^ (8 * 3) = 16777216 from rfl, show (2 : Int) ^ (8 * 4) = 4294967296 from rfl, show (2 : Int) ^ (8 * 5) = 1099511627776 from rfl, show (2 : Int) ^ (8 * 6) = 281474976710656 from rfl, show (2 : Int) ^ (8 * 7) = 72057594037927936 from rfl]
  omega
theorem close_val {h : List Int} (hn : Near h) {s : List UInt8} (hs : s.length = 16) : val (dgs (closeC h s)) = (lv h % 1361129467683753853853498429727072845819 + val (dgs s)) % 340282366920938463463374607431768211456 := by
  obtain ⟨n1, n2⟩ := norm_car hn
  obtain ⟨n3, n4⟩ := norm_car (norm_near n1)
  obtain ⟨n5, n6⟩ := less_lv n3
  obtain ⟨l0, l1, g0, g1, g2⟩ := lohi n5
  have hx := x_val hs
  have x0 := xE_val (s := s) (i := 0)
  have x8 := xE_val (s := s) (i := 8)
  have r0 := wordAt_range (tx s) 0
  have r4 := wordAt_range (tx s) (0 + 4)
  have r8 := wordAt_range (tx s) 8
  have r12 := wordAt_range (tx s) (8 + 4)
  unfold closeC
  rw [cl_val (by omega) (by omega)]
  rw [n4, n2] at n6
  rw [← n6, ← hx]
  generalize loE (lessP (carN (carN h 5) 5)) = A at *
  generalize hiE (lessP (carN (carN h 5) 5)) = B at *
  generalize xE (tx s) 0 = X at *
  generalize xE (tx s) 8 = Y at *
  omega
theorem val_inj : ∀ {a b : List Int}, Dig a → Dig b → a.length = b.length → val a = val b → a = b := by
  intro a
  induction a with
  | nil =>
    intro b _ _ hl _
    exact (List.eq_nil_of_length_eq_zero hl.symm).symm
  | cons x a ih =>
    intro b ha hb hl hv
    cases b with
    | nil => simp at hl
    | cons y b =>
      have hx := ha 0
      have hy := hb 0
      rw [dig_cons_zero] at hx hy
      simp only [val] at hv
      have hxy : x = y := by omega
      have : val a = val b := by omega
      rw [hxy, ih ha.tail hb.tail (by simpa using hl) this]
theorem dgs_inj {a b : List UInt8} (hl : a.length = b.length) (hv : val (dgs a) = val (dgs b)) : a = b := by
  have h := val_inj dgs_Dig dgs_Dig (by rw [dgs_len, dgs_len, hl]) hv
  have hm : ∀ {l r : List UInt8}, dgs l = dgs r → l = r := by
    intro l
    induction l with
    | nil => intro r h; cases r with
      | nil => rfl
      | cons y r => simp [dgs] at h
    | cons x l ih => intro r h; cases r with
      | nil => simp [dgs] at h
      | cons y r =>
        simp only [dgs, List.map_cons, List.cons.injEq] at h
        rw [ih h.2]
        have : x.toNat = y.toNat := by omega
        rw [UInt8.toNat_inj.1 this]
  exact hm h
/-- A tag is what the reference says. -/
theorem tag_law {k m R : List UInt8} (hk : k.length = 32) (hR : R.length = 16) (hv : val (dgs R) = (accV k m (blkN 16 m.length) + val (dgs (k.drop 16))) % 340282366920938463463374607431768211456) : R = tagL k m := by
  apply dgs_inj (by rw [hR, tagL_len])
  rw [hv]
  obtain ⟨a1, a2⟩ := acc_lv (k := k) (m := m) (by omega) ((m.length + 15) / 16)
  have hc := close_val a1 (s := k.drop 16) (by rw [List.length_drop]; omega)
  have hr := accV_range (k := k) (m := m) ((m.length + 15) / 16)
  unfold tagL
  rw [hc, a2, Int.emod_eq_of_lt hr.1 hr.2]
  rfl
theorem v30t {tbl : Tbl} [hT : TMono tbl] (h30 : tbl 30 = some (.code m30)) (h64 : tbl 64 = some (.code m64)) (h65 : tbl 65 = some (.code m65)) (h66 : tbl 66 = some (.code m66)) (h67 : tbl 67 = some (.code m67)) (h68 : tbl 68 = some (.code m68)) (k m : List UInt8) (hk : k.length = 32) (hm : m.length ≤ 100000000) (H : AH) :
    Val tbl 30 [.string (tx k), .string (tx m)] H (.string (tx (tagL k m))) H := by
  obtain ⟨R, h1, h2, h3⟩ := v30 h30 h64 h65 h66 h67 h68 k m hk hm H
  rw [← tag_law hk h1 h2]
  exact h3
end Go.Proofs.Ytildhljhbbhmmaa.AM
namespace Go.Proofs.Ytildhljhbbhmmaa.AM
open Go
set_option linter.all false
set_option maxRecDepth 10000

/-- What the reference's blocks and the laws' words need. -/
structure RefT (tbl : Tbl) : Prop where
  h94 : tbl 94 = some (.code m94)
  h93 : tbl 93 = some (.code m93)
  h91 : tbl 91 = some (.code m91)
  h92 : tbl 92 = some (.code m92)
  h59 : tbl 59 = some (.code m59)
  h65 : tbl 65 = some (.code m65)
  h69 : tbl 69 = some (.code m69)
  h31 : tbl 31 = some (.code m31)
  h30 : tbl 30 = some (.code m30)
  h64 : tbl 64 = some (.code m64)
  h66 : tbl 66 = some (.code m66)
  h67 : tbl 67 = some (.code m67)
  h68 : tbl 68 = some (.code m68)
  h60 : tbl 60 = some (.code m60)
  h61 : tbl 61 = some (.code m61)
  h25 : tbl 25 = some (.code m25)
  h19 : tbl 19 = some (.code m19)
  h20 : tbl 20 = some (.code m20)
  h21 : tbl 21 = some (.code m21)
  h22 : tbl 22 = some (.code m22)
  h23 : tbl 23 = some (.code m23)
variable {tbl : Tbl} [hT : TMono tbl]

theorem v19 (h19 : tbl 19 = some (.code m19)) (H : AH) (v : Value) (l : List Int) (hs : Sl H 1 v l.length (l.map I64)) (hl : l.length < 1000000000) : Val tbl 19 [v] H (.int .i64 (firstL l)) H := by
  refine Val.of_all fun Q hQ => ?_
  obtain ⟨a, c, hv⟩ := hs.shape
  subst hv
  rw [rn_fun h19, k19]
  simp only [go_sem, Nat.reduceEqDiff, Nat.reduceAdd, Nat.reduceLeDiff, Int.reduceEq, Int.reduceLT, Int.reduceLE, Int.reduceAdd, Int.reduceSub, Int.reduceMul, Int.reduceNeg, Int.reduceToNat, Nat.reduceMul]
  refine rn_loop (fun m f H' => H' = H.enter ∧ ∃ i : Nat, i ≤ l.length ∧ m = l.length - i ∧ f 5 = .slice a l.length c ∧ f 6 = .int .i64 l.length ∧ f 7 = .int .i64 i ∧ firstL (l.drop i) = firstL l) ?_ (n := l.length) ⟨rfl, 0, by omega, by omega, by simp only [go_sem, Nat.reduceEqDiff, Nat.reduceAdd, Nat.reduceLeDiff, Int.reduceEq, Int.reduceLT, Int.reduceLE, Int.reduceAdd, Int.reduceSub, Int.reduceMul, Int.reduceNeg, Int.reduceToNat, Nat.reduceMul], by simp only [go_sem, Nat.reduceEqDiff, Nat.reduceAdd, Nat.reduceLeDiff, Int.reduceEq, Int.reduceLT, Int.reduceLE, Int.reduceAdd, Int.reduceSub, Int.reduceMul, Int.reduceNeg, Int.reduceToNat, Nat.reduceMul], by simp only [go_sem, Nat.reduceEqDiff, Nat.reduceAdd, Nat.reduceLeDiff, Int.reduceEq, Int.reduceLT, Int.reduceLE, Int.reduceAdd, Int.reduceSub, Int.reduceMul, Int.reduceNeg, Int.reduceToNat, Nat.reduceMul] <;> rfl, rfl⟩
  rintro m f H' ⟨rfl, i, hi, rfl, h5, h6, h7, hf⟩
  simp only [h5, h6, h7, go_sem, Nat.reduceEqDiff, Nat.reduceAdd, Nat.reduceLeDiff, Int.reduceEq, Int.reduceLT, Int.reduceLE, Int.reduceAdd, Int.reduceSub, Int.reduceMul, Int.reduceNeg, Int.reduceToNat, Nat.reduceMul]
  refine iteP_intro ?_ ?_ <;> intro hlt
  · simp only [h5, h6, h7, go_sem, Nat.reduceEqDiff, Nat.reduceAdd, Nat.reduceLeDiff, Int.reduceEq, Int.reduceLT, Int.reduceLE, Int.reduceAdd, Int.reduceSub, Int.reduceMul, Int.reduceNeg, Int.reduceToNat, Nat.reduceMul]
    have hi : i < l.length := by omega
    rw [List.drop_eq_getElem_cons hi] at hf
    refine hs.int hi fun p hpl hp => ?_
    simp only [h5, h6, h7, hp, go_sem, Nat.reduceEqDiff, Nat.reduceAdd, Nat.reduceLeDiff, Int.reduceEq, Int.reduceLT, Int.reduceLE, Int.reduceAdd, Int.reduceSub, Int.reduceMul, Int.reduceNeg, Int.reduceToNat, Nat.reduceMul]
    refine iteP_intro ?_ ?_ <;> intro hz
    · simp only [hz, firstL, if_true] at hf
      simp only [h5, h6, h7, hp, go_sem, Nat.reduceEqDiff, Nat.reduceAdd, Nat.reduceLeDiff, Int.reduceEq, Int.reduceLT, Int.reduceLE, Int.reduceAdd, Int.reduceSub, Int.reduceMul, Int.reduceNeg, Int.reduceToNat, Nat.reduceMul]
      rw [w64 (by omega) (by omega)]
      exact ⟨l.length - (i + 1), by omega, rfl, i + 1, by omega, rfl, by simp only [h5, go_sem, Nat.reduceEqDiff, Nat.reduceAdd, Nat.reduceLeDiff, Int.reduceEq, Int.reduceLT, Int.reduceLE, Int.reduceAdd, Int.reduceSub, Int.reduceMul, Int.reduceNeg, Int.reduceToNat, Nat.reduceMul], by simp only [h6, go_sem, Nat.reduceEqDiff, Nat.reduceAdd, Nat.reduceLeDiff, Int.reduceEq, Int.reduceLT, Int.reduceLE, Int.reduceAdd, Int.reduceSub, Int.reduceMul, Int.reduceNeg, Int.reduceToNat, Nat.reduceMul], by simp only [go_sem, Nat.reduceEqDiff, Nat.reduceAdd, Nat.reduceLeDiff, Int.reduceEq, Int.reduceLT, Int.reduceLE, Int.reduceAdd, Int.reduceSub, Int.reduceMul, Int.reduceNeg, Int.reduceToNat, Nat.reduceMul] <;> rfl, hf⟩
    · simp only [firstL, if_neg hz] at hf
      simp only [h5, h6, h7, hp, go_sem, Nat.reduceEqDiff, Nat.reduceAdd, Nat.reduceLeDiff, Int.reduceEq, Int.reduceLT, Int.reduceLE, Int.reduceAdd, Int.reduceSub, Int.reduceMul, Int.reduceNeg, Int.reduceToNat, Nat.reduceMul]
      rw [hf]
      exact hQ
  · have hi : i = l.length := by omega
    subst hi
    rw [List.drop_length] at hf
    rw [← hf] at hQ
    simp only [h5, h6, h7, go_sem, Nat.reduceEqDiff, Nat.reduceAdd, Nat.reduceLeDiff, Int.reduceEq, Int.reduceLT, Int.reduceLE, Int.reduceAdd, Int.reduceSub, Int.reduceMul, Int.reduceNeg, Int.reduceToNat, Nat.reduceMul]
    exact hQ
theorem v21 (h21 : tbl 21 = some (.code m21)) (p : Prop) [Decidable p] (e : Int) (H : AH) : Val tbl 21 [.bool (decide p), .int .i64 e] H (.int .i64 (if p then e else 0)) H := by
  refine Val.of_all fun Q hQ => ?_
  rw [rn_fun h21, k21]
  by_cases hp : p
  · rw [if_pos hp] at hQ
    simp only [hp, go_sem, Nat.reduceEqDiff, Nat.reduceAdd, Nat.reduceLeDiff, Int.reduceEq, Int.reduceLT, Int.reduceLE, Int.reduceAdd, Int.reduceSub, Int.reduceMul, Int.reduceNeg, Int.reduceToNat, Nat.reduceMul]
    exact hQ
  · rw [if_neg hp] at hQ
    simp only [hp, go_sem, Nat.reduceEqDiff, Nat.reduceAdd, Nat.reduceLeDiff, Int.reduceEq, Int.reduceLT, Int.reduceLE, Int.reduceAdd, Int.reduceSub, Int.reduceMul, Int.reduceNeg, Int.reduceToNat, Nat.reduceMul]
    exact hQ
theorem v20 (h21 : tbl 21 = some (.code m21)) (h20 : tbl 20 = some (.code m20)) (k n : List UInt8) (H : AH) : Val tbl 20 [.string (tx k), .string (tx n)] H (.int .i64 (if k.length = 32 ∧ n.length = 12 then 0 else 6)) H := by
  refine Val.of_all fun Q hQ => ?_
  rw [rn_fun h20, k20]
  have hv := fun p => v21 (tbl := tbl) h21 (p = true) 6
  have e32 : ((k.length : Int) = 32) ↔ k.length = 32 := by omega
  have e12 : ((n.length : Int) = 12) ↔ n.length = 12 := by omega
  have hT2 := v21 (tbl := tbl) h21 True 6
  have hF2 := v21 (tbl := tbl) h21 False 6
  rw [decide_true, if_pos trivial] at hT2
  rw [decide_false, if_neg (fun h => h)] at hF2
  simp only [tx_size, e32, go_sem, Nat.reduceEqDiff, Nat.reduceAdd, Nat.reduceLeDiff, Int.reduceEq, Int.reduceLT, Int.reduceLE, Int.reduceAdd, Int.reduceSub, Int.reduceMul, Int.reduceNeg, Int.reduceToNat, Nat.reduceMul]
  by_cases h1 : k.length = 32
  · by_cases h2 : n.length = 12
    · rw [if_pos ⟨h1, h2⟩] at hQ
      simp only [h1, h2, tx_size, e12, ↓(hF2 _).run, go_sem, Nat.reduceEqDiff, Nat.reduceAdd, Nat.reduceLeDiff, Int.reduceEq, Int.reduceLT, Int.reduceLE, Int.reduceAdd, Int.reduceSub, Int.reduceMul, Int.reduceNeg, Int.reduceToNat, Nat.reduceMul]
      exact hQ
    · rw [if_neg fun h => h2 h.2] at hQ
      simp only [h1, h2, tx_size, e12, ↓(hT2 _).run, go_sem, Nat.reduceEqDiff, Nat.reduceAdd, Nat.reduceLeDiff, Int.reduceEq, Int.reduceLT, Int.reduceLE, Int.reduceAdd, Int.reduceSub, Int.reduceMul, Int.reduceNeg, Int.reduceToNat, Nat.reduceMul]
      exact hQ
  · rw [if_neg fun h => h1 h.1] at hQ
    simp only [h1, ↓(hT2 _).run, go_sem, Nat.reduceEqDiff, Nat.reduceAdd, Nat.reduceLeDiff, Int.reduceEq, Int.reduceLT, Int.reduceLE, Int.reduceAdd, Int.reduceSub, Int.reduceMul, Int.reduceNeg, Int.reduceToNat, Nat.reduceMul]
    exact hQ
theorem v22 (h22 : tbl 22 = some (.code m22)) (l : List UInt8) (H : AH) : Val tbl 22 [.string (tx l)] H (.bool (decide (l.length ≤ 10000))) H := by
  refine Val.of_all fun Q hQ => ?_
  rw [rn_fun h22, k22]
  have e : ((l.length : Int) ≤ 10000) ↔ l.length ≤ 10000 := by omega
  simp only [tx_size, e, go_sem, Nat.reduceEqDiff, Nat.reduceAdd, Nat.reduceLeDiff, Int.reduceEq, Int.reduceLT, Int.reduceLE, Int.reduceAdd, Int.reduceSub, Int.reduceMul, Int.reduceNeg, Int.reduceToNat, Nat.reduceMul]
  exact hQ
theorem tx_nil : (⟨#[]⟩ : ByteArray) = tx [] := rfl
theorem v23 (h23 : tbl 23 = some (.code m23)) (s t : List UInt8) (e w : Int) (H : AH) : Val tbl 23 [.string (tx s), .int .i64 e, .string (tx t), .int .i64 w] H (.bool (if w = 0 then decide (s = t ∧ e = 0) else decide (s = [] ∧ e = w))) H := by
  refine Val.of_all fun Q hQ => ?_
  rw [rn_fun h23, k23]
  by_cases hw : w = 0
  · subst hw
    rw [if_pos rfl] at hQ
    by_cases hs : s = t
    · subst hs
      simp only [tx_inj, go_sem, Nat.reduceEqDiff, Nat.reduceAdd, Nat.reduceLeDiff, Int.reduceEq, Int.reduceLT, Int.reduceLE, Int.reduceAdd, Int.reduceSub, Int.reduceMul, Int.reduceNeg, Int.reduceToNat, Nat.reduceMul]
      exact leaf hQ (by simp) rfl
    · simp only [tx_inj, hs, go_sem, Nat.reduceEqDiff, Nat.reduceAdd, Nat.reduceLeDiff, Int.reduceEq, Int.reduceLT, Int.reduceLE, Int.reduceAdd, Int.reduceSub, Int.reduceMul, Int.reduceNeg, Int.reduceToNat, Nat.reduceMul]
      exact leaf hQ (by simp [hs]) rfl
  · rw [if_neg hw] at hQ
    by_cases hs : s = []
    · subst hs
      simp only [hw, tx_nil, tx_inj, go_sem, Nat.reduceEqDiff, Nat.reduceAdd, Nat.reduceLeDiff, Int.reduceEq, Int.reduceLT, Int.reduceLE, Int.reduceAdd, Int.reduceSub, Int.reduceMul, Int.reduceNeg, Int.reduceToNat, Nat.reduceMul]
      exact leaf hQ (by simp) rfl
    · simp only [hw, tx_nil, tx_inj, hs, go_sem, Nat.reduceEqDiff, Nat.reduceAdd, Nat.reduceLeDiff, Int.reduceEq, Int.reduceLT, Int.reduceLE, Int.reduceAdd, Int.reduceSub, Int.reduceMul, Int.reduceNeg, Int.reduceToNat, Nat.reduceMul]
      exact leaf hQ (by simp [hs]) rfl
end Go.Proofs.Ytildhljhbbhmmaa.AM
namespace Go.Proofs.Ytildhljhbbhmmaa.AM
open Go
set_option linter.all false
set_option maxRecDepth 10000
variable {tbl : Tbl} [hT : TMono tbl]

theorem zb_len {n : Nat} : (zb n).length = n := by simp [zb]
theorem zb_succ {n : Nat} : zb n ++ [0] = zb (n + 1) := by simp [zb, List.replicate_succ']
theorem v60 (h60 : tbl 60 = some (.code m60)) (l : List UInt8) (hl : l.length ≤ 4611686018427387) (H : AH) : Val tbl 60 [.string (tx l)] H (.string (tx (l ++ fillL l))) H := by
  refine Val.of_all fun Q hQ => ?_
  rw [rn_fun h60, k60]
  simp only [go_sem, Nat.reduceEqDiff, Nat.reduceAdd, Nat.reduceLeDiff, Int.reduceEq, Int.reduceLT, Int.reduceLE, Int.reduceAdd, Int.reduceSub, Int.reduceMul, Int.reduceNeg, Int.reduceToNat, Nat.reduceMul]
  refine rn_loop (fun m f H' => ∃ j : Nat, j ≤ (16 - l.length % 16) % 16 ∧ m = (16 - l.length % 16) % 16 - j ∧ f 0 = .string (tx (l ++ zb j)) ∧ H' = H.enter) ?_ (n := (16 - l.length % 16) % 16)
    ⟨0, by omega, by omega, by simp only [zb, List.replicate_zero, List.append_nil, go_sem, Nat.reduceEqDiff, Nat.reduceAdd, Nat.reduceLeDiff, Int.reduceEq, Int.reduceLT, Int.reduceLE, Int.reduceAdd, Int.reduceSub, Int.reduceMul, Int.reduceNeg, Int.reduceToNat, Nat.reduceMul], rfl⟩
  rintro m f H' ⟨j, hj, rfl, f0, rfl⟩
  have hlen : (l ++ zb j).length = l.length + j := by rw [List.length_append, zb_len]
  have e1 : ((l.length + j : Nat) : Int).tmod 16 = (((l.length + j) % 16 : Nat) : Int) := by rw [Int.tmod_eq_emod_of_nonneg (by omega)]; omega
  have e2 : ((((l.length + j) % 16 : Nat) : Int) = 0) ↔ (l.length + j) % 16 = 0 := by omega
  have hone : (⟨#[0]⟩ : ByteArray) = tx [0] := rfl
  have hsz : (tx (l ++ zb j)).size + (tx [0]).size ≤ 9223372036854775807 := by
    rw [tx_size, tx_size, hlen]
    have : [(0 : UInt8)].length = 1 := rfl
    omega
  by_cases h : (l.length + j) % 16 = 0
  · have hje : j = (16 - l.length % 16) % 16 := by omega
    simp only [f0, tx_size, hlen, e1, e2, h, go_sem, Nat.reduceEqDiff, Nat.reduceAdd, Nat.reduceLeDiff, Int.reduceEq, Int.reduceLT, Int.reduceLE, Int.reduceAdd, Int.reduceSub, Int.reduceMul, Int.reduceNeg, Int.reduceToNat, Nat.reduceMul]
    rw [hje]
    exact hQ
  · simp only [f0, tx_size, hlen, e1, e2, h, hone, hsz, tx_cat, go_sem, Nat.reduceEqDiff, Nat.reduceAdd, Nat.reduceLeDiff, Int.reduceEq, Int.reduceLT, Int.reduceLE, Int.reduceAdd, Int.reduceSub, Int.reduceMul, Int.reduceNeg, Int.reduceToNat, Nat.reduceMul]
    rw [if_pos (by omega)]
    refine ⟨(16 - l.length % 16) % 16 - (j + 1), by omega, j + 1, by omega, rfl, by simp only [tx_cat, List.append_assoc, zb_succ, go_sem, Nat.reduceEqDiff, Nat.reduceAdd, Nat.reduceLeDiff, Int.reduceEq, Int.reduceLT, Int.reduceLE, Int.reduceAdd, Int.reduceSub, Int.reduceMul, Int.reduceNeg, Int.reduceToNat, Nat.reduceMul], rfl⟩
theorem b8_congr {x y : Int} (h : x % 256 = y % 256) : b8 x = b8 y := by
  unfold b8; rw [h]
theorem shr63 {n : Int} {j : Nat} (hj : j ≤ 63) : shiftK .shr .i64 n (j : Int) = n / 2 ^ j := by
  simp only [shiftK, Int.toNat_natCast]
  rw [show IntKind.i64.bits = 64 from rfl, show Nat.min j 64 = j from Nat.min_eq_left (by omega), Int.fdiv_eq_ediv_of_nonneg _ (by
    have : (0 : Int) ≤ ((2 ^ j : Nat) : Int) := Int.natCast_nonneg _
    simpa using this)]
theorem le8_eq {n : Int} : le8 n = little (IntKind.wrap .u32 n) ++ little (IntKind.wrap .u32 (shiftK .shr .i64 n 32)) := by
  have h := fun j (hj : j ≤ 63) => shr63 (n := n) (j := j) hj
  have g1 := fun c => shr32 c 8 (by omega)
  have g2 := fun c => shr32 c 16 (by omega)
  have g3 := fun c => shr32 c 24 (by omega)
  have e : le8 n = [b8 (shiftK .shr .i64 n ((8 * 0 : Nat) : Int)), b8 (shiftK .shr .i64 n ((8 * 1 : Nat) : Int)), b8 (shiftK .shr .i64 n ((8 * 2 : Nat) : Int)), b8 (shiftK .shr .i64 n ((8 * 3 : Nat) : Int)), b8 (shiftK .shr .i64 n ((8 * 4 : Nat) : Int)), b8 (shiftK .shr .i64 n ((8 * 5 : Nat) : Int)), b8 (shiftK .shr .i64 n ((8 * 6 : Nat) : Int)), b8 (shiftK .shr .i64 n ((8 * 7 : Nat) : Int))] := rfl
  rw [e, h _ (by omega), h _ (by omega), h _ (by omega), h _ (by omega), h _ (by omega), h _ (by omega), h _ (by omega), h _ (by omega)]
  have h32 := h 32 (by omega)
  rw [show ((32 : Nat) : Int) = 32 from rfl] at h32
  rw [h32]
  simp only [little]
  rw [show (8 : Int) = ((8 : Nat) : Int) from rfl, show (16 : Int) = ((16 : Nat) : Int) from rfl, show (24 : Int) = ((24 : Nat) : Int) from rfl, g1, g2, g3, g1, g2, g3, IntKind.wrap_u32, IntKind.wrap_u32]
  simp only [List.cons_append, List.nil_append]
  rw [show (2 : Int) ^ (8 * 0) = 1 from rfl, show (2 : Int) ^ (8 * 1) = 256 from rfl, show (2 : Int) ^ (8 * 2) = 65536 from rfl, show (2 : Int) ^ (8 * 3) = 16777216 from rfl, show (2 : Int) ^ (8 * 4) = 4294967296 from rfl, show (2 : Int) ^ (8 * 5) = 1099511627776 from rfl, show (2 : Int) ^ (8 * 6) = 281474976710656 from rfl, show (2 : Int) ^ (8 * 7) = 72057594037927936 from rfl]
  rw [b8_congr (x := n / 1) (y := n % 4294967296) (by omega), b8_congr (x := n / 256) (y := n % 4294967296 / 256) (by omega), b8_congr (x := n / 65536) (y := n % 4294967296 / 65536) (by omega), b8_congr (x := n / 16777216) (y := n % 4294967296 / 16777216) (by omega),
    b8_congr (x := n / 4294967296) (y := n / 4294967296 % 4294967296) (by omega), b8_congr (x := n / 1099511627776) (y := n / 4294967296 % 4294967296 / 256) (by omega), b8_congr (x := n / 281474976710656) (y := n / 4294967296 % 4294967296 / 65536) (by omega), b8_congr (x := n / 72057594037927936) (y := n / 4294967296 % 4294967296 / 16777216) (by omega)]
theorem v61 (h91 : tbl 91 = some (.code m91)) (h61 : tbl 61 = some (.code m61)) (n : Int) (H : AH) : Val tbl 61 [.int .i64 n] H (.string (tx (le8 n))) H := by
  refine Val.of_all fun Q hQ => ?_
  rw [rn_fun h61, k61]
  have a1 := v91 (tbl := tbl) h91 (IntKind.wrap .u32 n)
  have a2 := v91 (tbl := tbl) h91 (IntKind.wrap .u32 (shiftK .shr .i64 n 32))
  have hsz : (tx (little (IntKind.wrap .u32 n))).size + (tx (little (IntKind.wrap .u32 (shiftK .shr .i64 n 32)))).size ≤ 9223372036854775807 := by
    rw [tx_size, tx_size, little_len, little_len]; omega
  simp only [↓(a1 _).run, ↓(a2 _).run, hsz, tx_cat, ← le8_eq, go_sem, Nat.reduceEqDiff, Nat.reduceAdd, Nat.reduceLeDiff, Int.reduceEq, Int.reduceLT, Int.reduceLE, Int.reduceAdd, Int.reduceSub, Int.reduceMul, Int.reduceNeg, Int.reduceToNat, Nat.reduceMul]
  exact hQ
theorem v25 (R : RefT tbl) (k n e t : List UInt8) (hk : k.length = 32) (hn : n.length = 12) (he : e.length ≤ 1048576) (ht : t.length ≤ 1048576) (H : AH) :
    Val tbl 25 [.string (tx k), .string (tx n), .string (tx e), .string (tx t)] H (.string (tx (sealL k n e t))) H := by
  refine Val.of_all fun Q hQ => ?_
  rw [rn_fun R.h25, k25]
  have hst := v31 (tbl := tbl) R.h94 R.h93 R.h91 R.h92 R.h59 R.h65 R.h69 R.h31 k n 1 hk hn (by omega) t (by omega)
  have hsl : (streamL k n 1 t).length = t.length := streamL_len
  have hch := v59 (tbl := tbl) R.h94 R.h93 R.h91 R.h92 R.h59 k n 0 hk hn (by omega)
  have hs32 : 32 ≤ (tx (chacha k n 0)).size := by rw [tx_size, chacha_len]; omega
  have hx : (tx (chacha k n 0)).extract 0 32 = tx ((chacha k n 0).take 32) := by rw [tx_extract]; rfl
  have f1 := v60 (tbl := tbl) R.h60 e (by omega)
  have f2 := v60 (tbl := tbl) R.h60 (streamL k n 1 t) (by omega)
  have l1 := fillL_len (l := e)
  have l2 := fillL_len (l := streamL k n 1 t)
  have g1 := v61 (tbl := tbl) R.h91 R.h61 (e.length : Int)
  have g2 := v61 (tbl := tbl) R.h91 R.h61 ((streamL k n 1 t).length : Int)
  have hm := msgL_len (e := e) (s := streamL k n 1 t)
  have hmsg : e ++ fillL e ++ (streamL k n 1 t ++ fillL (streamL k n 1 t)) ++ le8 e.length ++ le8 (streamL k n 1 t).length = msgL e (streamL k n 1 t) := by simp [msgL]
  have htag := v30t (tbl := tbl) R.h30 R.h64 R.h65 R.h66 R.h67 R.h68 ((chacha k n 0).take 32) (msgL e (streamL k n 1 t)) (by rw [List.length_take, chacha_len]; rfl) (by omega)
  have s1 : (tx (e ++ fillL e)).size + (tx (streamL k n 1 t ++ fillL (streamL k n 1 t))).size ≤ 9223372036854775807 := by
    rw [tx_size, tx_size, List.length_append, List.length_append]; omega
  have s2 : (tx (e ++ fillL e ++ (streamL k n 1 t ++ fillL (streamL k n 1 t)))).size + (tx (le8 e.length)).size ≤ 9223372036854775807 := by
    rw [tx_size, tx_size, List.length_append, List.length_append, List.length_append, le8_len]; omega
  have s3 : (tx (e ++ fillL e ++ (streamL k n 1 t ++ fillL (streamL k n 1 t)) ++ le8 e.length)).size + (tx (le8 (streamL k n 1 t).length)).size ≤ 9223372036854775807 := by
    rw [tx_size, tx_size, List.length_append, List.length_append, List.length_append, List.length_append, le8_len, le8_len]; omega
  have s4 : (tx (streamL k n 1 t)).size + (tx (tagL ((chacha k n 0).take 32) (msgL e (streamL k n 1 t)))).size ≤ 9223372036854775807 := by
    rw [tx_size, tx_size, tagL_len]; omega
  simp only [↓(hst _).run, ↓(hch _).run, hs32, hx, ↓(f1 _).run, ↓(f2 _).run, s1, tx_cat, go_sem, Nat.reduceEqDiff, Nat.reduceAdd, Nat.reduceLeDiff, Int.reduceEq, Int.reduceLT, Int.reduceLE, Int.reduceAdd, Int.reduceSub, Int.reduceMul, Int.reduceNeg, Int.reduceToNat, Nat.reduceMul]
  rw [tx_size, tx_size] at s2 s3 s4
  simp only [tx_size, ↓(g1 _).run, ↓(g2 _).run, s2, s3, hx, tx_cat, hmsg, ↓(htag _).run, s4, go_sem, Nat.reduceEqDiff, Nat.reduceAdd, Nat.reduceLeDiff, Int.reduceEq, Int.reduceLT, Int.reduceLE, Int.reduceAdd, Int.reduceSub, Int.reduceMul, Int.reduceNeg, Int.reduceToNat, Nat.reduceMul]
  exact hQ
end Go.Proofs.Ytildhljhbbhmmaa.AM
namespace Go.Proofs.Ytildhljhbbhmmaa.AM
open Go
set_option linter.all false
set_option maxRecDepth 10000
variable {tbl : Tbl} [hT : TMono tbl]

theorem streamL_at {k n : List UInt8} {c : Int} {t : List UInt8} {j : Nat} (h : j < t.length) : gb (streamL k n c t) j = sx k n c t j := by
  simp [streamL, gb, h]
/-- The stream twice is nothing. -/
theorem streamL_twice {k n : List UInt8} {c : Int} {t : List UInt8} : streamL k n c (streamL k n c t) = t := by
  apply List.ext_getElem
  · simp [streamL]
  · intro j h1 h2
    have hl : j < t.length := h2
    have e1 : (streamL k n c (streamL k n c t))[j] = sx k n c (streamL k n c t) j := by simp [streamL]
    rw [e1, sx, streamL_at hl, sx, UInt8.xor_assoc, UInt8.xor_self, UInt8.xor_zero]
    simp [gb, hl]
/-- What is opened of a sealed block. -/
def tagOk (k n e t : List UInt8) : Prop := 16 ≤ t.length ∧ btag k n e (t.take (t.length - 16)) = t.drop (t.length - 16)
instance {k n e t : List UInt8} : Decidable (tagOk k n e t) := by unfold tagOk; infer_instance
def bodyL (k n t : List UInt8) : List UInt8 := streamL k n 1 (t.take (t.length - 16))
theorem tagOk_seal {k n e t : List UInt8} : tagOk k n e (sealL k n e t) ∧ bodyL k n (sealL k n e t) = t := by
  have hl := sealL_len (k := k) (n := n) (e := e) (t := t)
  have hs : (streamL k n 1 t).length = t.length := streamL_len
  have e1 : (sealL k n e t).take ((sealL k n e t).length - 16) = streamL k n 1 t := by
    rw [hl, sealL, List.take_append_of_le_length (by omega), List.take_of_length_le (by omega)]
  have e2 : (sealL k n e t).drop ((sealL k n e t).length - 16) = btag k n e (streamL k n 1 t) := by
    rw [hl, sealL, List.drop_append_of_le_length (by omega), List.drop_of_length_le (by omega), List.nil_append]
  refine ⟨⟨by omega, by rw [e1, e2]⟩, ?_⟩
  unfold bodyL
  rw [e1, streamL_twice]
/-- The reference's test is the tag's. -/
theorem seal_body {k n e t : List UInt8} (h : 16 ≤ t.length) : sealL k n e (bodyL k n t) = t ↔ tagOk k n e t := by
  unfold sealL bodyL tagOk
  rw [streamL_twice]
  constructor
  · intro he
    refine ⟨h, ?_⟩
    have hd := congrArg (List.drop (t.length - 16)) he
    rw [List.drop_append_of_le_length (by simp), List.drop_of_length_le (by simp), List.nil_append] at hd
    exact hd
  · intro he
    rw [he.2]
    exact List.take_append_drop _ _
theorem eqAt_bc {X Y : List UInt8} : ∀ l : List Nat, (∀ i ∈ l, i < X.length ∧ i < Y.length) → eqAt (bc X) (bc Y) (l.map fun i => (i, TK.int)) = some (l.all fun i => gb X i == gb Y i) := by
  intro l
  induction l with
  | nil => intro _; rfl
  | cons i l ih =>
    intro h
    obtain ⟨h1, h2⟩ := h i (by simp)
    have e1 : (bc X)[i]? = some (.int .u8 ((gb X i).toNat : Int)) := by simp [bc, U8, gb, h1]
    have e2 : (bc Y)[i]? = some (.int .u8 ((gb Y i).toNat : Int)) := by simp [bc, U8, gb, h2]
    simp only [List.map_cons, eqAt, e1, e2, cellEq, if_true, ih fun j hj => h j (by simp [hj]), List.all_cons]
    congr 2
    have : (((gb X i).toNat : Int) = (gb Y i).toNat) ↔ gb X i = gb Y i := by
      constructor
      · intro h; exact UInt8.toNat_inj.1 (by omega)
      · intro h; rw [h]
    by_cases hg : gb X i = gb Y i
    · simp [hg]
    · have : ¬ (((gb X i).toNat : Int) = (gb Y i).toNat) := fun h => hg (this.1 h)
      simp [hg, this]
theorem eqAt16 {X Y : List UInt8} (hX : X.length = 16) (hY : Y.length = 16) : eqAt (bc X) (bc Y) [(0, .int), (1, .int), (2, .int), (3, .int), (4, .int), (5, .int), (6, .int), (7, .int), (8, .int), (9, .int), (10, .int), (11, .int), (12, .int), (13, .int), (14, .int), (15, .int)] = some (decide (X = Y)) := by
  have h := eqAt_bc (X := X) (Y := Y) (List.range 16) (fun i hi => by rw [List.mem_range] at hi; omega)
  have e : (List.range 16).map (fun i => (i, TK.int)) = [(0, .int), (1, .int), (2, .int), (3, .int), (4, .int), (5, .int), (6, .int), (7, .int), (8, .int), (9, .int), (10, .int), (11, .int), (12, .int), (13, .int), (14, .int), (15, .int)] := rfl
  rw [e] at h
  rw [h]
  congr 1
  by_cases hXY : X = Y
  · subst hXY; simp
  · have : ¬ (∀ i, i < 16 → gb X i = gb Y i) := by
      intro hall
      apply hXY
      apply List.ext_getElem (by omega)
      intro i h1 h2
      have := hall i (by omega)
      simpa [gb, h1, h2] using this
    rw [decide_eq_false hXY]
    rw [Bool.eq_false_iff]
    intro h
    apply this
    intro i hi
    rw [List.all_eq_true] at h
    have := h i (List.mem_range.2 hi)
    simpa using this
theorem str_p1 {s : ByteArray} : p1 (.string s) = true := rfl
theorem v58 (T : SealT tbl) (h58 : tbl 58 = some (.code m58)) (k n e t : List UInt8) (hk : k.length = 32) (hn : n.length = 12) (he : e.length ≤ 1048576) (ht : t.length ≤ 1048592) (H : AH) :
    Val tbl 58 [.string (tx k), .string (tx n), .string (tx e), .string (tx t)] H (if tagOk k n e t then .tuple #[.string (tx (bodyL k n t)), .bool true] else .tuple #[.string ⟨#[]⟩, .bool false]) H := by
  refine Val.of_all fun Q hQ => ?_
  rw [rn_fun h58, k58]
  have w1 := w64 (x := (t.length : Int) - 16) (by omega) (by omega)
  by_cases h16 : (t.length : Int) - 16 < 0
  · rw [if_neg fun h => by have := h.1; omega] at hQ
    simp only [tx_size, w1, h16, go_sem, Nat.reduceEqDiff, Nat.reduceAdd, Nat.reduceLeDiff, Int.reduceEq, Int.reduceLT, Int.reduceLE, Int.reduceAdd, Int.reduceSub, Int.reduceMul, Int.reduceNeg, Int.reduceToNat, Nat.reduceMul]
    exact hQ
  · have h0 : (0 : Int) ≤ (t.length : Int) - 16 := by omega
    have hnat : ((t.length : Int) - 16).toNat = t.length - 16 := by omega
    have hle : t.length - 16 ≤ t.length := by omega
    have x1 : (tx t).extract 0 (t.length - 16) = tx (t.take (t.length - 16)) := by rw [tx_extract]; rfl
    have x2 : (tx t).extract (t.length - 16) t.length = tx (t.drop (t.length - 16)) := by rw [tx_extract, List.take_length]
    have hv := v90 T k n e (t.take (t.length - 16)) hk hn he (by rw [List.length_take]; omega) AH.lone
    have hdl : (t.drop (t.length - 16)).length = 16 := by rw [List.length_drop]; omega
    have hlim : (t.drop (t.length - 16)).length ≤ 140737488355328 := by omega
    have hu8 : (⟨bc (t.drop (t.length - 16)), 1, false⟩ : Blk) = u8r (t.drop (t.length - 16)) := rfl
    have htk : List.take 16 (u8r (t.drop (t.length - 16))).cells = bc (t.drop (t.length - 16)) := List.take_of_length_le (by rw [u8r_len]; omega)
    have h1616 : 16 ≤ 16 := Nat.le_refl _
    have heq := eqAt16 (X := btag k n e (t.take (t.length - 16))) (Y := t.drop (t.length - 16)) btag_len hdl
    simp only [tx_size, w1, h16, h0, hnat, hle, x1, x2, byteCells_eq, tx_data, hdl, hlim, hu8, loneP_some, str_p1, ↓hv.run, agg_bc, htk, h1616, u8r_len, go_sem, Nat.reduceEqDiff, Nat.reduceAdd, Nat.reduceLeDiff, Int.reduceEq, Int.reduceLT, Int.reduceLE, Int.reduceAdd, Int.reduceSub, Int.reduceMul, Int.reduceNeg, Int.reduceToNat, Nat.reduceMul]
    have hagg : aggV true [(0, .int), (1, .int), (2, .int), (3, .int), (4, .int), (5, .int), (6, .int), (7, .int), (8, .int), (9, .int), (10, .int), (11, .int), (12, .int), (13, .int), (14, .int), (15, .int)] (.agg (bc (btag k n e (t.take (t.length - 16)))).toArray) (.agg (bc (t.drop (t.length - 16))).toArray) = some (.bool (!decide (btag k n e (t.take (t.length - 16)) = t.drop (t.length - 16)))) := by
      simp only [aggV, List.toList_toArray, heq, if_true]
    simp only [hagg, go_sem, Nat.reduceEqDiff, Nat.reduceAdd, Nat.reduceLeDiff, Int.reduceEq, Int.reduceLT, Int.reduceLE, Int.reduceAdd, Int.reduceSub, Int.reduceMul, Int.reduceNeg, Int.reduceToNat, Nat.reduceMul]
    by_cases hg : btag k n e (t.take (t.length - 16)) = t.drop (t.length - 16)
    · rw [if_pos (show tagOk k n e t from ⟨by omega, hg⟩)] at hQ
      have hst := v62 (tbl := tbl) T.h121 T.h114 T.h96 T.h95 T.h62 k n 1 hk hn (by omega) (t.take (t.length - 16)) (by rw [List.length_take]; omega) (by rw [List.length_take]; omega)
      simp only [hg, tx_size, h0, hnat, hle, x1, ↓(hst _).run, go_sem, Nat.reduceEqDiff, Nat.reduceAdd, Nat.reduceLeDiff, Int.reduceEq, Int.reduceLT, Int.reduceLE, Int.reduceAdd, Int.reduceSub, Int.reduceMul, Int.reduceNeg, Int.reduceToNat, Nat.reduceMul]
      exact hQ
    · rw [if_neg (show ¬ tagOk k n e t from fun h => hg h.2)] at hQ
      simp only [hg, go_sem, Nat.reduceEqDiff, Nat.reduceAdd, Nat.reduceLeDiff, Int.reduceEq, Int.reduceLT, Int.reduceLE, Int.reduceAdd, Int.reduceSub, Int.reduceMul, Int.reduceNeg, Int.reduceToNat, Nat.reduceMul]
      exact hQ
theorem v24 (T : SealT tbl) (h58 : tbl 58 = some (.code m58)) (h24 : tbl 24 = some (.code m24)) (k n e t : List UInt8) (hk : k.length = 32) (hn : n.length = 12) (he : e.length ≤ 1048576) (ht : t.length ≤ 1048592) (H : AH) :
    Val tbl 24 [.string (tx k), .string (tx n), .string (tx e), .string (tx t)] H (if tagOk k n e t then .tuple #[.string (tx (bodyL k n t)), .int .i64 0] else .tuple #[.string ⟨#[]⟩, .int .i64 19]) H := by
  refine Val.of_all fun Q hQ => ?_
  rw [rn_fun h24, k24]
  have h5 := v56 T k n H.enter
  have hkn : k.length = 32 ∧ n.length = 12 := ⟨hk, hn⟩
  rw [if_pos hkn] at h5
  have e1 : ((1048576 : Int) < e.length) ↔ False := ⟨fun h => by omega, fun h => h.elim⟩
  have e2 : ((1048592 : Int) < t.length) ↔ False := ⟨fun h => by omega, fun h => h.elim⟩
  have hv := v58 T h58 k n e t hk hn he ht
  simp only [↓h5.run, tx_size, e1, e2, go_sem, Nat.reduceEqDiff, Nat.reduceAdd, Nat.reduceLeDiff, Int.reduceEq, Int.reduceLT, Int.reduceLE, Int.reduceAdd, Int.reduceSub, Int.reduceMul, Int.reduceNeg, Int.reduceToNat, Nat.reduceMul]
  by_cases hg : tagOk k n e t
  · rw [if_pos hg] at hQ
    simp only [hg, if_true] at hv
    simp only [↓(hv _).run, go_sem, Nat.reduceEqDiff, Nat.reduceAdd, Nat.reduceLeDiff, Int.reduceEq, Int.reduceLT, Int.reduceLE, Int.reduceAdd, Int.reduceSub, Int.reduceMul, Int.reduceNeg, Int.reduceToNat, Nat.reduceMul]
    exact hQ
  · rw [if_neg hg] at hQ
    simp only [hg, if_false] at hv
    simp only [↓(hv _).run, go_sem, Nat.reduceEqDiff, Nat.reduceAdd, Nat.reduceLeDiff, Int.reduceEq, Int.reduceLT, Int.reduceLE, Int.reduceAdd, Int.reduceSub, Int.reduceMul, Int.reduceNeg, Int.reduceToNat, Nat.reduceMul]
    exact hQ
theorem v26 (R : RefT tbl) (h26 : tbl 26 = some (.code m26)) (k n e t : List UInt8) (hk : k.length = 32) (hn : n.length = 12) (he : e.length ≤ 1048576) (ht : t.length ≤ 1048592) (H : AH) :
    Val tbl 26 [.string (tx k), .string (tx n), .string (tx e), .string (tx t)] H (.tuple #[.string (tx (if 16 ≤ t.length then bodyL k n t else [])), .bool (decide (tagOk k n e t))]) H := by
  refine Val.of_all fun Q hQ => ?_
  rw [rn_fun h26, k26]
  have w1 := w64 (x := (t.length : Int) - 16) (by omega) (by omega)
  by_cases h16 : (t.length : Int) - 16 < 0
  · have hno : ¬ tagOk k n e t := fun h => by have := h.1; omega
    rw [decide_eq_false hno, if_neg (by omega)] at hQ
    simp only [tx_size, w1, h16, go_sem, Nat.reduceEqDiff, Nat.reduceAdd, Nat.reduceLeDiff, Int.reduceEq, Int.reduceLT, Int.reduceLE, Int.reduceAdd, Int.reduceSub, Int.reduceMul, Int.reduceNeg, Int.reduceToNat, Nat.reduceMul]
    exact hQ
  · have h0 : (0 : Int) ≤ (t.length : Int) - 16 := by omega
    have hnat : ((t.length : Int) - 16).toNat = t.length - 16 := by omega
    have hle : t.length - 16 ≤ t.length := by omega
    have x1 : (tx t).extract 0 (t.length - 16) = tx (t.take (t.length - 16)) := by rw [tx_extract]; rfl
    have hst := v31 (tbl := tbl) R.h94 R.h93 R.h91 R.h92 R.h59 R.h65 R.h69 R.h31 k n 1 hk hn (by omega) (t.take (t.length - 16)) (by rw [List.length_take]; omega)
    have hb : streamL k n 1 (t.take (t.length - 16)) = bodyL k n t := rfl
    rw [hb] at hst
    have hbl : (bodyL k n t).length = t.length - 16 := by rw [bodyL, streamL_len, List.length_take]; omega
    have hv := v25 R k n e (bodyL k n t) hk hn he (by omega)
    have hiff := seal_body (k := k) (n := n) (e := e) (t := t) (by omega)
    have hd : decide (sealL k n e (bodyL k n t) = t) = decide (tagOk k n e t) := decide_eq_decide.2 hiff
    rw [if_pos (show 16 ≤ t.length by omega)] at hQ
    simp only [tx_size, w1, h16, h0, hnat, hle, x1, ↓(hst _).run, ↓(hv _).run, tx_inj, hd, go_sem, Nat.reduceEqDiff, Nat.reduceAdd, Nat.reduceLeDiff, Int.reduceEq, Int.reduceLT, Int.reduceLE, Int.reduceAdd, Int.reduceSub, Int.reduceMul, Int.reduceNeg, Int.reduceToNat, Nat.reduceMul]
    exact hQ
theorem v27 (h27 : tbl 27 = some (.code m27)) (s w : List UInt8) (e : Int) (b : Bool) (H : AH) : Val tbl 27 [.string (tx s), .int .i64 e, .string (tx w), .bool b] H (.bool (if b = true then decide (s = w ∧ e = 0) else decide (s = [] ∧ e = 19))) H := by
  refine Val.of_all fun Q hQ => ?_
  rw [rn_fun h27, k27]
  cases b with
  | false =>
    rw [if_neg (by simp)] at hQ
    by_cases hs : s = []
    · subst hs
      simp only [tx_nil, tx_inj, go_sem, Nat.reduceEqDiff, Nat.reduceAdd, Nat.reduceLeDiff, Int.reduceEq, Int.reduceLT, Int.reduceLE, Int.reduceAdd, Int.reduceSub, Int.reduceMul, Int.reduceNeg, Int.reduceToNat, Nat.reduceMul]
      exact leaf hQ (by simp) rfl
    · simp only [tx_nil, tx_inj, hs, go_sem, Nat.reduceEqDiff, Nat.reduceAdd, Nat.reduceLeDiff, Int.reduceEq, Int.reduceLT, Int.reduceLE, Int.reduceAdd, Int.reduceSub, Int.reduceMul, Int.reduceNeg, Int.reduceToNat, Nat.reduceMul]
      exact leaf hQ (by simp [hs]) rfl
  | true =>
    rw [if_pos rfl] at hQ
    by_cases hs : s = w
    · subst hs
      simp only [tx_inj, go_sem, Nat.reduceEqDiff, Nat.reduceAdd, Nat.reduceLeDiff, Int.reduceEq, Int.reduceLT, Int.reduceLE, Int.reduceAdd, Int.reduceSub, Int.reduceMul, Int.reduceNeg, Int.reduceToNat, Nat.reduceMul]
      exact leaf hQ (by simp) rfl
    · simp only [tx_inj, hs, go_sem, Nat.reduceEqDiff, Nat.reduceAdd, Nat.reduceLeDiff, Int.reduceEq, Int.reduceLT, Int.reduceLE, Int.reduceAdd, Int.reduceSub, Int.reduceMul, Int.reduceNeg, Int.reduceToNat, Nat.reduceMul]
      exact leaf hQ (by simp [hs]) rfl
/-- What is opened answers as the reference says. -/
theorem v27o (h27 : tbl 27 = some (.code m27)) (k n e t : List UInt8) (H : AH) : ∀ s c, (if tagOk k n e t then Value.tuple #[.string (tx (bodyL k n t)), .int .i64 0] else .tuple #[.string ⟨#[]⟩, .int .i64 19]) = .tuple #[.string (tx s), .int .i64 c] → Val tbl 27 [.string (tx s), .int .i64 c, .string (tx (if 16 ≤ t.length then bodyL k n t else [])), .bool (decide (tagOk k n e t))] H (.bool true) H := by
  intro s c h
  have hv := v27 (tbl := tbl) h27 s (if 16 ≤ t.length then bodyL k n t else []) c (decide (tagOk k n e t)) H
  by_cases hg : tagOk k n e t
  · rw [if_pos hg] at h
    simp only [Value.tuple.injEq, Array.mk.injEq, List.cons.injEq, Value.string.injEq, tx_inj, Value.int.injEq, true_and, and_true] at h
    obtain ⟨h1, h2⟩ := h
    rw [decide_eq_true hg] at hv ⊢
    rw [if_pos hg.1, ← h1, ← h2, if_pos rfl] at hv
    rw [if_pos hg.1, ← h1, ← h2]
    simpa using hv
  · rw [if_neg hg, tx_nil] at h
    simp only [Value.tuple.injEq, Array.mk.injEq, List.cons.injEq, Value.string.injEq, tx_inj, Value.int.injEq, true_and, and_true] at h
    obtain ⟨h1, h2⟩ := h
    rw [decide_eq_false hg] at hv ⊢
    rw [← h1, ← h2] at hv ⊢
    simpa using hv
end Go.Proofs.Ytildhljhbbhmmaa.AM
namespace Go.Proofs.Ytildhljhbbhmmaa.AM
open Go
set_option linter.all false
set_option maxRecDepth 10000
variable {tbl : Tbl} [hT : TMono tbl]

theorem v21b (h21 : tbl 21 = some (.code m21)) (b : Bool) (e : Int) (H : AH) : Val tbl 21 [.bool b, .int .i64 e] H (.int .i64 (if b = true then e else 0)) H := by
  have := v21 (tbl := tbl) h21 (b = true) e H
  rw [show decide (b = true) = b by cases b <;> rfl] at this
  exact this
theorem v19_2 (h19 : tbl 19 = some (.code m19)) (X : AH) (a b : Int) : Val tbl 19 [.slice (some ⟨X.next, 0, none⟩) 2 2] (X.push ⟨[.int .i64 a, .int .i64 b], 1, false⟩) (.int .i64 (firstL [a, b])) (X.push ⟨[.int .i64 a, .int .i64 b], 1, false⟩) :=
  v19 h19 _ _ [a, b] (rowS (X := X) (l := [a, b]) (by show 0 < 2; omega)) (by show 2 < 1000000000; omega)
end Go.Proofs.Ytildhljhbbhmmaa.AM
namespace Go.Proofs.Ytildhljhbbhmmaa.AM
open Go
set_option linter.all false
set_option maxRecDepth 10000
variable {tbl : Tbl} [hT : TMono tbl]

theorem v4 (T : SealT tbl) (R : RefT tbl) (h58 : tbl 58 = some (.code m58)) (h24 : tbl 24 = some (.code m24)) (h4 : tbl 4 = some (.code m4)) (k n e t : List UInt8) (H : AH) :
    Val tbl 4 [.string (tx k), .string (tx n), .string (tx e), .string (tx t)] H (.bool true) H := by
  refine Val.of_all fun Q hQ => ?_
  rw [rn_fun h4, k4]
  have a18 := v18 T k n e t
  have a17 := v17 T
  have a20 := v20 (tbl := tbl) R.h21 R.h20 k n
  have a21 := v21b (tbl := tbl) R.h21
  have a23 := fun s u x w => v23 (tbl := tbl) R.h23 s u x w
  have a22e := v22 (tbl := tbl) R.h22 e
  have a22t := v22 (tbl := tbl) R.h22 t
  have b192 := fun a b => v19_2 (tbl := tbl) R.h19 H.enter a b
  simp only [nx_enter] at b192
  have e1 : ((1048576 : Int) < e.length) ↔ ¬ e.length ≤ 1048576 := by omega
  have e2 : ((1048576 : Int) < t.length) ↔ ¬ t.length ≤ 1048576 := by omega
  have o8 := a23 [] [] 8 8
  have o6 := a23 [] [] 6 6
  have n80 : ¬ (8 : Int) = 0 := by decide
  have n60 : ¬ (6 : Int) = 0 := by decide
  by_cases hkn : k.length = 32 ∧ n.length = 12
  · rw [if_pos hkn] at a18
    simp only [if_pos hkn] at a20
    by_cases he : e.length ≤ 1048576
    · by_cases ht : t.length ≤ 1048576
      · rw [if_pos ⟨he, ht⟩] at a18
        obtain ⟨s, hs⟩ : ∃ s, s = sealL k n e t := ⟨_, rfl⟩
        rw [← hs] at a18
        have oo := a23 s s 0 0
        simp only [↓(a18 _).run, ↓(a20 _).run, tx_size, e1, he, go_sem, Nat.reduceEqDiff, Nat.reduceAdd, Nat.reduceLeDiff, Int.reduceEq, Int.reduceLT, Int.reduceLE, Int.reduceAdd, Int.reduceSub, Int.reduceMul, Int.reduceNeg, Int.reduceToNat, Nat.reduceMul]
        simp only [tx_size, e2, ht, ↓(a21 _ _ _).run, ↓(b192 _ _).run, go_sem, Nat.reduceEqDiff, Nat.reduceAdd, Nat.reduceLeDiff, Int.reduceEq, Int.reduceLT, Int.reduceLE, Int.reduceAdd, Int.reduceSub, Int.reduceMul, Int.reduceNeg, Int.reduceToNat, Nat.reduceMul]
        by_cases hbe : e.length ≤ 10000
        · by_cases hbt : t.length ≤ 10000
          · have hsl : s.length = t.length + 16 := by rw [hs, sealL_len]
            have a24 := v24 T h58 h24 k n e s hkn.1 hkn.2 he (by omega)
            obtain ⟨g1, g2⟩ := tagOk_seal (k := k) (n := n) (e := e) (t := t)
            rw [← hs] at g1 g2
            rw [if_pos g1, g2] at a24
            have a25 := v25 R k n e t hkn.1 hkn.2 he ht
            rw [← hs] at a25
            simp only [firstL, if_true, ↓(a22e _).run, ↓(a22t _).run, hbe, hbt, ↓(a24 _).run, ↓(a17 _).run, ↓(a25 _).run, ↓(oo _).run, tx_inj, go_sem, Nat.reduceEqDiff, Nat.reduceAdd, Nat.reduceLeDiff, Int.reduceEq, Int.reduceLT, Int.reduceLE, Int.reduceAdd, Int.reduceSub, Int.reduceMul, Int.reduceNeg, Int.reduceToNat, Nat.reduceMul]
            exact hQ
          · simp only [firstL, if_true, ↓(a22e _).run, ↓(a22t _).run, hbe, hbt, ↓(a17 _).run, ↓(oo _).run, tx_inj, go_sem, Nat.reduceEqDiff, Nat.reduceAdd, Nat.reduceLeDiff, Int.reduceEq, Int.reduceLT, Int.reduceLE, Int.reduceAdd, Int.reduceSub, Int.reduceMul, Int.reduceNeg, Int.reduceToNat, Nat.reduceMul]
            exact hQ
        · simp only [firstL, if_true, ↓(a22e _).run, ↓(a22t _).run, hbe, ↓(a17 _).run, ↓(oo _).run, tx_inj, go_sem, Nat.reduceEqDiff, Nat.reduceAdd, Nat.reduceLeDiff, Int.reduceEq, Int.reduceLT, Int.reduceLE, Int.reduceAdd, Int.reduceSub, Int.reduceMul, Int.reduceNeg, Int.reduceToNat, Nat.reduceMul]
          exact hQ
      · rw [if_neg fun h => ht h.2, tx_nil] at a18
        simp only [↓(a18 _).run, ↓(a20 _).run, tx_size, e1, he, go_sem, Nat.reduceEqDiff, Nat.reduceAdd, Nat.reduceLeDiff, Int.reduceEq, Int.reduceLT, Int.reduceLE, Int.reduceAdd, Int.reduceSub, Int.reduceMul, Int.reduceNeg, Int.reduceToNat, Nat.reduceMul]
        simp only [tx_size, e2, ht, ↓(a21 _ _ _).run, ↓(b192 _ _).run, go_sem, Nat.reduceEqDiff, Nat.reduceAdd, Nat.reduceLeDiff, Int.reduceEq, Int.reduceLT, Int.reduceLE, Int.reduceAdd, Int.reduceSub, Int.reduceMul, Int.reduceNeg, Int.reduceToNat, Nat.reduceMul]
        simp only [firstL, if_true, n80, if_false, ↓(a17 _).run, ↓(o8 _).run, go_sem, Nat.reduceEqDiff, Nat.reduceAdd, Nat.reduceLeDiff, Int.reduceEq, Int.reduceLT, Int.reduceLE, Int.reduceAdd, Int.reduceSub, Int.reduceMul, Int.reduceNeg, Int.reduceToNat, Nat.reduceMul]
        exact hQ
    · rw [if_neg fun h => he h.1, tx_nil] at a18
      simp only [↓(a18 _).run, ↓(a20 _).run, tx_size, e1, he, go_sem, Nat.reduceEqDiff, Nat.reduceAdd, Nat.reduceLeDiff, Int.reduceEq, Int.reduceLT, Int.reduceLE, Int.reduceAdd, Int.reduceSub, Int.reduceMul, Int.reduceNeg, Int.reduceToNat, Nat.reduceMul]
      simp only [↓(a21 _ _ _).run, ↓(b192 _ _).run, go_sem, Nat.reduceEqDiff, Nat.reduceAdd, Nat.reduceLeDiff, Int.reduceEq, Int.reduceLT, Int.reduceLE, Int.reduceAdd, Int.reduceSub, Int.reduceMul, Int.reduceNeg, Int.reduceToNat, Nat.reduceMul]
      simp only [firstL, if_true, n80, if_false, ↓(a17 _).run, ↓(o8 _).run, go_sem, Nat.reduceEqDiff, Nat.reduceAdd, Nat.reduceLeDiff, Int.reduceEq, Int.reduceLT, Int.reduceLE, Int.reduceAdd, Int.reduceSub, Int.reduceMul, Int.reduceNeg, Int.reduceToNat, Nat.reduceMul]
      exact hQ
  · rw [if_neg hkn, tx_nil] at a18
    simp only [if_neg hkn] at a20
    simp only [↓(a18 _).run, ↓(a20 _).run, tx_size, e1, go_sem, Nat.reduceEqDiff, Nat.reduceAdd, Nat.reduceLeDiff, Int.reduceEq, Int.reduceLT, Int.reduceLE, Int.reduceAdd, Int.reduceSub, Int.reduceMul, Int.reduceNeg, Int.reduceToNat, Nat.reduceMul]
    by_cases he : e.length ≤ 1048576
    · simp only [tx_size, e1, e2, he, ↓(a21 _ _ _).run, ↓(b192 _ _).run, go_sem, Nat.reduceEqDiff, Nat.reduceAdd, Nat.reduceLeDiff, Int.reduceEq, Int.reduceLT, Int.reduceLE, Int.reduceAdd, Int.reduceSub, Int.reduceMul, Int.reduceNeg, Int.reduceToNat, Nat.reduceMul]
      simp only [firstL, if_true, n60, if_false, ↓(a17 _).run, ↓(o6 _).run, go_sem, Nat.reduceEqDiff, Nat.reduceAdd, Nat.reduceLeDiff, Int.reduceEq, Int.reduceLT, Int.reduceLE, Int.reduceAdd, Int.reduceSub, Int.reduceMul, Int.reduceNeg, Int.reduceToNat, Nat.reduceMul]
      exact hQ
    · simp only [tx_size, e1, e2, he, ↓(a21 _ _ _).run, ↓(b192 _ _).run, go_sem, Nat.reduceEqDiff, Nat.reduceAdd, Nat.reduceLeDiff, Int.reduceEq, Int.reduceLT, Int.reduceLE, Int.reduceAdd, Int.reduceSub, Int.reduceMul, Int.reduceNeg, Int.reduceToNat, Nat.reduceMul]
      simp only [firstL, if_true, n60, if_false, ↓(a17 _).run, ↓(o6 _).run, go_sem, Nat.reduceEqDiff, Nat.reduceAdd, Nat.reduceLeDiff, Int.reduceEq, Int.reduceLT, Int.reduceLE, Int.reduceAdd, Int.reduceSub, Int.reduceMul, Int.reduceNeg, Int.reduceToNat, Nat.reduceMul]
      exact hQ
end Go.Proofs.Ytildhljhbbhmmaa.AM
/- Arguments of laws that are texts, bytes, truths. -/
namespace Go.Proofs.Ytildhljhbbhmmaa.AM
open Go Go.RowKit Go.ChangeShapes Go.WideShapes Go.ChangeAt
set_option linter.all false

theorem cell_str {P : Program} {w : World} {r : Reach} {b : Nat} {u : TypeId} {v : Value} (hu : P.underlying u = some .string) (h : Cell.okWide P w r b u v) : ∃ s, v = .string s ∧ s.size ≤ 9223372036854775807 := by
  unfold Cell.okWide at h
  rw [hu] at h
  cases v <;> simp only [Cell.ok, hu] at h
  refine ⟨_, rfl, ?_⟩
  have e : IntKind.i64.max = 9223372036854775807 := rfl
  rw [e] at h
  omega
theorem val_str {P : Program} {w : World} {r : Reach} {b : Nat} {u : TypeId} {v : Value} (hu : P.underlying u = some .string) (h : Value.okWide P w r b u v) : ∃ s, v = .string s ∧ s.size ≤ 9223372036854775807 := by
  unfold Value.okWide at h
  rw [hu] at h
  exact cell_str hu h
theorem has_i64 {n : Int} (h : IntKind.i64.has n) : -9223372036854775808 ≤ n ∧ n ≤ 9223372036854775807 := h
end Go.Proofs.Ytildhljhbbhmmaa.AM
namespace Go.Proofs.Ytildhljhbbhmmaa.AM
open Go
set_option linter.all false
set_option maxRecDepth 10000
variable {tbl : Tbl} [hT : TMono tbl]

/-- A place in a row of L cells, out of any number. -/
theorem place_eq {a : Int} {L : Nat} (hL : 0 < L) (hL2 : L ≤ 1000000000) (ha : -9223372036854775808 ≤ a ∧ a ≤ 9223372036854775807) : ∃ p : Nat, p < L ∧ IntKind.wrap .i64 (a.tmod L + L) = a.tmod L + L ∧ (a.tmod L + L).tmod L = p := by
  have h1 := Int.emod_add_mul_ediv a L
  have hpos : (0 : Int) < L := by omega
  have e : a.tmod L = if 0 ≤ a then a % L else -((-a) % L) := by
    split
    · exact Int.tmod_eq_emod_of_nonneg (by omega)
    · have : a = -(-a) := by omega
      rw [this, Int.neg_tmod, Int.tmod_eq_emod_of_nonneg (by omega), Int.neg_neg]
  have b1 := Int.emod_nonneg a (show (L : Int) ≠ 0 by omega)
  have b2 := Int.emod_lt_of_pos a hpos
  have b3 := Int.emod_nonneg (-a) (show (L : Int) ≠ 0 by omega)
  have b4 := Int.emod_lt_of_pos (-a) hpos
  have r : 0 < a.tmod L + L ∧ a.tmod L + L < 2 * L := by rw [e]; split <;> omega
  have w := w64 (x := a.tmod L + L) (by omega) (by omega)
  have r2 := Int.emod_nonneg (a.tmod L + L) (show (L : Int) ≠ 0 by omega)
  have r3 := Int.emod_lt_of_pos (a.tmod L + L) hpos
  exact ⟨((a.tmod L + L) % L).toNat, by omega, w, by rw [Int.tmod_eq_emod_of_nonneg (by omega)]; omega⟩
theorem slcAt_pre {H : AH} {k n c h : Nat} {l : List UInt8} (hk : H.get k = some (u8r l)) (hc : h ≤ c) : slcAt H 1 (.slice (some ⟨k, 0, none⟩) n c) 0 h = some (.slice (some ⟨k, 0, none⟩) h c) := by
  simp only [slcAt, hk, u8r_es, if_true]
  rw [if_pos hc]
theorem v5 (T : SealT tbl) (R : RefT tbl) (h58 : tbl 58 = some (.code m58)) (h24 : tbl 24 = some (.code m24)) (h26 : tbl 26 = some (.code m26)) (h27 : tbl 27 = some (.code m27)) (h5 : tbl 5 = some (.code m5)) (k n e t : List UInt8) (a b : Int) (ha : -9223372036854775808 ≤ a ∧ a ≤ 9223372036854775807) (hb : 0 ≤ b ∧ b ≤ 255) (cut : Bool) (H : AH) :
    Val tbl 5 [.string (tx k), .string (tx n), .string (tx e), .string (tx t), .int .i64 a, .int .u8 b, .bool cut] H (.bool true) H := by
  refine Val.of_all fun Q hQ => ?_
  rw [rn_fun h5, k5]
  have a18 := v18 T k n e t
  have a17 := v17 T
  have a22e := v22 (tbl := tbl) R.h22 e
  have a22t := v22 (tbl := tbl) R.h22 t
  by_cases hok : (k.length = 32 ∧ n.length = 12) ∧ e.length ≤ 1048576 ∧ t.length ≤ 1048576
  · obtain ⟨hkn, he, ht⟩ := hok
    rw [if_pos hkn, if_pos ⟨he, ht⟩] at a18
    obtain ⟨s, hs⟩ : ∃ s, s = sealL k n e t := ⟨_, rfl⟩
    rw [← hs] at a18
    by_cases hb0 : b = 0
    · simp only [↓(a18 _).run, ↓(a17 _).run, hb0, go_sem, Nat.reduceEqDiff, Nat.reduceAdd, Nat.reduceLeDiff, Int.reduceEq, Int.reduceLT, Int.reduceLE, Int.reduceAdd, Int.reduceSub, Int.reduceMul, Int.reduceNeg, Int.reduceToNat, Nat.reduceMul]
      exact hQ
    · by_cases hbt : t.length ≤ 10000
      · by_cases hbe : e.length ≤ 10000
        · have hsl : s.length = t.length + 16 := by rw [hs, sealL_len]
          obtain ⟨p, hp, hw, hm⟩ := place_eq (a := a) (L := s.length) (by omega) (by omega) ha
          have hL0 : ¬ (s.length : Int) = 0 := by omega
          have hlim : s.length ≤ 140737488355328 := by omega
          have hu : (⟨bc s, 1, false⟩ : Blk) = u8r s := rfl
          simp only [↓(a18 _).run, ↓(a17 _).run, ↓(a22t _).run, ↓(a22e _).run, hb0, hbt, hbe, tx_size, byteCells_eq, tx_data, hlim, hu, hL0, hw, hm, go_sem, Nat.reduceEqDiff, Nat.reduceAdd, Nat.reduceLeDiff, Int.reduceEq, Int.reduceLT, Int.reduceLE, Int.reduceAdd, Int.reduceSub, Int.reduceMul, Int.reduceNeg, Int.reduceToNat, Nat.reduceMul]
          have hxs : (⟨#[120]⟩ : ByteArray) = tx [120] := rfl
          have z1 : e.length + 1 ≤ 9223372036854775807 := by omega
          have z2 : e.length ≤ 9223372036854775806 := by omega
          have z3 : e.length + [(120 : UInt8)].length ≤ 9223372036854775807 := z1
          have hxl : (e ++ [120]).length ≤ 1048576 := by rw [List.length_append]; show e.length + 1 ≤ 1048576; omega
          have x24 := v24 T h58 h24 k n (e ++ [120]) s hkn.1 hkn.2 hxl (by omega)
          have x26 := v26 R h26 k n (e ++ [120]) s hkn.1 hkn.2 hxl (by omega)
          obtain ⟨s2, c2, hr2⟩ : ∃ s2 c2, (if tagOk k n (e ++ [120]) s then Value.tuple #[.string (tx (bodyL k n s)), .int .i64 0] else .tuple #[.string ⟨#[]⟩, .int .i64 19]) = .tuple #[.string (tx s2), .int .i64 c2] := by
            by_cases h : tagOk k n (e ++ [120]) s
            · exact ⟨_, _, by rw [if_pos h]⟩
            · exact ⟨[], 19, by rw [if_neg h]; rfl⟩
          have x27 := fun X => v27o (tbl := tbl) h27 k n (e ++ [120]) s X s2 c2 hr2
          rw [hr2] at x24
          have p0 : (0 : Int) ≤ p := by omega
          cases cut with
          | true =>
            have hg : (H.enter.push (u8r s)).get H.next = some (u8r s) := AH.get_push_eq H.enter _
            have hsl2 := slcAt_pre (n := s.length) (c := s.length) (h := p) hg (by omega)
            have hsb := slcBytes_take (n := p) (c := s.length) hg (by omega)
            have tbl1 : (s.take p).length ≤ 1048592 := by rw [List.length_take]; omega
            have y24 := v24 T h58 h24 k n e (s.take p) hkn.1 hkn.2 he tbl1
            have y26 := v26 R h26 k n e (s.take p) hkn.1 hkn.2 he tbl1
            obtain ⟨s1, c1, hr1⟩ : ∃ s1 c1, (if tagOk k n e (s.take p) then Value.tuple #[.string (tx (bodyL k n (s.take p))), .int .i64 0] else .tuple #[.string ⟨#[]⟩, .int .i64 19]) = .tuple #[.string (tx s1), .int .i64 c1] := by
              by_cases h : tagOk k n e (s.take p)
              · exact ⟨_, _, by rw [if_pos h]⟩
              · exact ⟨[], 19, by rw [if_neg h]; rfl⟩
            have y27 := fun X => v27o (tbl := tbl) h27 k n e (s.take p) X s1 c1 hr1
            rw [hr1] at y24
            have hps : p ≤ s.length := by omega
            simp only [byteCells_eq, tx_data, hu, p0, hps, Int.toNat_natCast, hsl2, hsb, hxs, tx_size, tx_cat, z1, z2, z3, ↓(y24 _).run, ↓(x24 _).run, ↓(y26 _).run, ↓(x26 _).run, ↓(y27 _).run, ↓(x27 _).run, go_sem, Nat.reduceEqDiff, Nat.reduceAdd, Nat.reduceLeDiff, Int.reduceEq, Int.reduceLT, Int.reduceLE, Int.reduceAdd, Int.reduceSub, Int.reduceMul, Int.reduceNeg, Int.reduceToNat, Nat.reduceMul]
            exact hQ
          | false =>
            obtain ⟨u, rfl⟩ : ∃ u : UInt8, b = (u.toNat : Int) := ⟨UInt8.ofNat b.toNat, by
              have : (UInt8.ofNat b.toNat).toNat = b.toNat := by rw [UInt8.toNat_ofNat']; omega
              omega⟩
            have hg : (H.enter.push (u8r s)).get H.next = some (u8r s) := AH.get_push_eq H.enter _
            have hgs : ∀ X : Option Blk, ((H.enter.push (u8r s)).set H.next X).get H.next = X := fun X => AH.get_set_eq _ _ (by rw [AH.next_push, nx_enter]; omega)
            obtain ⟨sb', hsb'⟩ : ∃ sb', sb' = s.set p (gb s p ^^^ u) := ⟨_, rfl⟩
            have hsbl : sb'.length = s.length := by rw [hsb', List.length_set]
            have hat := u8r_at (l := s) (i := p) hp
            have hx8 := xor8 (gb s p) u
            have hsb := slcBytes_row (n := s.length) (c := s.length) (hgs (some (u8r sb'))) hsbl.symm
            have tbl1 : sb'.length ≤ 1048592 := by omega
            have y24 := v24 T h58 h24 k n e sb' hkn.1 hkn.2 he tbl1
            have y26 := v26 R h26 k n e sb' hkn.1 hkn.2 he tbl1
            obtain ⟨s1, c1, hr1⟩ : ∃ s1 c1, (if tagOk k n e sb' then Value.tuple #[.string (tx (bodyL k n sb')), .int .i64 0] else .tuple #[.string ⟨#[]⟩, .int .i64 19]) = .tuple #[.string (tx s1), .int .i64 c1] := by
              by_cases h : tagOk k n e sb'
              · exact ⟨_, _, by rw [if_pos h]⟩
              · exact ⟨[], 19, by rw [if_neg h]; rfl⟩
            have y27 := fun X => v27o (tbl := tbl) h27 k n e sb' X s1 c1 hr1
            rw [hr1] at y24
            have hps : (p : Int) < s.length := by omega
            have hp1 : p + 1 ≤ s.length := by omega
            have hlt : H.next < H.next + 1 := by omega
            simp only [byteCells_eq, tx_data, hu, p0, hps, hp1, hlt, Int.toNat_natCast, hg, hat, hx8, u8r_len, u8r_ro, u8r_es, u8r_set, ← hsb', hgs, hsb, idxSP_slc, stc_eq, stB_some, splice_one, addA, Nat.zero_add, hxs, tx_size, tx_cat, z1, z2, z3, ↓(y24 _).run, ↓(x24 _).run, ↓(y26 _).run, ↓(x26 _).run, ↓(y27 _).run, ↓(x27 _).run, go_sem, Nat.reduceEqDiff, Nat.reduceAdd, Nat.reduceLeDiff, Int.reduceEq, Int.reduceLT, Int.reduceLE, Int.reduceAdd, Int.reduceSub, Int.reduceMul, Int.reduceNeg, Int.reduceToNat, Nat.reduceMul]
            rw [back_p3 (by rw [lw_set, lw_push, lw_enter]; omega) rfl]
            exact hQ
        · simp only [↓(a18 _).run, ↓(a17 _).run, ↓(a22t _).run, ↓(a22e _).run, hb0, hbt, hbe, go_sem, Nat.reduceEqDiff, Nat.reduceAdd, Nat.reduceLeDiff, Int.reduceEq, Int.reduceLT, Int.reduceLE, Int.reduceAdd, Int.reduceSub, Int.reduceMul, Int.reduceNeg, Int.reduceToNat, Nat.reduceMul]
          exact hQ
      · simp only [↓(a18 _).run, ↓(a17 _).run, ↓(a22t _).run, hb0, hbt, go_sem, Nat.reduceEqDiff, Nat.reduceAdd, Nat.reduceLeDiff, Int.reduceEq, Int.reduceLT, Int.reduceLE, Int.reduceAdd, Int.reduceSub, Int.reduceMul, Int.reduceNeg, Int.reduceToNat, Nat.reduceMul]
        exact hQ
  · obtain ⟨w, hw, hres⟩ : ∃ w : Int, w ≠ 0 ∧ (if k.length = 32 ∧ n.length = 12 then (if e.length ≤ 1048576 ∧ t.length ≤ 1048576 then Value.tuple #[.string (tx (sealL k n e t)), .int .i64 0] else .tuple #[.string ⟨#[]⟩, .int .i64 8]) else .tuple #[.string ⟨#[]⟩, .int .i64 6]) = .tuple #[.string ⟨#[]⟩, .int .i64 w] := by
      by_cases h1 : k.length = 32 ∧ n.length = 12
      · by_cases h2 : e.length ≤ 1048576 ∧ t.length ≤ 1048576
        · exact absurd ⟨h1, h2⟩ hok
        · exact ⟨8, by decide, by rw [if_pos h1, if_neg h2]⟩
      · exact ⟨6, by decide, by rw [if_neg h1]⟩
    rw [hres] at a18
    simp only [↓(a18 _).run, ↓(a17 _).run, hw, go_sem, Nat.reduceEqDiff, Nat.reduceAdd, Nat.reduceLeDiff, Int.reduceEq, Int.reduceLT, Int.reduceLE, Int.reduceAdd, Int.reduceSub, Int.reduceMul, Int.reduceNeg, Int.reduceToNat, Nat.reduceMul]
    exact hQ
end Go.Proofs.Ytildhljhbbhmmaa.AM
/- From the abstract machine to a row of the second form. -/
namespace Go.Proofs.Ytildhljhbbhmmaa.AM
open Go Go.RowKit Go.ChangeShapes Go.WideShapes Go.ChangeAt
set_option linter.all false
section
variable {H : Type} {enc : TypeId × Value → H}
set_option maxRecDepth 100000 in
/-- A law whose arguments are of little bulk: it returns true, and each argument reads as it read. -/
theorem law_lifted_upto {os : Os} (started : os.Started) {f : FuncId} {fn : Func} {s : ChangeSpec} {tb : TypeId} {conds : List PathCond} (F : Stop.Interp)
    (hvars : s.vars = []) (hfn : Try.prog.funcs[f]? = some fn) (hinit : Try.prog.inits.idxOf? f = none) (hres : fn.resultTypes = #[tb]) (htb : Try.prog.underlying tb = some .bool)
    (hread : (fn.params.toList.all fun t => Try.prog.readableRec t && decide (t < Try.prog.types.size)) = true)
    (hspec : ∀ (ds : List (DataW H)), ds.length = fn.params.size → s.fn H (ds ++ []) = { results := [.lit (.bool true)], args := ds })
    (witness : ∃ (w : World) (tape : Tape) (i : Input), w.os = os ∧ (w.forCall tape i).Shaped Try.checked.prog ∧ i.vars = [] ∧ Input.okWide Try.checked.prog (w.forCall tape i) .any w.heap.size f i ∧
      (Rows.OpenSpec.upto s).pre6 enc Try.checked.prog fn conds false (w.forCall tape i).memory i.args ∧ ({} : Assume).holds Try.checked.prog (lone (Frame.enter Try.checked.prog f i.args .normal) [] (w.forCall tape i)))
    (run : ∀ (W : World) (args : Array Value) (ds : List (DataW H)) (ps : List MemPlace) (base : Nat), (∀ (j : Nat) t v, fn.params[j]? = some t → args[j]? = some v → Value.okWide Try.prog W .any base t v) →
      DataW.TrodAll enc Try.prog W 0 (fun _ => true) true fn.params.toList args.toList ds ps → (∀ x ∈ ps, x.block < W.heap.size) → Rows.uptoSmall H ds = true →
      Calls Try.prog f args W fun | .returned v', W' => v' = .bool true ∧ Below W.heap.size W W' | _, _ => False) :
    ReturnsInHanded {} Try.checked os f .any ((Rows.OpenSpec.upto s).pre6 enc Try.prog fn conds false) (((Rows.OpenSpec.upto s).at F).post enc Try.prog fn false true false false) := by
  refine returnsInHanded_of_cond (C := Try.checked) (s := Rows.OpenSpec.upto s) (k := Rows.uptoSmall) rfl own started hinit hfn witness ?_
  intro W base args ds gs before hval hW _ hk _
  have hW' := hW
  obtain ⟨p, q, hA, hV, rfl, hfz, hnd⟩ := hW
  have hvars' : (Rows.OpenSpec.upto s).vars = [] := hvars
  rw [hvars'] at hV
  obtain ⟨rfl, rfl⟩ := trodVars_none hV
  rw [List.append_nil] at hW' hk
  have hlt : ∀ x ∈ p, x.block < W.heap.size := fun x hx => by simpa using hW'.lt x hx
  refine (run W args ds p base hval hA hlt hk).mono fun e W' he => ?_
  cases e with
  | panicked ch => exact he.elim
  | outgrown => exact he.elim
  | returned v =>
    obtain ⟨rfl, hb⟩ := he
    refine ⟨_, rfl, ?_⟩
    have hlen : ds.length = fn.params.size := by
      have := (trodAll_length hA).2
      simpa using this
    have hs := hspec ds hlen
    refine ⟨ds, [], p, [], p, [], hW', ?_, ?_, ?_, hb.frame _, fun h => by simp at h⟩
    · show DataW.TrodAll enc _ _ _ _ _ _ _ (s.fn H (ds ++ [])).results _
      rw [hs, hres]
      exact trodAll_mk1 (shut_bool htb true)
    · show DataW.TrodAll enc _ _ _ _ _ _ _ (s.fn H (ds ++ [])).args _
      rw [hs]
      exact trodAll_below laidOut hb hread hA hlt
    · have e : (((Rows.OpenSpec.upto s).at F).fn H (ds ++ [])) = { results := [.lit (.bool true)], args := ds } := hs
      rw [e]
      first | exact hvars ▸ rfl | (show _ = _; simp [hvars']; rfl) | rfl
end
end Go.Proofs.Ytildhljhbbhmmaa.AM
/- An argument that is a slice of texts, of little bulk. -/
namespace Go.Proofs.Ytildhljhbbhmmaa.AM
open Go Go.RowKit Go.ChangeShapes Go.WideShapes Go.ChangeAt
set_option linter.all false

section
variable {H : Type} {enc : TypeId × Value → H} {P : Program} {w : World}
def strB (ps : List (List UInt8)) : List Value := ps.map fun x => .string ⟨x.toArray⟩
end
theorem slc_cells {P : Program} {w : World} {r : Reach} {b : Nat} {t e : TypeId} {v : Value} (ht : P.underlying t = some (.slice e)) (hval : Value.okWide P w r b t v) : v.cells.toList = [v] := by
  unfold Value.okWide at hval
  rw [ht] at hval
  unfold Cell.okWide at hval
  rw [ht] at hval
  cases v <;> simp only [Cell.ok, ht] at hval <;> rfl
/-- The start with a slice of texts. -/
theorem Start.strs {w : World} {H : AH} {c : CMap} (st : Start w H c) {v : Value} {ps : List (List UInt8)} (h : ArgS w v ps.length 1 (strB ps)) :
    ∃ (c' : CMap) (H' : AH) (ad : Option Addr) (cp : Nat), Start w H' c' ∧ VR H'.next c' (.slice ad ps.length cp) v ∧ Sl H' 1 (.slice ad ps.length cp) ps.length (strB ps) ∧ More H c H' c' ∧ ps.length ≤ cp := by
  have hp : (strB ps).all p1 = true := by
    rw [List.all_eq_true]
    intro y hy
    simp only [strB, List.mem_map] at hy
    obtain ⟨z, _, rfl⟩ := hy
    rfl
  obtain ⟨cap, hc, _, ⟨rfl, h0, h1⟩ | ⟨a, rfl, ⟨h00, h0, h1⟩ | ⟨hpos, har⟩⟩⟩ := h
  · rw [h0, h1]
    exact ⟨_, _, none, 0, st, .plain rfl, .inl ⟨none, 0, rfl, rfl, rfl⟩, .refl _ _, Nat.le_refl _⟩
  · have hc0 : c 0 = none := by
      have := st.sim.live 0
      rw [st.dead] at this
      cases h0 : c 0 with
      | none => rfl
      | some x => rw [h0] at this; simp at this
    rw [h0, h1]
    exact ⟨_, _, some ⟨0, 0, none⟩, 0, st, .sliceDead st.pos hc0, .inl ⟨_, 0, rfl, rfl, rfl⟩, .refl _ _, Nat.le_refl _⟩
  · obtain ⟨c', h1, h2, h3⟩ := st.arg har hp
    refine ⟨_, _, _, _, h1, h2, .inr ⟨_, cap, rfl, ?_⟩, h3, hc⟩
    rw [ldc_eq]
    simp only [gt_push, if_true]
    rw [ldcB_some, if_pos (by simp [har.len]), ← har.len]
    simp
end Go.Proofs.Ytildhljhbbhmmaa.AM
namespace Go.Proofs.Ytildhljhbbhmmaa.AM
open Go
set_option linter.all false
set_option maxRecDepth 10000
def gAl (n : Nat) (p : Nat → Bool) : Bool := Nat.rec true (fun i r => p i && r) n
theorem gAl_ok {n : Nat} {p : Nat → Bool} (h : gAl n p = true) : ∀ i, i < n → p i = true := by
  induction n with
  | zero => intro i hi; omega
  | succ n ih =>
    have h' : (p n && gAl n p) = true := h
    rw [Bool.and_eq_true] at h'
    intro i hi
    by_cases he : i = n
    · rw [he]; exact h'.1
    · exact ih h'.2 i (by omega)
theorem u8_all {p : UInt8 → Bool} (h : gAl 256 (fun n => p (UInt8.ofNat n)) = true) (a : UInt8) : p a = true := by
  have := gAl_ok h a.toNat (UInt8.toNat_lt a)
  simpa using this
theorem and_xor8 (a b c : UInt8) : (a ^^^ b) &&& c = (a &&& c) ^^^ (b &&& c) := by
  apply UInt8.toBitVec_inj.1
  simp only [UInt8.toBitVec_and, UInt8.toBitVec_xor]
  apply BitVec.eq_of_getLsbD_eq
  intro i hi
  simp only [BitVec.getLsbD_and, BitVec.getLsbD_xor]
  cases a.toBitVec.getLsbD i <;> cases b.toBitVec.getLsbD i <;> cases c.toBitVec.getLsbD i <;> rfl
/-- A number, doubled in the field. -/
def gMx (a : UInt8) : UInt8 := if a &&& 128 = 128 then (a <<< 1) ^^^ 27 else a <<< 1
def gML : Nat → UInt8 → UInt8 → UInt8 → UInt8
  | 0, _, _, o => o
  | n + 1, a, b, o => gML n (gMx a) (b >>> 1) (if b &&& 1 = 1 then o ^^^ a else o)
/-- The product of two numbers of the field. -/
def gM (a b : UInt8) : UInt8 := gML 8 a b 0
theorem gHi_bit (a : UInt8) : a &&& 128 = 0 ∨ a &&& 128 = 128 := by
  have := u8_all (p := fun a => a &&& 128 == 0 || a &&& 128 == 128) (by decide +kernel) a
  simpa using this
theorem gLo_bit (a : UInt8) : a &&& 1 = 0 ∨ a &&& 1 = 1 := by
  have := u8_all (p := fun a => a &&& 1 == 0 || a &&& 1 == 1) (by decide +kernel) a
  simpa using this
theorem gMx_add (a b : UInt8) : gMx (a ^^^ b) = gMx a ^^^ gMx b := by
  unfold gMx
  rw [and_xor8, UInt8.shiftLeft_xor]
  rcases gHi_bit a with ha | ha <;> rcases gHi_bit b with hb | hb <;> rw [ha, hb]
  · rfl
  · show a <<< 1 ^^^ b <<< 1 ^^^ (27 : UInt8) = a <<< 1 ^^^ (b <<< 1 ^^^ (27 : UInt8))
    ac_rfl
  · show a <<< 1 ^^^ b <<< 1 ^^^ (27 : UInt8) = a <<< 1 ^^^ (27 : UInt8) ^^^ b <<< 1
    ac_rfl
  · show a <<< 1 ^^^ b <<< 1 = a <<< 1 ^^^ (27 : UInt8) ^^^ (b <<< 1 ^^^ (27 : UInt8))
    have : a <<< 1 ^^^ (27 : UInt8) ^^^ (b <<< 1 ^^^ (27 : UInt8)) = a <<< 1 ^^^ b <<< 1 ^^^ ((27 : UInt8) ^^^ (27 : UInt8)) := by ac_rfl
    rw [this, UInt8.xor_self, UInt8.xor_zero]
theorem gML_addL : ∀ n (a a' b o o' : UInt8), gML n (a ^^^ a') b (o ^^^ o') = gML n a b o ^^^ gML n a' b o'
  | 0, _, _, _, _, _ => rfl
  | n + 1, a, a', b, o, o' => by
    simp only [gML]
    rw [gMx_add, ← gML_addL n]
    congr 1
    split
    · ac_rfl
    · rfl
theorem gML_addR : ∀ n (a b b' o o' : UInt8), gML n a (b ^^^ b') (o ^^^ o') = gML n a b o ^^^ gML n a b' o'
  | 0, _, _, _, _, _ => rfl
  | n + 1, a, b, b', o, o' => by
    simp only [gML]
    rw [UInt8.shiftRight_xor, ← gML_addR n, and_xor8]
    congr 1
    rcases gLo_bit b with ha | ha <;> rcases gLo_bit b' with hb | hb <;> rw [ha, hb]
    · rfl
    · show o ^^^ o' ^^^ a = o ^^^ (o' ^^^ a)
      ac_rfl
    · show o ^^^ o' ^^^ a = o ^^^ a ^^^ o'
      ac_rfl
    · show o ^^^ o' = o ^^^ a ^^^ (o' ^^^ a)
      have : o ^^^ a ^^^ (o' ^^^ a) = o ^^^ o' ^^^ (a ^^^ a) := by ac_rfl
      rw [this, UInt8.xor_self, UInt8.xor_zero]
theorem gM_addL (a a' b : UInt8) : gM (a ^^^ a') b = gM a b ^^^ gM a' b := gML_addL 8 a a' b 0 0
theorem gM_addR (a b b' : UInt8) : gM a (b ^^^ b') = gM a b ^^^ gM a b' := gML_addR 8 a b b' 0 0
/-- A map that goes with the sum. -/
def GAdd (f : UInt8 → UInt8) : Prop := ∀ a b, f (a ^^^ b) = f a ^^^ f b
theorem GAdd.zero {f : UInt8 → UInt8} (h : GAdd f) : f 0 = 0 := by
  have := h 0 0
  rw [UInt8.xor_self, UInt8.xor_self] at this
  exact this
def gBits (a : UInt8) : UInt8 := (a &&& 1) ^^^ (a &&& 2) ^^^ (a &&& 4) ^^^ (a &&& 8) ^^^ (a &&& 16) ^^^ (a &&& 32) ^^^ (a &&& 64) ^^^ (a &&& 128)
theorem gBits_eq (a : UInt8) : gBits a = a := by
  have := u8_all (p := fun a => gBits a == a) (by decide +kernel) a
  simpa using this
theorem gBit_of (a : UInt8) : (a &&& 1 = 0 ∨ a &&& 1 = 1) ∧ (a &&& 2 = 0 ∨ a &&& 2 = 2) ∧ (a &&& 4 = 0 ∨ a &&& 4 = 4) ∧ (a &&& 8 = 0 ∨ a &&& 8 = 8) ∧ (a &&& 16 = 0 ∨ a &&& 16 = 16) ∧ (a &&& 32 = 0 ∨ a &&& 32 = 32) ∧ (a &&& 64 = 0 ∨ a &&& 64 = 64) ∧ (a &&& 128 = 0 ∨ a &&& 128 = 128) := by
  have := u8_all (p := fun a => decide ((a &&& 1 = 0 ∨ a &&& 1 = 1) ∧ (a &&& 2 = 0 ∨ a &&& 2 = 2) ∧ (a &&& 4 = 0 ∨ a &&& 4 = 4) ∧ (a &&& 8 = 0 ∨ a &&& 8 = 8) ∧ (a &&& 16 = 0 ∨ a &&& 16 = 16) ∧ (a &&& 32 = 0 ∨ a &&& 32 = 32) ∧ (a &&& 64 = 0 ∨ a &&& 64 = 64) ∧ (a &&& 128 = 0 ∨ a &&& 128 = 128))) (by decide +kernel) a
  simpa using this
theorem gLin_ext {f g : UInt8 → UInt8} (hf : GAdd f) (hg : GAdd g) (h : f 1 = g 1 ∧ f 2 = g 2 ∧ f 4 = g 4 ∧ f 8 = g 8 ∧ f 16 = g 16 ∧ f 32 = g 32 ∧ f 64 = g 64 ∧ f 128 = g 128) (a : UInt8) : f a = g a := by
  have hz : f 0 = g 0 := by rw [hf.zero, hg.zero]
  obtain ⟨h1, h2, h3, h4, h5, h6, h7, h8⟩ := h
  obtain ⟨b1, b2, b3, b4, b5, b6, b7, b8⟩ := gBit_of a
  have k : ∀ x y, (x = 0 ∨ x = y) → f y = g y → f x = g x := by
    rintro x y (rfl | rfl) e
    · exact hz
    · exact e
  rw [← gBits_eq a]
  unfold gBits
  rw [hf, hf, hf, hf, hf, hf, hf, hg, hg, hg, hg, hg, hg, hg, k _ _ b1 h1, k _ _ b2 h2, k _ _ b3 h3, k _ _ b4 h4, k _ _ b5 h5, k _ _ b6 h6, k _ _ b7 h7, k _ _ b8 h8]
theorem gAdd_L (b : UInt8) : GAdd (fun a => gM a b) := fun a a' => gM_addL a a' b
theorem gAdd_R (a : UInt8) : GAdd (fun b => gM a b) := fun b b' => gM_addR a b b'
theorem gAdd_comp {f g : UInt8 → UInt8} (hf : GAdd f) (hg : GAdd g) : GAdd (fun a => f (g a)) := fun a b => by show f (g (a ^^^ b)) = _; rw [hg, hf]
theorem gM_comm (a b : UInt8) : gM a b = gM b a := by
  refine gLin_ext (f := fun a => gM a b) (g := fun a => gM b a) (gAdd_L b) (gAdd_R b) ?_ a
  refine ⟨?_, ?_, ?_, ?_, ?_, ?_, ?_, ?_⟩ <;> exact gLin_ext (f := fun b => gM _ b) (g := fun b => gM b _) (gAdd_R _) (gAdd_L _) (by decide +kernel) b
theorem gM_assoc (a b c : UInt8) : gM (gM a b) c = gM a (gM b c) := by
  refine gLin_ext (f := fun a => gM (gM a b) c) (g := fun a => gM a (gM b c)) (gAdd_comp (f := fun x => gM x c) (g := fun x => gM x b) (gAdd_L c) (gAdd_L b)) (gAdd_L _) ?_ a
  refine ⟨?_, ?_, ?_, ?_, ?_, ?_, ?_, ?_⟩ <;>
  · refine gLin_ext (f := fun b => gM (gM _ b) c) (g := fun b => gM _ (gM b c)) (gAdd_comp (f := fun x => gM x c) (g := fun x => gM _ x) (gAdd_L c) (gAdd_R _)) (gAdd_comp (f := fun x => gM _ x) (g := fun x => gM x c) (gAdd_R _) (gAdd_L c)) ?_ b
    refine ⟨?_, ?_, ?_, ?_, ?_, ?_, ?_, ?_⟩ <;> exact gLin_ext (f := fun c => gM (gM _ _) c) (g := fun c => gM _ (gM _ c)) (gAdd_R _) (gAdd_comp (f := fun x => gM _ x) (g := fun x => gM _ x) (gAdd_R _) (gAdd_R _)) (by decide +kernel) c
theorem gM_zero (a : UInt8) : gM a 0 = 0 := (gAdd_R a).zero
theorem gZero_M (a : UInt8) : gM 0 a = 0 := (gAdd_L a).zero
theorem gOne_M (a : UInt8) : gM 1 a = a := gLin_ext (f := fun a => gM 1 a) (g := fun a => a) (gAdd_R 1) (fun _ _ => rfl) (by decide +kernel) a
theorem gM_one (a : UInt8) : gM a 1 = a := by rw [gM_comm, gOne_M]
def gIL : Nat → Nat → UInt8 → UInt8 → UInt8
  | 0, _, _, o => o
  | k + 1, n, a, o => gIL k (n / 2) (gM a a) (if n % 2 = 1 then gM o a else o)
/-- The power 254. -/
def gI (a : UInt8) : UInt8 := gIL 8 254 a 1
theorem gM_I (a : UInt8) (h : a ≠ 0) : gM a (gI a) = 1 := by
  have := u8_all (p := fun a => a == 0 || gM a (gI a) == 1) (by decide +kernel) a
  rw [Bool.or_eq_true, beq_iff_eq, beq_iff_eq] at this
  exact this.resolve_left h
theorem gM_cancel {a b c : UInt8} (h : a ≠ 0) (e : gM a b = gM a c) : b = c := by
  have : gM (gI a) (gM a b) = gM (gI a) (gM a c) := by rw [e]
  rwa [← gM_assoc, ← gM_assoc, gM_comm (gI a), gM_I a h, gOne_M, gOne_M] at this
theorem gXor_cancel {a b : UInt8} (h : a ^^^ b = 0) : a = b := by
  have : a ^^^ (a ^^^ b) = a ^^^ 0 := by rw [h]
  rw [← UInt8.xor_assoc, UInt8.xor_self, UInt8.zero_xor, UInt8.xor_zero] at this
  exact this.symm
end Go.Proofs.Ytildhljhbbhmmaa.AM
namespace Go.Proofs.Ytildhljhbbhmmaa.AM
open Go
set_option linter.all false
set_option maxRecDepth 10000

/-- What the reference's first loop has after i rounds. -/
def clS (a b : Nat) : Nat → Nat
  | 0 => 0
  | i + 1 => if (b / 2 ^ i) % 2 = 1 then clS a b i ^^^ (a * 2 ^ i) else clS a b i
/-- What its second loop has after k rounds. -/
def rdS (o : Nat) : Nat → Nat
  | 0 => o
  | k + 1 => if (rdS o k / 2 ^ (14 - k)) % 2 = 1 then rdS o k ^^^ (283 * 2 ^ (6 - k)) else rdS o k
def fldN (a b : Nat) : Nat := rdS (clS a b 8) 7
theorem par_xor (x y : Nat) : (x ^^^ y) % 2 = (x % 2 + y % 2) % 2 := by
  have h := Nat.xor_mod_two_pow (a := x) (b := y) (n := 1)
  rw [Nat.pow_one] at h
  rw [h]
  have h1 := Nat.mod_two_eq_zero_or_one x
  have h2 := Nat.mod_two_eq_zero_or_one y
  rcases h1 with h1 | h1 <;> rcases h2 with h2 | h2 <;> rw [h1, h2] <;> rfl
theorem div_xor (x y i : Nat) : (x ^^^ y) / 2 ^ i = (x / 2 ^ i) ^^^ (y / 2 ^ i) := by
  rw [← Nat.shiftRight_eq_div_pow, ← Nat.shiftRight_eq_div_pow, ← Nat.shiftRight_eq_div_pow, Nat.shiftRight_xor_distrib]
theorem mul_xor (x y i : Nat) : (x ^^^ y) * 2 ^ i = (x * 2 ^ i) ^^^ (y * 2 ^ i) := by
  rw [← Nat.shiftLeft_eq, ← Nat.shiftLeft_eq, ← Nat.shiftLeft_eq, Nat.shiftLeft_xor_distrib]
theorem xor4 (a b c d : Nat) : a ^^^ b ^^^ (c ^^^ d) = a ^^^ c ^^^ (b ^^^ d) := by ac_rfl
theorem clS_addL (a a' b : Nat) : ∀ i, clS (a ^^^ a') b i = clS a b i ^^^ clS a' b i
  | 0 => by simp only [clS, Nat.xor_self]
  | i + 1 => by
    simp only [clS]
    rw [clS_addL a a' b i]
    split
    · rw [mul_xor, xor4]
    · rfl
theorem clS_addR (a b b' : Nat) : ∀ i, clS a (b ^^^ b') i = clS a b i ^^^ clS a b' i
  | 0 => by simp only [clS, Nat.xor_self]
  | i + 1 => by
    simp only [clS]
    rw [clS_addR a b b' i, div_xor, par_xor]
    have h1 := Nat.mod_two_eq_zero_or_one (b / 2 ^ i)
    have h2 := Nat.mod_two_eq_zero_or_one (b' / 2 ^ i)
    rcases h1 with h1 | h1 <;> rcases h2 with h2 | h2 <;> rw [h1, h2]
    · rfl
    · show clS a b i ^^^ clS a b' i ^^^ a * 2 ^ i = clS a b i ^^^ (clS a b' i ^^^ a * 2 ^ i)
      ac_rfl
    · show clS a b i ^^^ clS a b' i ^^^ a * 2 ^ i = clS a b i ^^^ a * 2 ^ i ^^^ clS a b' i
      ac_rfl
    · show clS a b i ^^^ clS a b' i = clS a b i ^^^ a * 2 ^ i ^^^ (clS a b' i ^^^ a * 2 ^ i)
      rw [xor4, Nat.xor_self, Nat.xor_zero]
theorem rdS_add (x y : Nat) : ∀ k, rdS (x ^^^ y) k = rdS x k ^^^ rdS y k
  | 0 => rfl
  | k + 1 => by
    simp only [rdS]
    rw [rdS_add x y k, div_xor, par_xor]
    have h1 := Nat.mod_two_eq_zero_or_one (rdS x k / 2 ^ (14 - k))
    have h2 := Nat.mod_two_eq_zero_or_one (rdS y k / 2 ^ (14 - k))
    rcases h1 with h1 | h1 <;> rcases h2 with h2 | h2 <;> rw [h1, h2]
    · rfl
    · show rdS x k ^^^ rdS y k ^^^ 283 * 2 ^ (6 - k) = rdS x k ^^^ (rdS y k ^^^ 283 * 2 ^ (6 - k))
      ac_rfl
    · show rdS x k ^^^ rdS y k ^^^ 283 * 2 ^ (6 - k) = rdS x k ^^^ 283 * 2 ^ (6 - k) ^^^ rdS y k
      ac_rfl
    · show rdS x k ^^^ rdS y k = rdS x k ^^^ 283 * 2 ^ (6 - k) ^^^ (rdS y k ^^^ 283 * 2 ^ (6 - k))
      rw [xor4, Nat.xor_self, Nat.xor_zero]
theorem fldN_addL (a a' b : Nat) : fldN (a ^^^ a') b = fldN a b ^^^ fldN a' b := by
  unfold fldN; rw [clS_addL, rdS_add]
theorem fldN_addR (a b b' : Nat) : fldN a (b ^^^ b') = fldN a b ^^^ fldN a b' := by
  unfold fldN; rw [clS_addR, rdS_add]
def GAddN (f : UInt8 → Nat) : Prop := ∀ a b, f (a ^^^ b) = f a ^^^ f b
theorem GAddN.zero {f : UInt8 → Nat} (h : GAddN f) : f 0 = 0 := by
  have := h 0 0
  rw [UInt8.xor_self, Nat.xor_self] at this
  exact this
theorem gLin_extN {f g : UInt8 → Nat} (hf : GAddN f) (hg : GAddN g) (h : f 1 = g 1 ∧ f 2 = g 2 ∧ f 4 = g 4 ∧ f 8 = g 8 ∧ f 16 = g 16 ∧ f 32 = g 32 ∧ f 64 = g 64 ∧ f 128 = g 128) (a : UInt8) : f a = g a := by
  have hz : f 0 = g 0 := by rw [hf.zero, hg.zero]
  obtain ⟨h1, h2, h3, h4, h5, h6, h7, h8⟩ := h
  obtain ⟨b1, b2, b3, b4, b5, b6, b7, b8⟩ := gBit_of a
  have k : ∀ x y, (x = 0 ∨ x = y) → f y = g y → f x = g x := by
    rintro x y (rfl | rfl) e
    · exact hz
    · exact e
  rw [← gBits_eq a]
  unfold gBits
  rw [hf, hf, hf, hf, hf, hf, hf, hg, hg, hg, hg, hg, hg, hg, k _ _ b1 h1, k _ _ b2 h2, k _ _ b3 h3, k _ _ b4 h4, k _ _ b5 h5, k _ _ b6 h6, k _ _ b7 h7, k _ _ b8 h8]
theorem fldN_eq (a b : UInt8) : fldN a.toNat b.toNat = (gM a b).toNat := by
  refine gLin_extN (f := fun a => fldN a.toNat b.toNat) (g := fun a => (gM a b).toNat) (fun a a' => ?_) (fun a a' => ?_) ?_ a
  · show fldN (a ^^^ a').toNat b.toNat = _
    rw [UInt8.toNat_xor, fldN_addL]
  · show (gM (a ^^^ a') b).toNat = _
    rw [gM_addL, UInt8.toNat_xor]
  · refine ⟨?_, ?_, ?_, ?_, ?_, ?_, ?_, ?_⟩ <;>
    · refine gLin_extN (f := fun b => fldN (UInt8.toNat _) b.toNat) (g := fun b => (gM _ b).toNat) (fun b b' => ?_) (fun b b' => ?_) ?_ b
      · show fldN _ (b ^^^ b').toNat = _
        rw [UInt8.toNat_xor, fldN_addR]
      · show (gM _ (b ^^^ b')).toNat = _
        rw [gM_addR, UInt8.toNat_xor]
      · decide +kernel
theorem clS_lt {a b : Nat} (ha : a < 256) : ∀ i, i ≤ 8 → clS a b i < 2 ^ 15
  | 0, _ => by show 0 < 2 ^ 15; decide
  | i + 1, h => by
    have ih := clS_lt (b := b) ha i (by omega)
    simp only [clS]
    split
    · refine Nat.xor_lt_two_pow ih ?_
      have : 2 ^ i ≤ 2 ^ 7 := Nat.pow_le_pow_right (by decide) (by omega)
      calc a * 2 ^ i ≤ 255 * 2 ^ 7 := Nat.mul_le_mul (by omega) this
        _ < 2 ^ 15 := by decide
    · exact ih
theorem rdS_lt {o : Nat} (ho : o < 2 ^ 15) : ∀ k, rdS o k < 2 ^ 15
  | 0 => ho
  | k + 1 => by
    have ih := rdS_lt ho k
    simp only [rdS]
    split
    · refine Nat.xor_lt_two_pow ih ?_
      have : 2 ^ (6 - k) ≤ 2 ^ 6 := Nat.pow_le_pow_right (by decide) (by omega)
      calc 283 * 2 ^ (6 - k) ≤ 283 * 2 ^ 6 := Nat.mul_le_mul (by omega) this
        _ < 2 ^ 15 := by decide
    · exact ih
theorem xor63 (x y : Nat) (hx : x < 2 ^ 15) (hy : y < 2 ^ 15) : bitsK .xor .i64 (x : Int) (y : Int) = ((x ^^^ y : Nat) : Int) := by
  simp only [bitsK, BitVec.toNat_xor, ofInt_nat]
  have e1 : x % 2 ^ IntKind.i64.bits = x := Nat.mod_eq_of_lt (by show x < 2 ^ 64; omega)
  have e2 : y % 2 ^ IntKind.i64.bits = y := Nat.mod_eq_of_lt (by show y < 2 ^ 64; omega)
  rw [e1, e2]
  have := Nat.xor_lt_two_pow (n := 15) hx hy
  exact w64 (by omega) (by omega)
theorem and63_1 {x : Int} (h : 0 ≤ x ∧ x < 4611686018427387904) : bitsK .and .i64 x 1 = x % 2 := by
  obtain ⟨n, rfl⟩ : ∃ n : Nat, x = n := ⟨x.toNat, by omega⟩
  simp only [bitsK, BitVec.toNat_and]
  rw [show (BitVec.ofInt IntKind.i64.bits (1 : Int)).toNat = 2 ^ 1 - 1 from rfl, ofInt_nat, show n % 2 ^ IntKind.i64.bits = n from Nat.mod_eq_of_lt (by
    show n < 2 ^ 64
    omega), Nat.and_two_pow_sub_one_eq_mod]
  rw [w64 (by omega) (by omega)]
  rfl
theorem shl63n (x n : Nat) (hn : n ≤ 40) (hx : x * 2 ^ n < 4611686018427387904) : shiftK .shl .i64 (x : Int) (n : Int) = ((x * 2 ^ n : Nat) : Int) := by
  have e : Nat.min n 64 = n := Nat.min_eq_left (by omega)
  simp only [shiftK, Int.toNat_natCast]
  rw [show IntKind.i64.bits = 64 from rfl, e]
  rw [show (x : Int) * 2 ^ n = ((x * 2 ^ n : Nat) : Int) by simp]
  exact w64 (by omega) (by omega)
theorem shr63n (x n : Nat) (hn : n ≤ 63) : shiftK .shr .i64 (x : Int) (n : Int) = ((x / 2 ^ n : Nat) : Int) := by
  simp only [shiftK, Int.toNat_natCast]
  rw [show IntKind.i64.bits = 64 from rfl, show Nat.min n 64 = n from Nat.min_eq_left (by omega), Int.fdiv_eq_ediv_of_nonneg _ (by
    have : (0 : Int) ≤ ((2 ^ n : Nat) : Int) := Int.natCast_nonneg _
    simpa using this)]
  simp
end Go.Proofs.Ytildhljhbbhmmaa.AM
namespace Go.Proofs.Ytildhljhbbhmmaa.AM
open Go
set_option linter.all false
set_option maxRecDepth 10000

/-! ### Values of polynomials -/
/-- A map is the value of a polynomial of less than n coefficients. -/
def Pol : Nat → (UInt8 → UInt8) → Prop
  | 0, f => ∀ z, f z = 0
  | n + 1, f => ∃ (c : UInt8) (q : UInt8 → UInt8), Pol n q ∧ ∀ z, f z = c ^^^ gM z (q z)
theorem Pol.congr : ∀ {n : Nat} {f g : UInt8 → UInt8}, Pol n f → (∀ z, g z = f z) → Pol n g
  | 0, f, g, h, e => fun z => by rw [e]; exact h z
  | n + 1, f, g, ⟨c, q, h1, h2⟩, e => ⟨c, q, h1, fun z => by rw [e, h2]⟩
theorem pol_none : ∀ n, Pol n (fun _ => 0)
  | 0 => fun _ => rfl
  | n + 1 => ⟨0, fun _ => 0, pol_none n, fun z => by rw [gM_zero, UInt8.xor_self]⟩
theorem x4 (a b c d : UInt8) : a ^^^ b ^^^ (c ^^^ d) = a ^^^ c ^^^ (b ^^^ d) := by ac_rfl
theorem Pol.add : ∀ {n : Nat} {f g : UInt8 → UInt8}, Pol n f → Pol n g → Pol n (fun z => f z ^^^ g z)
  | 0, f, g, h1, h2 => fun z => by show f z ^^^ g z = 0; rw [h1 z, h2 z]; rfl
  | n + 1, f, g, ⟨c, q, h1, h2⟩, ⟨d, r, h3, h4⟩ => ⟨c ^^^ d, fun z => q z ^^^ r z, h1.add h3, fun z => by
      show f z ^^^ g z = _
      rw [h2, h4, gM_addR, x4]⟩
theorem Pol.scale (a : UInt8) : ∀ {n : Nat} {f : UInt8 → UInt8}, Pol n f → Pol n (fun z => gM a (f z))
  | 0, f, h1 => fun z => by show gM a (f z) = 0; rw [h1 z, gM_zero]
  | n + 1, f, ⟨c, q, h1, h2⟩ => ⟨gM a c, fun z => gM a (q z), h1.scale a, fun z => by
      show gM a (f z) = _
      rw [h2, gM_addR, ← gM_assoc, gM_comm a z, gM_assoc]⟩
theorem Pol.mono : ∀ {n : Nat} {f : UInt8 → UInt8}, Pol n f → Pol (n + 1) f
  | 0, f, h1 => ⟨0, fun _ => 0, fun _ => rfl, fun z => by rw [h1, gM_zero, UInt8.xor_self]⟩
  | n + 1, f, ⟨c, q, h1, h2⟩ => ⟨c, q, h1.mono, h2⟩
theorem Pol.lin (a : UInt8) {n : Nat} {f : UInt8 → UInt8} (h : Pol n f) : Pol (n + 1) (fun z => gM (z ^^^ a) (f z)) := by
  have h1 : Pol (n + 1) (fun z => gM z (f z)) := ⟨0, f, h, fun z => by rw [UInt8.zero_xor]⟩
  exact (h1.add (h.scale a).mono).congr fun z => by show gM (z ^^^ a) (f z) = gM z (f z) ^^^ gM a (f z); rw [gM_addL]
theorem pol_one (c : UInt8) : Pol 1 (fun _ => c) := ⟨c, fun _ => 0, fun _ => rfl, fun z => by rw [gM_zero, UInt8.xor_zero]⟩
theorem Pol.div (a : UInt8) : ∀ {n : Nat} {f : UInt8 → UInt8}, Pol (n + 1) f → ∃ q, Pol n q ∧ ∀ z, f z = f a ^^^ gM (z ^^^ a) (q z)
  | 0, f, ⟨c, q, h1, h2⟩ => ⟨fun _ => 0, fun _ => rfl, fun z => by rw [h2 z, h2 a, h1 z, h1 a, gM_zero, gM_zero, gM_zero, UInt8.xor_zero]; simp⟩
  | n + 1, f, ⟨c, q, h1, h2⟩ => by
    obtain ⟨r, h3, h4⟩ := h1.div a
    refine ⟨fun z => q z ^^^ gM a (r z), h1.add (h3.mono.scale a), fun z => ?_⟩
    show f z = f a ^^^ gM (z ^^^ a) (q z ^^^ gM a (r z))
    have e1 : gM (z ^^^ a) (gM a (r z)) = gM a (q z) ^^^ gM a (q a) := by
      rw [← gM_addR, ← gM_assoc, gM_comm (z ^^^ a) a, gM_assoc]
      congr 1
      have := h4 z
      rw [this, UInt8.xor_comm (q a), UInt8.xor_assoc, UInt8.xor_self, UInt8.xor_zero]
    rw [gM_addR, e1, h2 z, h2 a, gM_addL]
    have : c ^^^ gM a (q a) ^^^ (gM z (q z) ^^^ gM a (q z) ^^^ (gM a (q z) ^^^ gM a (q a))) = c ^^^ gM z (q z) ^^^ ((gM a (q a) ^^^ gM a (q a)) ^^^ (gM a (q z) ^^^ gM a (q z))) := by ac_rfl
    rw [this, UInt8.xor_self, UInt8.xor_self]
    simp
theorem gM_none {a b : UInt8} (h : gM a b = 0) (ha : a ≠ 0) : b = 0 := gM_cancel ha (by rw [h, gM_zero])
theorem xor_ne {a b : UInt8} (h : a ≠ b) : a ^^^ b ≠ 0 := fun e => h (gXor_cancel e)
theorem Pol.roots {x : Nat → UInt8} : ∀ {n : Nat} {f : UInt8 → UInt8}, Pol n f → (∀ i j, i < j → j < n → x i ≠ x j) → (∀ i, i < n → f (x i) = 0) → ∀ z, f z = 0
  | 0, f, h, _, _, z => h z
  | n + 1, f, h, hx, h0, z => by
    obtain ⟨q, h1, h2⟩ := h.div (x n)
    have hn := h0 n (by omega)
    have hq : ∀ i, i < n → q (x i) = 0 := fun i hi => by
      have h3 := h2 (x i)
      rw [h0 i (by omega), hn, UInt8.zero_xor] at h3
      exact gM_none h3.symm (xor_ne (hx i n hi (by omega)))
    rw [h2 z, hn, h1.roots (fun i j hij hj => hx i j hij (by omega)) hq z, gM_zero, UInt8.xor_self]
/-! ### The value at a place -/
/-- The weight of share i after k rounds. -/
def wS (x : Nat → UInt8) (z : UInt8) (i : Nat) : Nat → UInt8
  | 0 => 1
  | k + 1 => if k = i then wS x z i k else gM (wS x z i k) (gM (z ^^^ x k) (gI (x i ^^^ x k)))
def vS (x y : Nat → UInt8) (n : Nat) (z : UInt8) : Nat → UInt8
  | 0 => 0
  | i + 1 => vS x y n z i ^^^ gM (wS x z i n) (y i)
/-- The same as the reference reckons it. -/
def tS (x y : Nat → UInt8) (z : UInt8) (i : Nat) : Nat → UInt8
  | 0 => y i
  | k + 1 => if k = i then tS x y z i k else gM (tS x y z i k) (gM (z ^^^ x k) (gI (x i ^^^ x k)))
theorem tS_eq (x y : Nat → UInt8) (z : UInt8) (i : Nat) : ∀ k, tS x y z i k = gM (wS x z i k) (y i)
  | 0 => by simp only [tS, wS]; rw [gOne_M]
  | k + 1 => by
    simp only [tS, wS]
    rw [tS_eq x y z i k]
    split
    · rfl
    · rw [gM_assoc, gM_comm (y i), ← gM_assoc]
theorem wS_pol (x : Nat → UInt8) (i : Nat) : ∀ k, (k ≤ i → Pol (k + 1) (fun z => wS x z i k)) ∧ (i < k → Pol k (fun z => wS x z i k))
  | 0 => ⟨fun _ => pol_one 1, fun h => absurd h (by omega)⟩
  | k + 1 => by
    obtain ⟨h1, h2⟩ := wS_pol x i k
    have st : ∀ m, k ≠ i → Pol m (fun z => wS x z i k) → Pol (m + 1) (fun z => wS x z i (k + 1)) := fun m hk h =>
      ((h.scale (gI (x i ^^^ x k))).lin (x k)).congr fun z => by
        show wS x z i (k + 1) = gM (z ^^^ x k) (gM (gI (x i ^^^ x k)) (wS x z i k))
        simp only [wS]
        rw [if_neg hk, gM_comm, gM_assoc]
    refine ⟨fun h => st (k + 1) (by omega) (h1 (by omega)), fun h => ?_⟩
    by_cases hk : k = i
    · exact (h1 (by omega)).congr fun z => by simp only [wS]; rw [if_pos hk]
    · exact st k hk (h2 (by omega))
theorem vS_pol (x y : Nat → UInt8) (n : Nat) : ∀ i, i ≤ n → Pol n (fun z => vS x y n z i)
  | 0, _ => pol_none n
  | i + 1, h => ((vS_pol x y n i (by omega)).add (((wS_pol x i n).2 (by omega)).scale (y i))).congr fun z => by
      show vS x y n z (i + 1) = vS x y n z i ^^^ gM (y i) (wS x z i n)
      simp only [vS]
      rw [gM_comm]
theorem wS_none {x : Nat → UInt8} {i j : Nat} (hij : j ≠ i) : ∀ k, j < k → wS x (x j) i k = 0
  | k + 1, h => by
    simp only [wS]
    by_cases hk : k = i
    · rw [if_pos hk]; exact wS_none hij k (by omega)
    · rw [if_neg hk]
      by_cases hj : j = k
      · rw [hj, UInt8.xor_self, gZero_M, gM_zero]
      · rw [wS_none hij k (by omega), gZero_M]
theorem wS_one {x : Nat → UInt8} {n i : Nat} (hx : ∀ i j, i < n → j < n → i ≠ j → x i ≠ x j) (hi : i < n) : ∀ k, k ≤ n → wS x (x i) i k = 1
  | 0, _ => rfl
  | k + 1, h => by
    simp only [wS]
    by_cases hk : k = i
    · rw [if_pos hk]; exact wS_one hx hi k (by omega)
    · rw [if_neg hk, wS_one hx hi k (by omega), gM_I _ (xor_ne (hx i k hi (by omega) (by omega))), gM_one]
theorem vS_at {x y : Nat → UInt8} {n j : Nat} (hx : ∀ i j, i < n → j < n → i ≠ j → x i ≠ x j) (hj : j < n) : ∀ i, i ≤ n → vS x y n (x j) i = if j < i then y j else 0
  | 0, _ => rfl
  | i + 1, h => by
    simp only [vS]
    rw [vS_at hx hj i (by omega)]
    by_cases hi : j = i
    · subst hi
      rw [if_neg (by omega), if_pos (by omega), wS_one hx hj n (Nat.le_refl n), gOne_M, UInt8.zero_xor]
    · rw [wS_none hi n hj, gZero_M, UInt8.xor_zero]
      by_cases hl : j < i
      · rw [if_pos hl, if_pos (by omega)]
      · rw [if_neg hl, if_neg (by omega)]
/-- The law of interpolation. -/
theorem lag {x y : Nat → UInt8} {n : Nat} {p : UInt8 → UInt8} (hp : Pol n p) (hx : ∀ i j, i < n → j < n → i ≠ j → x i ≠ x j) (hy : ∀ i, i < n → y i = p (x i)) (z : UInt8) : vS x y n z n = p z := by
  have h1 := (vS_pol x y n n (Nat.le_refl n)).add hp
  refine gXor_cancel (h1.roots (x := x) (fun i j hij hj => hx i j (by omega) hj (by omega)) (fun i hi => ?_) z)
  show vS x y n (x i) n ^^^ p (x i) = 0
  rw [vS_at hx hi n (Nat.le_refl n), if_pos hi, hy i hi, UInt8.xor_self]
/-! ### The polynomial of a secret -/
/-- The value of the polynomial with coefficients l. -/
def pv (z : UInt8) (l : List UInt8) : UInt8 := l.foldr (fun c d => gM d z ^^^ c) 0
theorem pv_pol : ∀ l : List UInt8, Pol l.length (fun z => pv z l)
  | [] => fun _ => rfl
  | c :: l => ⟨c, fun z => pv z l, pv_pol l, fun z => by
      show gM (pv z l) z ^^^ c = c ^^^ gM z (pv z l)
      rw [UInt8.xor_comm, gM_comm]⟩
/-- What the reference makes of it. -/
def rS (z : UInt8) : UInt8 → UInt8 → List UInt8 → UInt8
  | v, _, [] => v
  | v, w, c :: l => rS z (v ^^^ gM (gM w z) c) (gM w z) l
theorem rS_eq (z : UInt8) : ∀ (l : List UInt8) (v w : UInt8), rS z v w l = v ^^^ gM (gM w z) (pv z l)
  | [], v, w => by show v = v ^^^ gM (gM w z) 0; rw [gM_zero, UInt8.xor_zero]
  | c :: l, v, w => by
    simp only [rS]
    rw [rS_eq z l]
    show _ = v ^^^ gM (gM w z) (gM (pv z l) z ^^^ c)
    rw [gM_addR, gM_comm (pv z l) z, gM_assoc (gM w z) z, UInt8.xor_assoc, UInt8.xor_comm (gM (gM w z) c)]
theorem rS_pv (z s : UInt8) (l : List UInt8) : rS z s 1 l = pv z (s :: l) := by
  rw [rS_eq, gOne_M]
  show _ = gM (pv z l) z ^^^ s
  rw [UInt8.xor_comm, gM_comm]
theorem pv_zero (s : UInt8) (l : List UInt8) : pv 0 (s :: l) = s := by
  show gM _ 0 ^^^ s = s
  rw [gM_zero, UInt8.zero_xor]
end Go.Proofs.Ytildhljhbbhmmaa.AM
/- Compiled functions. WRITTEN BY A PROGRAM (mk.py). -/
namespace Go.Proofs.Ytildhljhbbhmmaa.AM
open Go
set_option maxRecDepth 100000
set_option linter.all false
def k73 : MCode := (.seq (.ops [⟨(some 4), none, false, (.mov (.const (.int .u8 0)))⟩]) (.seq (.ops [⟨(some 5), none, false, (.mov (.const (.int .u8 0)))⟩]) (.seq (.block 0 (.loop (.seq (.seq (.ops [⟨(some 7), none, false, (.mov (.tmp 1))⟩, ⟨(some 8), none, false, (.bin .int .gtr (.tmp 7) (.const (.int .u8 0)))⟩]) (.cond (.tmp 8) .skip (.exit 0))) (.seq (.block 1 (.seq (.seq (.ops [⟨(some 11), none, false, (.mov (.tmp 1))⟩, ⟨(some 12), none, false, (.bin .int .and (.tmp 11) (.const (.int .u8 1)))⟩, ⟨(some 13), none, false, (.bin .int .eql (.tmp 12) (.const (.int .u8 1)))⟩]) (.cond (.tmp 13) (.ops [⟨(some 14), none, false, (.mov (.tmp 5))⟩, ⟨(some 15), none, false, (.mov (.tmp 0))⟩, ⟨(some 16), none, false, (.bin .int .xor (.tmp 14) (.tmp 15))⟩, ⟨(some 5), none, false, (.mov (.tmp 16))⟩]) .skip)) (.seq (.ops [⟨(some 17), none, false, (.mov (.tmp 0))⟩, ⟨(some 18), none, false, (.bin .int .and (.tmp 17) (.const (.int .u8 128)))⟩, ⟨(some 6), none, false, (.mov (.tmp 18))⟩]) (.seq (.ops [⟨(some 19), none, false, (.mov (.tmp 0))⟩, ⟨(some 20), none, false, (.bin .int .shl (.tmp 19) (.const (.int .u64 1)))⟩, ⟨(some 0), none, false, (.mov (.tmp 20))⟩]) (.seq (.ops [⟨(some 21), none, false, (.mov (.tmp 6))⟩, ⟨(some 22), none, false, (.bin .int .gtr (.tmp 21) (.const (.int .u8 0)))⟩]) (.cond (.tmp 22) (.ops [⟨(some 23), none, false, (.mov (.tmp 0))⟩, ⟨(some 24), none, false, (.bin .int .xor (.tmp 23) (.const (.int .u8 27)))⟩, ⟨(some 0), none, false, (.mov (.tmp 24))⟩]) .skip)))))) (.ops [⟨(some 9), none, false, (.mov (.tmp 1))⟩, ⟨(some 10), none, false, (.bin .int .shr (.tmp 9) (.const (.int .u64 1)))⟩, ⟨(some 1), none, false, (.mov (.tmp 10))⟩]))))) (.seq (.ops [⟨(some 25), none, false, (.mov (.tmp 5))⟩, ⟨(some 4), none, false, (.mov (.tmp 25))⟩]) .ret))))
def m73 : MFun := ⟨k73, [(.tmp 4)]⟩
theorem c73 : compFn Try.prog Try.f73 = some m73 := by kernel_rfl
def k117 : MCode := (.seq (.ops [⟨(some 2), none, false, (.mov (.const (.int .u8 0)))⟩]) (.seq (.ops [⟨(some 3), none, false, (.mov (.const (.int .u8 1)))⟩]) (.seq (.seq (.ops [⟨(some 4), none, false, (.mov (.const (.int .i64 254)))⟩]) (.block 0 (.loop (.seq (.seq (.ops [⟨(some 5), none, false, (.mov (.tmp 4))⟩, ⟨(some 6), none, false, (.bin .int .gtr (.tmp 5) (.const (.int .i64 0)))⟩]) (.cond (.tmp 6) .skip (.exit 0))) (.seq (.block 1 (.seq (.seq (.ops [⟨(some 9), none, false, (.mov (.tmp 4))⟩, ⟨(some 10), none, false, (.bin .int .and (.tmp 9) (.const (.int .i64 1)))⟩, ⟨(some 11), none, false, (.bin .int .eql (.tmp 10) (.const (.int .i64 1)))⟩]) (.cond (.tmp 11) (.ops [⟨(some 12), none, false, (.mov (.tmp 3))⟩, ⟨(some 13), none, false, (.mov (.tmp 0))⟩, ⟨(some 14), none, false, (.call false (.func 73) [(.tmp 12), (.tmp 13)])⟩, ⟨(some 3), none, false, (.mov (.tmp 14))⟩]) .skip)) (.ops [⟨(some 15), none, false, (.mov (.tmp 0))⟩, ⟨(some 16), none, false, (.mov (.tmp 0))⟩, ⟨(some 17), none, false, (.call false (.func 73) [(.tmp 15), (.tmp 16)])⟩, ⟨(some 0), none, false, (.mov (.tmp 17))⟩]))) (.ops [⟨(some 7), none, false, (.mov (.tmp 4))⟩, ⟨(some 8), none, false, (.bin .int .shr (.tmp 7) (.const (.int .u64 1)))⟩, ⟨(some 4), none, false, (.mov (.tmp 8))⟩])))))) (.seq (.ops [⟨(some 18), none, false, (.mov (.tmp 3))⟩, ⟨(some 2), none, false, (.mov (.tmp 18))⟩]) .ret))))
def m117 : MFun := ⟨k117, [(.tmp 2)]⟩
theorem c117 : compFn Try.prog Try.f117 = some m117 := by kernel_rfl
def k74 : MCode := (.seq (.ops [⟨(some 4), none, false, (.mov (.const (.int .i64 0)))⟩]) (.seq (.ops [⟨(some 5), none, false, (.mov (.const (.int .i64 0)))⟩]) (.seq (.seq (.ops [⟨(some 8), none, false, (.mov (.const (.int .i64 0)))⟩]) (.block 0 (.loop (.seq (.ops [⟨(some 9), none, false, (.bin .int .lss (.tmp 8) (.const (.int .i64 8)))⟩]) (.seq (.cond (.tmp 9) .skip (.exit 0)) (.seq (.block 1 (.seq (.ops [⟨(some 10), none, false, (.mov (.tmp 8))⟩, ⟨(some 6), none, false, (.mov (.tmp 10))⟩]) (.seq (.ops [⟨(some 11), none, false, (.mov (.tmp 1))⟩, ⟨(some 12), none, false, (.mov (.tmp 6))⟩, ⟨(some 13), none, false, (.bin .int .shr (.tmp 11) (.tmp 12))⟩, ⟨(some 14), none, false, (.bin .int .and (.tmp 13) (.const (.int .i64 1)))⟩, ⟨(some 15), none, false, (.bin .int .eql (.tmp 14) (.const (.int .i64 1)))⟩]) (.cond (.tmp 15) (.ops [⟨(some 16), none, false, (.mov (.tmp 5))⟩, ⟨(some 17), none, false, (.mov (.tmp 0))⟩, ⟨(some 18), none, false, (.mov (.tmp 6))⟩, ⟨(some 19), none, false, (.bin .int .shl (.tmp 17) (.tmp 18))⟩, ⟨(some 20), none, false, (.bin .int .xor (.tmp 16) (.tmp 19))⟩, ⟨(some 5), none, false, (.mov (.tmp 20))⟩]) .skip)))) (.ops [⟨(some 21), none, false, (.bin .int .add (.tmp 8) (.const (.int .i64 1)))⟩, ⟨(some 8), none, false, (.mov (.tmp 21))⟩]))))))) (.seq (.seq (.ops [⟨(some 7), none, false, (.mov (.const (.int .i64 14)))⟩]) (.block 2 (.loop (.seq (.seq (.ops [⟨(some 22), none, false, (.mov (.tmp 7))⟩, ⟨(some 23), none, false, (.bin .int .geq (.tmp 22) (.const (.int .i64 8)))⟩]) (.cond (.tmp 23) .skip (.exit 2))) (.seq (.block 3 (.seq (.ops [⟨(some 26), none, false, (.mov (.tmp 5))⟩, ⟨(some 27), none, false, (.mov (.tmp 7))⟩, ⟨(some 28), none, false, (.bin .int .shr (.tmp 26) (.tmp 27))⟩, ⟨(some 29), none, false, (.bin .int .and (.tmp 28) (.const (.int .i64 1)))⟩, ⟨(some 30), none, false, (.bin .int .eql (.tmp 29) (.const (.int .i64 1)))⟩]) (.cond (.tmp 30) (.ops [⟨(some 31), none, false, (.mov (.tmp 5))⟩, ⟨(some 32), none, false, (.mov (.tmp 7))⟩, ⟨(some 33), none, false, (.bin .int .sub (.tmp 32) (.const (.int .i64 8)))⟩, ⟨(some 34), none, false, (.bin .int .shl (.const (.int .i64 283)) (.tmp 33))⟩, ⟨(some 35), none, false, (.bin .int .xor (.tmp 31) (.tmp 34))⟩, ⟨(some 5), none, false, (.mov (.tmp 35))⟩]) .skip))) (.ops [⟨(some 24), none, false, (.mov (.tmp 7))⟩, ⟨(some 25), none, false, (.bin .int .sub (.tmp 24) (.const (.int .i64 1)))⟩, ⟨(some 7), none, false, (.mov (.tmp 25))⟩])))))) (.seq (.ops [⟨(some 36), none, false, (.mov (.tmp 5))⟩, ⟨(some 4), none, false, (.mov (.tmp 36))⟩]) .ret)))))
def m74 : MFun := ⟨k74, [(.tmp 4)]⟩
theorem c74 : compFn Try.prog Try.f74 = some m74 := by kernel_rfl
def k101 : MCode := (.seq (.ops [⟨(some 2), none, false, (.mov (.const (.int .i64 0)))⟩]) (.seq (.seq (.ops [⟨(some 4), none, false, (.mov (.const (.int .i64 0)))⟩]) (.block 0 (.loop (.seq (.ops [⟨(some 5), none, false, (.bin .int .lss (.tmp 4) (.const (.int .i64 256)))⟩]) (.seq (.cond (.tmp 5) .skip (.exit 0)) (.seq (.block 1 (.seq (.ops [⟨(some 6), none, false, (.mov (.tmp 4))⟩, ⟨(some 3), none, false, (.mov (.tmp 6))⟩]) (.seq (.ops [⟨(some 7), none, false, (.mov (.tmp 0))⟩, ⟨(some 8), none, false, (.mov (.tmp 3))⟩, ⟨(some 9), none, false, (.call false (.func 74) [(.tmp 7), (.tmp 8)])⟩, ⟨(some 10), none, false, (.bin .int .eql (.tmp 9) (.const (.int .i64 1)))⟩]) (.cond (.tmp 10) (.seq (.ops [⟨(some 11), none, false, (.mov (.tmp 3))⟩, ⟨(some 2), none, false, (.mov (.tmp 11))⟩]) .ret) .skip)))) (.ops [⟨(some 12), none, false, (.bin .int .add (.tmp 4) (.const (.int .i64 1)))⟩, ⟨(some 4), none, false, (.mov (.tmp 12))⟩]))))))) (.seq (.ops [⟨(some 2), none, false, (.mov (.const (.int .i64 0)))⟩]) .ret)))
def m101 : MFun := ⟨k101, [(.tmp 2)]⟩
def k100 : MCode := (.seq (.ops [⟨(some 4), none, false, (.mov (.const (.slice none 0 0)))⟩]) (.seq (.ops [⟨(some 10), none, false, (.mov (.tmp 0))⟩, ⟨(some 11), none, false, (.len (.tmp 10))⟩, ⟨(some 12), none, false, (.mkSlice [(.int .u8 0)] 1 1 (.tmp 11) (.tmp 11))⟩, ⟨(some 5), none, false, (.mov (.tmp 12))⟩]) (.seq (.seq (.ops [⟨(some 13), none, false, (.mov (.tmp 0))⟩, ⟨(some 14), none, false, (.len (.tmp 13))⟩, ⟨(some 15), none, false, (.mov (.const (.int .i64 0)))⟩]) (.block 0 (.loop (.seq (.ops [⟨(some 16), none, false, (.bin .int .lss (.tmp 15) (.tmp 14))⟩]) (.seq (.cond (.tmp 16) .skip (.exit 0)) (.seq (.block 1 (.seq (.ops [⟨(some 17), none, false, (.mov (.tmp 15))⟩, ⟨(some 18), none, false, (.idxS 2 (.tmp 13) (.tmp 15))⟩, ⟨(some 19), none, false, (.load true 2 (.tmp 18))⟩, ⟨(some 7), none, false, (.alloc [(.int .i64 0), (.string ⟨#[]⟩)] 1)⟩, ⟨(some 6), none, false, (.mov (.tmp 17))⟩, ⟨none, none, false, (.store 2 (.tmp 7) (.tmp 19))⟩]) (.seq (.ops [⟨(some 20), none, false, (.mov (.tmp 5))⟩, ⟨(some 21), none, false, (.mov (.tmp 6))⟩, ⟨(some 22), none, false, (.idxS 1 (.tmp 20) (.tmp 21))⟩, ⟨none, none, false, (.store 1 (.tmp 22) (.const (.int .u8 1)))⟩]) (.seq (.ops [⟨(some 23), none, false, (.mov (.tmp 0))⟩, ⟨(some 24), none, false, (.len (.tmp 23))⟩, ⟨(some 25), none, false, (.mov (.const (.int .i64 0)))⟩]) (.block 2 (.loop (.seq (.ops [⟨(some 26), none, false, (.bin .int .lss (.tmp 25) (.tmp 24))⟩]) (.seq (.cond (.tmp 26) .skip (.exit 2)) (.seq (.block 3 (.seq (.ops [⟨(some 27), none, false, (.mov (.tmp 25))⟩, ⟨(some 28), none, false, (.idxS 2 (.tmp 23) (.tmp 25))⟩, ⟨(some 29), none, false, (.load true 2 (.tmp 28))⟩, ⟨(some 9), none, false, (.alloc [(.int .i64 0), (.string ⟨#[]⟩)] 1)⟩, ⟨(some 8), none, false, (.mov (.tmp 27))⟩, ⟨none, none, false, (.store 2 (.tmp 9) (.tmp 29))⟩]) (.seq (.ops [⟨(some 30), none, false, (.mov (.tmp 8))⟩, ⟨(some 31), none, false, (.mov (.tmp 6))⟩, ⟨(some 32), none, false, (.bin .int .neq (.tmp 30) (.tmp 31))⟩]) (.cond (.tmp 32) (.opsD [⟨(some 33), none, false, (.mov (.tmp 5))⟩, ⟨(some 34), none, false, (.mov (.tmp 6))⟩, ⟨(some 35), none, false, (.mov (.tmp 5))⟩, ⟨(some 36), none, false, (.mov (.tmp 6))⟩, ⟨(some 37), none, false, (.idxS 1 (.tmp 35) (.tmp 36))⟩, ⟨(some 38), none, false, (.load false 1 (.tmp 37))⟩, ⟨(some 39), none, false, (.mov (.tmp 1))⟩, ⟨(some 40), none, false, (.addOff 0 (.tmp 9))⟩, ⟨(some 41), none, false, (.load false 1 (.tmp 40))⟩, ⟨(some 42), none, false, (.conv .u8 (.tmp 41))⟩, ⟨(some 43), none, false, (.bin .int .xor (.tmp 39) (.tmp 42))⟩, ⟨(some 44), none, false, (.addOff 0 (.tmp 7))⟩, ⟨(some 45), none, false, (.load false 1 (.tmp 44))⟩, ⟨(some 46), none, false, (.conv .u8 (.tmp 45))⟩, ⟨(some 47), none, false, (.addOff 0 (.tmp 9))⟩, ⟨(some 48), none, false, (.load false 1 (.tmp 47))⟩, ⟨(some 49), none, false, (.conv .u8 (.tmp 48))⟩, ⟨(some 50), none, false, (.bin .int .xor (.tmp 46) (.tmp 49))⟩, ⟨(some 51), none, false, (.call true (.func 117) [(.tmp 50)])⟩, ⟨(some 52), none, false, (.call true (.func 73) [(.tmp 43), (.tmp 51)])⟩, ⟨(some 53), none, false, (.call false (.func 73) [(.tmp 38), (.tmp 52)])⟩, ⟨(some 54), none, false, (.idxS 1 (.tmp 33) (.tmp 34))⟩, ⟨none, none, false, (.store 1 (.tmp 54) (.tmp 53))⟩]) .skip)))) (.ops [⟨(some 55), none, false, (.bin .int .add (.tmp 25) (.const (.int .i64 1)))⟩, ⟨(some 25), none, false, (.mov (.tmp 55))⟩])))))))))) (.ops [⟨(some 56), none, false, (.bin .int .add (.tmp 15) (.const (.int .i64 1)))⟩, ⟨(some 15), none, false, (.mov (.tmp 56))⟩]))))))) (.seq (.ops [⟨(some 57), none, false, (.mov (.tmp 5))⟩, ⟨(some 4), none, false, (.mov (.tmp 57))⟩]) .ret))))
def m100 : MFun := ⟨k100, [(.tmp 4)]⟩
theorem c100 : compFn Try.prog Try.f100 = some m100 := by kernel_rfl
def k70 : MCode := (.seq (.ops [⟨(some 4), none, false, (.mov (.const (.string ⟨#[]⟩)))⟩]) (.seq (.ops [⟨(some 10), none, false, (.mov (.tmp 0))⟩, ⟨(some 11), none, false, (.mov (.tmp 1))⟩, ⟨(some 12), none, false, (.call false (.func 100) [(.tmp 10), (.tmp 11)])⟩, ⟨(some 5), none, false, (.mov (.tmp 12))⟩]) (.seq (.ops [⟨(some 13), none, false, (.mov (.tmp 0))⟩, ⟨(some 14), none, false, (.idxS 2 (.tmp 13) (.const (.int .i64 0)))⟩, ⟨(some 15), none, false, (.addOff 1 (.tmp 14))⟩, ⟨(some 16), none, false, (.load false 1 (.tmp 15))⟩, ⟨(some 17), none, false, (.lenStr (.tmp 16))⟩, ⟨(some 18), none, false, (.mkSlice [(.int .u8 0)] 1 1 (.tmp 17) (.tmp 17))⟩, ⟨(some 6), none, false, (.mov (.tmp 18))⟩]) (.seq (.seq (.ops [⟨(some 19), none, false, (.mov (.tmp 0))⟩, ⟨(some 20), none, false, (.len (.tmp 19))⟩, ⟨(some 21), none, false, (.mov (.const (.int .i64 0)))⟩]) (.block 0 (.loop (.seq (.ops [⟨(some 22), none, false, (.bin .int .lss (.tmp 21) (.tmp 20))⟩]) (.seq (.cond (.tmp 22) .skip (.exit 0)) (.seq (.block 1 (.seq (.ops [⟨(some 23), none, false, (.mov (.tmp 21))⟩, ⟨(some 24), none, false, (.idxS 2 (.tmp 19) (.tmp 21))⟩, ⟨(some 25), none, false, (.load true 2 (.tmp 24))⟩, ⟨(some 8), none, false, (.alloc [(.int .i64 0), (.string ⟨#[]⟩)] 1)⟩, ⟨(some 7), none, false, (.mov (.tmp 23))⟩, ⟨none, none, false, (.store 2 (.tmp 8) (.tmp 25))⟩]) (.seq (.ops [⟨(some 26), none, false, (.mov (.tmp 6))⟩, ⟨(some 27), none, false, (.len (.tmp 26))⟩, ⟨(some 28), none, false, (.mov (.const (.int .i64 0)))⟩]) (.block 2 (.loop (.seq (.ops [⟨(some 29), none, false, (.bin .int .lss (.tmp 28) (.tmp 27))⟩]) (.seq (.cond (.tmp 29) .skip (.exit 2)) (.seq (.block 3 (.seq (.ops [⟨(some 30), none, false, (.mov (.tmp 28))⟩, ⟨(some 9), none, false, (.mov (.tmp 30))⟩]) (.opsD [⟨(some 31), none, false, (.mov (.tmp 6))⟩, ⟨(some 32), none, false, (.mov (.tmp 9))⟩, ⟨(some 33), none, false, (.idxS 1 (.tmp 31) (.tmp 32))⟩, ⟨(some 34), none, false, (.load false 1 (.tmp 33))⟩, ⟨(some 35), none, false, (.mov (.tmp 5))⟩, ⟨(some 36), none, false, (.mov (.tmp 7))⟩, ⟨(some 37), none, false, (.idxS 1 (.tmp 35) (.tmp 36))⟩, ⟨(some 38), none, false, (.load false 1 (.tmp 37))⟩, ⟨(some 39), none, false, (.addOff 1 (.tmp 8))⟩, ⟨(some 40), none, false, (.load false 1 (.tmp 39))⟩, ⟨(some 41), none, false, (.mov (.tmp 9))⟩, ⟨(some 42), none, false, (.strIdx (.tmp 40) (.tmp 41))⟩, ⟨(some 43), none, false, (.call true (.func 73) [(.tmp 38), (.tmp 42)])⟩, ⟨(some 44), none, false, (.bin .int .xor (.tmp 34) (.tmp 43))⟩, ⟨(some 45), none, false, (.idxS 1 (.tmp 31) (.tmp 32))⟩, ⟨none, none, false, (.store 1 (.tmp 45) (.tmp 44))⟩]))) (.ops [⟨(some 46), none, false, (.bin .int .add (.tmp 28) (.const (.int .i64 1)))⟩, ⟨(some 28), none, false, (.mov (.tmp 46))⟩]))))))))) (.ops [⟨(some 47), none, false, (.bin .int .add (.tmp 21) (.const (.int .i64 1)))⟩, ⟨(some 21), none, false, (.mov (.tmp 47))⟩]))))))) (.seq (.ops [⟨(some 48), none, false, (.mov (.tmp 6))⟩, ⟨(some 49), none, false, (.toStr (.tmp 48))⟩, ⟨(some 4), none, false, (.mov (.tmp 49))⟩]) .ret)))))
def m70 : MFun := ⟨k70, [(.tmp 4)]⟩
theorem c70 : compFn Try.prog Try.f70 = some m70 := by kernel_rfl
def k72 : MCode := (.seq (.ops [⟨(some 8), none, false, (.mov (.const (.int .i64 0)))⟩]) (.seq (.ops [⟨(some 9), none, false, (.mov (.const (.int .i64 0)))⟩]) (.seq (.seq (.ops [⟨(some 13), none, false, (.mov (.tmp 1))⟩, ⟨(some 14), none, false, (.mov (.const (.int .i64 0)))⟩]) (.block 0 (.loop (.seq (.ops [⟨(some 15), none, false, (.bin .int .lss (.tmp 14) (.tmp 13))⟩]) (.seq (.cond (.tmp 15) .skip (.exit 0)) (.seq (.block 1 (.seq (.ops [⟨(some 16), none, false, (.mov (.tmp 14))⟩, ⟨(some 10), none, false, (.mov (.tmp 16))⟩]) (.seq (.ops [⟨(some 17), none, false, (.mov (.tmp 0))⟩, ⟨(some 18), none, false, (.mov (.tmp 10))⟩, ⟨(some 19), none, false, (.idxS 2 (.tmp 17) (.tmp 18))⟩, ⟨(some 20), none, false, (.addOff 1 (.tmp 19))⟩, ⟨(some 21), none, false, (.load false 1 (.tmp 20))⟩, ⟨(some 22), none, false, (.mov (.tmp 2))⟩, ⟨(some 23), none, false, (.strIdx (.tmp 21) (.tmp 22))⟩, ⟨(some 24), none, false, (.conv .i64 (.tmp 23))⟩, ⟨(some 11), none, false, (.mov (.tmp 24))⟩]) (.seq (.seq (.ops [⟨(some 25), none, false, (.mov (.tmp 1))⟩, ⟨(some 26), none, false, (.mov (.const (.int .i64 0)))⟩]) (.block 2 (.loop (.seq (.ops [⟨(some 27), none, false, (.bin .int .lss (.tmp 26) (.tmp 25))⟩]) (.seq (.cond (.tmp 27) .skip (.exit 2)) (.seq (.block 3 (.seq (.ops [⟨(some 28), none, false, (.mov (.tmp 26))⟩, ⟨(some 12), none, false, (.mov (.tmp 28))⟩]) (.seq (.ops [⟨(some 29), none, false, (.mov (.tmp 12))⟩, ⟨(some 30), none, false, (.mov (.tmp 10))⟩, ⟨(some 31), none, false, (.bin .int .neq (.tmp 29) (.tmp 30))⟩]) (.cond (.tmp 31) (.opsD [⟨(some 32), none, false, (.mov (.tmp 11))⟩, ⟨(some 33), none, false, (.mov (.tmp 3))⟩, ⟨(some 34), none, false, (.mov (.tmp 0))⟩, ⟨(some 35), none, false, (.mov (.tmp 12))⟩, ⟨(some 36), none, false, (.idxS 2 (.tmp 34) (.tmp 35))⟩, ⟨(some 37), none, false, (.addOff 0 (.tmp 36))⟩, ⟨(some 38), none, false, (.load false 1 (.tmp 37))⟩, ⟨(some 39), none, false, (.bin .int .xor (.tmp 33) (.tmp 38))⟩, ⟨(some 40), none, false, (.mov (.tmp 0))⟩, ⟨(some 41), none, false, (.mov (.tmp 10))⟩, ⟨(some 42), none, false, (.idxS 2 (.tmp 40) (.tmp 41))⟩, ⟨(some 43), none, false, (.addOff 0 (.tmp 42))⟩, ⟨(some 44), none, false, (.load false 1 (.tmp 43))⟩, ⟨(some 45), none, false, (.mov (.tmp 0))⟩, ⟨(some 46), none, false, (.mov (.tmp 12))⟩, ⟨(some 47), none, false, (.idxS 2 (.tmp 45) (.tmp 46))⟩, ⟨(some 48), none, false, (.addOff 0 (.tmp 47))⟩, ⟨(some 49), none, false, (.load false 1 (.tmp 48))⟩, ⟨(some 50), none, false, (.bin .int .xor (.tmp 44) (.tmp 49))⟩, ⟨(some 51), none, false, (.call true (.func 101) [(.tmp 50)])⟩, ⟨(some 52), none, false, (.call false (.func 74) [(.tmp 39), (.tmp 51)])⟩, ⟨(some 53), none, false, (.call false (.func 74) [(.tmp 32), (.tmp 52)])⟩, ⟨(some 11), none, false, (.mov (.tmp 53))⟩]) .skip)))) (.ops [⟨(some 54), none, false, (.bin .int .add (.tmp 26) (.const (.int .i64 1)))⟩, ⟨(some 26), none, false, (.mov (.tmp 54))⟩]))))))) (.ops [⟨(some 55), none, false, (.mov (.tmp 9))⟩, ⟨(some 56), none, false, (.mov (.tmp 11))⟩, ⟨(some 57), none, false, (.bin .int .xor (.tmp 55) (.tmp 56))⟩, ⟨(some 9), none, false, (.mov (.tmp 57))⟩]))))) (.ops [⟨(some 58), none, false, (.bin .int .add (.tmp 14) (.const (.int .i64 1)))⟩, ⟨(some 14), none, false, (.mov (.tmp 58))⟩]))))))) (.seq (.ops [⟨(some 59), none, false, (.mov (.tmp 9))⟩, ⟨(some 8), none, false, (.mov (.tmp 59))⟩]) .ret))))
def m72 : MFun := ⟨k72, [(.tmp 8)]⟩
def k32 : MCode := (.seq (.ops [⟨(some 4), none, false, (.mov (.const (.string ⟨#[]⟩)))⟩, ⟨(some 5), none, false, (.mov (.const (.int .i64 0)))⟩]) (.seq (.block 0 (.seq (.ops [⟨(some 12), none, false, (.mov (.tmp 1))⟩, ⟨(some 13), none, false, (.bin .int .lss (.tmp 12) (.const (.int .i64 1)))⟩, ⟨(some 14), none, false, (.mov (.tmp 13))⟩, ⟨(some 15), (some (14, false)), false, (.mov (.tmp 1))⟩, ⟨(some 16), (some (14, false)), false, (.bin .int .gtr (.tmp 15) (.const (.int .i64 255)))⟩, ⟨(some 17), none, false, (.pick (.tmp 14) (.const (.bool true)) (.tmp 16))⟩, ⟨(some 11), none, false, (.mov (.tmp 17))⟩]) (.cond (.tmp 11) (.seq (.ops [⟨(some 4), none, false, (.mov (.const (.string ⟨#[]⟩)))⟩, ⟨(some 5), none, false, (.mov (.const (.int .i64 7)))⟩]) .ret) (.seq (.ops [⟨(some 19), none, false, (.mov (.tmp 0))⟩, ⟨(some 20), none, false, (.len (.tmp 19))⟩, ⟨(some 21), none, false, (.mov (.tmp 1))⟩, ⟨(some 22), none, false, (.bin .int .lss (.tmp 20) (.tmp 21))⟩, ⟨(some 18), none, false, (.mov (.tmp 22))⟩]) (.cond (.tmp 18) (.seq (.ops [⟨(some 4), none, false, (.mov (.const (.string ⟨#[]⟩)))⟩, ⟨(some 5), none, false, (.mov (.const (.int .i64 3)))⟩]) .ret) (.seq (.ops [⟨(some 24), none, false, (.mov (.tmp 0))⟩, ⟨(some 25), none, false, (.len (.tmp 24))⟩, ⟨(some 26), none, false, (.bin .int .gtr (.tmp 25) (.const (.int .i64 255)))⟩, ⟨(some 23), none, false, (.mov (.tmp 26))⟩]) (.cond (.tmp 23) (.seq (.ops [⟨(some 4), none, false, (.mov (.const (.string ⟨#[]⟩)))⟩, ⟨(some 5), none, false, (.mov (.const (.int .i64 8)))⟩]) .ret) .skip))))))) (.seq (.ops [⟨(some 6), none, false, (.alloc (List.replicate 256 (.bool false)) 1)⟩]) (.seq (.seq (.ops [⟨(some 27), none, false, (.mov (.tmp 0))⟩, ⟨(some 28), none, false, (.len (.tmp 27))⟩, ⟨(some 29), none, false, (.mov (.const (.int .i64 0)))⟩]) (.block 1 (.loop (.seq (.ops [⟨(some 30), none, false, (.bin .int .lss (.tmp 29) (.tmp 28))⟩]) (.seq (.cond (.tmp 30) .skip (.exit 1)) (.seq (.block 2 (.seq (.ops [⟨(some 31), none, false, (.idxS 2 (.tmp 27) (.tmp 29))⟩, ⟨(some 32), none, false, (.load true 2 (.tmp 31))⟩, ⟨(some 8), none, false, (.alloc [(.int .i64 0), (.string ⟨#[]⟩)] 1)⟩, ⟨none, none, false, (.store 2 (.tmp 8) (.tmp 32))⟩]) (.seq (.block 3 (.seq (.ops [⟨(some 34), none, false, (.addOff 0 (.tmp 8))⟩, ⟨(some 35), none, false, (.load false 1 (.tmp 34))⟩, ⟨(some 36), none, false, (.bin .int .lss (.tmp 35) (.const (.int .i64 1)))⟩, ⟨(some 37), none, false, (.mov (.tmp 36))⟩, ⟨(some 38), (some (37, false)), false, (.addOff 0 (.tmp 8))⟩, ⟨(some 39), (some (37, false)), false, (.load false 1 (.tmp 38))⟩, ⟨(some 40), (some (37, false)), false, (.bin .int .gtr (.tmp 39) (.const (.int .i64 255)))⟩, ⟨(some 41), none, false, (.pick (.tmp 37) (.const (.bool true)) (.tmp 40))⟩, ⟨(some 33), none, false, (.mov (.tmp 41))⟩]) (.cond (.tmp 33) (.seq (.ops [⟨(some 4), none, false, (.mov (.const (.string ⟨#[]⟩)))⟩, ⟨(some 5), none, false, (.mov (.const (.int .i64 7)))⟩]) .ret) (.seq (.ops [⟨(some 43), none, false, (.addOff 0 (.tmp 8))⟩, ⟨(some 44), none, false, (.load false 1 (.tmp 43))⟩, ⟨(some 45), none, false, (.idxA 256 1 (.tmp 6) (.tmp 44))⟩, ⟨(some 46), none, false, (.load false 1 (.tmp 45))⟩, ⟨(some 42), none, false, (.mov (.tmp 46))⟩]) (.cond (.tmp 42) (.seq (.ops [⟨(some 4), none, false, (.mov (.const (.string ⟨#[]⟩)))⟩, ⟨(some 5), none, false, (.mov (.const (.int .i64 4)))⟩]) .ret) (.seq (.opsD [⟨(some 48), none, false, (.addOff 1 (.tmp 8))⟩, ⟨(some 49), none, false, (.load false 1 (.tmp 48))⟩, ⟨(some 50), none, false, (.bin .str .eql (.tmp 49) (.const (.string ⟨#[]⟩)))⟩, ⟨(some 51), none, false, (.mov (.tmp 50))⟩, ⟨(some 52), (some (51, false)), false, (.addOff 1 (.tmp 8))⟩, ⟨(some 53), (some (51, false)), false, (.load false 1 (.tmp 52))⟩, ⟨(some 54), (some (51, false)), false, (.lenStr (.tmp 53))⟩, ⟨(some 55), (some (51, false)), false, (.bin .int .gtr (.tmp 54) (.const (.int .i64 1024)))⟩, ⟨(some 56), none, false, (.pick (.tmp 51) (.const (.bool true)) (.tmp 55))⟩, ⟨(some 57), none, false, (.mov (.tmp 56))⟩, ⟨(some 58), (some (57, false)), false, (.addOff 1 (.tmp 8))⟩, ⟨(some 59), (some (57, false)), false, (.load false 1 (.tmp 58))⟩, ⟨(some 60), (some (57, false)), false, (.lenStr (.tmp 59))⟩, ⟨(some 61), (some (57, false)), false, (.mov (.tmp 0))⟩, ⟨(some 62), (some (57, false)), false, (.idxS 2 (.tmp 61) (.const (.int .i64 0)))⟩, ⟨(some 63), (some (57, false)), false, (.addOff 1 (.tmp 62))⟩, ⟨(some 64), (some (57, false)), false, (.load false 1 (.tmp 63))⟩, ⟨(some 65), (some (57, false)), false, (.lenStr (.tmp 64))⟩, ⟨(some 66), (some (57, false)), false, (.bin .int .neq (.tmp 60) (.tmp 65))⟩, ⟨(some 67), none, false, (.pick (.tmp 57) (.const (.bool true)) (.tmp 66))⟩, ⟨(some 47), none, false, (.mov (.tmp 67))⟩]) (.cond (.tmp 47) (.seq (.ops [⟨(some 4), none, false, (.mov (.const (.string ⟨#[]⟩)))⟩, ⟨(some 5), none, false, (.mov (.const (.int .i64 6)))⟩]) .ret) .skip))))))) (.ops [⟨(some 68), none, false, (.addOff 0 (.tmp 8))⟩, ⟨(some 69), none, false, (.load false 1 (.tmp 68))⟩, ⟨(some 70), none, false, (.idxA 256 1 (.tmp 6) (.tmp 69))⟩, ⟨none, none, false, (.store 1 (.tmp 70) (.const (.bool true)))⟩])))) (.ops [⟨(some 71), none, false, (.bin .int .add (.tmp 29) (.const (.int .i64 1)))⟩, ⟨(some 29), none, false, (.mov (.tmp 71))⟩]))))))) (.seq (.seq (.ops [⟨(some 72), none, false, (.mov (.tmp 0))⟩, ⟨(some 73), none, false, (.mov (.tmp 1))⟩, ⟨(some 74), none, false, (.sliceS 2 (.tmp 72) (some (.tmp 73)) none)⟩, ⟨(some 75), none, false, (.len (.tmp 74))⟩, ⟨(some 76), none, false, (.mov (.const (.int .i64 0)))⟩]) (.block 4 (.loop (.seq (.ops [⟨(some 77), none, false, (.bin .int .lss (.tmp 76) (.tmp 75))⟩]) (.seq (.cond (.tmp 77) .skip (.exit 4)) (.seq (.block 5 (.seq (.ops [⟨(some 78), none, false, (.idxS 2 (.tmp 74) (.tmp 76))⟩, ⟨(some 79), none, false, (.load true 2 (.tmp 78))⟩, ⟨(some 10), none, false, (.alloc [(.int .i64 0), (.string ⟨#[]⟩)] 1)⟩, ⟨none, none, false, (.store 2 (.tmp 10) (.tmp 79))⟩]) (.seq (.opsD [⟨(some 80), none, false, (.mov (.tmp 0))⟩, ⟨(some 81), none, false, (.mov (.tmp 1))⟩, ⟨(some 82), none, false, (.sliceS 2 (.tmp 80) none (some (.tmp 81)))⟩, ⟨(some 83), none, false, (.addOff 0 (.tmp 10))⟩, ⟨(some 84), none, false, (.load false 1 (.tmp 83))⟩, ⟨(some 85), none, false, (.conv .u8 (.tmp 84))⟩, ⟨(some 86), none, false, (.call true (.func 70) [(.tmp 82), (.tmp 85)])⟩, ⟨(some 87), none, false, (.addOff 1 (.tmp 10))⟩, ⟨(some 88), none, true, (.load false 1 (.tmp 87))⟩, ⟨(some 89), none, false, (.bin .str .neq (.tmp 86) (.tmp 88))⟩]) (.cond (.tmp 89) (.seq (.ops [⟨(some 4), none, false, (.mov (.const (.string ⟨#[]⟩)))⟩, ⟨(some 5), none, false, (.mov (.const (.int .i64 18)))⟩]) .ret) .skip)))) (.ops [⟨(some 90), none, false, (.bin .int .add (.tmp 76) (.const (.int .i64 1)))⟩, ⟨(some 76), none, false, (.mov (.tmp 90))⟩]))))))) (.seq (.ops [⟨(some 91), none, false, (.mov (.tmp 0))⟩, ⟨(some 92), none, false, (.mov (.tmp 1))⟩, ⟨(some 93), none, false, (.sliceS 2 (.tmp 91) none (some (.tmp 92)))⟩, ⟨(some 94), none, false, (.call false (.func 70) [(.tmp 93), (.const (.int .u8 0))])⟩, ⟨(some 4), none, false, (.mov (.tmp 94))⟩, ⟨(some 5), none, false, (.mov (.const (.int .i64 0)))⟩]) .ret))))))
def m32 : MFun := ⟨k32, [(.tmp 4), (.tmp 5)]⟩
theorem c32 : compFn Try.prog Try.f32 = some m32 := by kernel_rfl
def k35 : MCode := (.seq (.ops [⟨(some 4), none, false, (.mov (.const (.string ⟨#[]⟩)))⟩, ⟨(some 5), none, false, (.mov (.const (.bool false)))⟩]) (.seq (.ops [⟨(some 6), none, false, (.mov (.const (.string ⟨#[]⟩)))⟩]) (.seq (.seq (.ops [⟨(some 10), none, false, (.mov (.tmp 0))⟩, ⟨(some 11), none, false, (.idxS 2 (.tmp 10) (.const (.int .i64 0)))⟩, ⟨(some 12), none, false, (.addOff 1 (.tmp 11))⟩, ⟨(some 13), none, false, (.load false 1 (.tmp 12))⟩, ⟨(some 14), none, false, (.lenStr (.tmp 13))⟩, ⟨(some 15), none, false, (.mov (.const (.int .i64 0)))⟩]) (.block 0 (.loop (.seq (.ops [⟨(some 16), none, false, (.bin .int .lss (.tmp 15) (.tmp 14))⟩]) (.seq (.cond (.tmp 16) .skip (.exit 0)) (.seq (.block 1 (.seq (.ops [⟨(some 17), none, false, (.mov (.tmp 15))⟩, ⟨(some 7), none, false, (.mov (.tmp 17))⟩]) (.seq (.ops [⟨(some 18), none, false, (.mov (.tmp 6))⟩, ⟨(some 19), none, false, (.mov (.tmp 0))⟩, ⟨(some 20), none, false, (.mov (.tmp 1))⟩, ⟨(some 21), none, false, (.mov (.tmp 7))⟩, ⟨(some 22), none, false, (.call false (.func 72) [(.tmp 19), (.tmp 20), (.tmp 21), (.const (.int .i64 0))])⟩, ⟨(some 23), none, false, (.conv .u8 (.tmp 22))⟩, ⟨(some 24), none, false, (.buildSlice [(.int .u8 0)] 1 1 [(0, (1, (.tmp 23)))])⟩, ⟨(some 25), none, false, (.toStr (.tmp 24))⟩, ⟨(some 26), none, false, (.bin .str .add (.tmp 18) (.tmp 25))⟩, ⟨(some 6), none, false, (.mov (.tmp 26))⟩]) (.seq (.ops [⟨(some 27), none, false, (.mov (.tmp 0))⟩, ⟨(some 28), none, false, (.mov (.tmp 1))⟩, ⟨(some 29), none, false, (.sliceS 2 (.tmp 27) (some (.tmp 28)) none)⟩, ⟨(some 30), none, false, (.len (.tmp 29))⟩, ⟨(some 31), none, false, (.mov (.const (.int .i64 0)))⟩]) (.block 2 (.loop (.seq (.ops [⟨(some 32), none, false, (.bin .int .lss (.tmp 31) (.tmp 30))⟩]) (.seq (.cond (.tmp 32) .skip (.exit 2)) (.seq (.block 3 (.seq (.ops [⟨(some 33), none, false, (.idxS 2 (.tmp 29) (.tmp 31))⟩, ⟨(some 34), none, false, (.load true 2 (.tmp 33))⟩, ⟨(some 9), none, false, (.alloc [(.int .i64 0), (.string ⟨#[]⟩)] 1)⟩, ⟨none, none, false, (.store 2 (.tmp 9) (.tmp 34))⟩]) (.seq (.opsD [⟨(some 35), none, false, (.mov (.tmp 0))⟩, ⟨(some 36), none, false, (.mov (.tmp 1))⟩, ⟨(some 37), none, false, (.mov (.tmp 7))⟩, ⟨(some 38), none, false, (.addOff 0 (.tmp 9))⟩, ⟨(some 39), none, false, (.load false 1 (.tmp 38))⟩, ⟨(some 40), none, false, (.call true (.func 72) [(.tmp 35), (.tmp 36), (.tmp 37), (.tmp 39)])⟩, ⟨(some 41), none, false, (.addOff 1 (.tmp 9))⟩, ⟨(some 42), none, true, (.load false 1 (.tmp 41))⟩, ⟨(some 43), none, false, (.mov (.tmp 7))⟩, ⟨(some 44), none, false, (.strIdx (.tmp 42) (.tmp 43))⟩, ⟨(some 45), none, false, (.conv .i64 (.tmp 44))⟩, ⟨(some 46), none, false, (.bin .int .neq (.tmp 40) (.tmp 45))⟩]) (.cond (.tmp 46) (.seq (.ops [⟨(some 4), none, false, (.mov (.const (.string ⟨#[]⟩)))⟩, ⟨(some 5), none, false, (.mov (.const (.bool false)))⟩]) .ret) .skip)))) (.ops [⟨(some 47), none, false, (.bin .int .add (.tmp 31) (.const (.int .i64 1)))⟩, ⟨(some 31), none, false, (.mov (.tmp 47))⟩])))))))))) (.ops [⟨(some 48), none, false, (.bin .int .add (.tmp 15) (.const (.int .i64 1)))⟩, ⟨(some 15), none, false, (.mov (.tmp 48))⟩]))))))) (.seq (.ops [⟨(some 49), none, false, (.mov (.tmp 6))⟩, ⟨(some 4), none, false, (.mov (.tmp 49))⟩, ⟨(some 5), none, false, (.mov (.const (.bool true)))⟩]) .ret))))
def m35 : MFun := ⟨k35, [(.tmp 4), (.tmp 5)]⟩
def k33 : MCode := (.seq (.ops [⟨(some 4), none, false, (.mov (.const (.bool false)))⟩]) (.seq (.ops [⟨(some 5), none, false, (.mov (.tmp 0))⟩, ⟨(some 6), none, false, (.mov (.tmp 1))⟩, ⟨(some 7), none, false, (.call false (.func 71) [(.tmp 5), (.tmp 6)])⟩, ⟨(some 8), none, false, (.bin .int .geq (.tmp 7) (.const (.int .i64 0)))⟩, ⟨(some 4), none, false, (.mov (.tmp 8))⟩]) .ret))
def m33 : MFun := ⟨k33, [(.tmp 4)]⟩
def k34 : MCode := (.seq (.ops [⟨(some 2), none, false, (.box 1 (.tmp 0))⟩, ⟨(some 3), none, false, (.mov (.const (.bool false)))⟩]) (.seq (.ops [⟨(some 4), none, false, (.addOff 0 (.tmp 2))⟩, ⟨(some 5), none, false, (.load false 1 (.tmp 4))⟩, ⟨(some 6), none, false, (.addOff 0 (.tmp 1))⟩, ⟨(some 7), none, false, (.load false 1 (.tmp 6))⟩, ⟨(some 8), none, false, (.bin .int .eql (.tmp 5) (.tmp 7))⟩, ⟨(some 3), none, false, (.mov (.tmp 8))⟩]) .ret))
def m34 : MFun := ⟨k34, [(.tmp 3)]⟩
def k71 : MCode := (.seq (.ops [⟨(some 4), none, false, (.mov (.const (.int .i64 0)))⟩]) (.seq (.seq (.ops [⟨(some 6), none, false, (.mov (.tmp 0))⟩, ⟨(some 7), none, false, (.len (.tmp 6))⟩, ⟨(some 8), none, false, (.mov (.const (.int .i64 0)))⟩]) (.block 0 (.loop (.seq (.ops [⟨(some 9), none, false, (.bin .int .lss (.tmp 8) (.tmp 7))⟩]) (.seq (.cond (.tmp 9) .skip (.exit 0)) (.seq (.block 1 (.seq (.ops [⟨(some 10), none, false, (.mov (.tmp 8))⟩, ⟨(some 5), none, false, (.mov (.tmp 10))⟩]) (.seq (.ops [⟨(some 11), none, false, (.mov (.tmp 1))⟩, ⟨(some 12), none, false, (.mov (.tmp 0))⟩, ⟨(some 13), none, false, (.mov (.tmp 5))⟩, ⟨(some 14), none, false, (.idxS 2 (.tmp 12) (.tmp 13))⟩, ⟨(some 15), none, false, (.load true 2 (.tmp 14))⟩, ⟨(some 16), none, false, (.call false (.tmp 11) [(.tmp 15)])⟩]) (.cond (.tmp 16) (.seq (.ops [⟨(some 17), none, false, (.mov (.tmp 5))⟩, ⟨(some 4), none, false, (.mov (.tmp 17))⟩]) .ret) .skip)))) (.ops [⟨(some 18), none, false, (.bin .int .add (.tmp 8) (.const (.int .i64 1)))⟩, ⟨(some 8), none, false, (.mov (.tmp 18))⟩]))))))) (.seq (.ops [⟨(some 4), none, false, (.mov (.const (.int .i64 (-1))))⟩]) .ret)))
def m71 : MFun := ⟨k71, [(.tmp 4)]⟩
def k7 : MCode := (.seq (.ops [⟨(some 4), none, false, (.mov (.const (.bool false)))⟩]) (.seq (.ops [⟨(some 14), none, false, (.mov (.tmp 0))⟩, ⟨(some 15), none, false, (.mov (.tmp 1))⟩, ⟨(some 16), none, false, (.call false (.func 32) [(.tmp 14), (.tmp 15)])⟩, ⟨(some 13), none, false, (.mov (.tmp 16))⟩, ⟨(some 17), none, false, (.extract (.tmp 13) 0)⟩, ⟨(some 18), none, false, (.extract (.tmp 13) 1)⟩, ⟨(some 5), none, false, (.mov (.tmp 17))⟩, ⟨(some 6), none, false, (.mov (.tmp 18))⟩]) (.seq (.ops [⟨(some 19), none, false, (.mov (.tmp 1))⟩, ⟨(some 20), none, false, (.call false (.func 14) [(.tmp 19), (.const (.int .i64 1)), (.const (.int .i64 255))])⟩, ⟨(some 21), none, false, (.un .not (.tmp 20))⟩, ⟨(some 22), none, false, (.call false (.func 21) [(.tmp 21), (.const (.int .i64 7))])⟩, ⟨(some 23), none, false, (.mov (.tmp 0))⟩, ⟨(some 24), none, false, (.len (.tmp 23))⟩, ⟨(some 25), none, false, (.mov (.tmp 1))⟩, ⟨(some 26), none, false, (.bin .int .lss (.tmp 24) (.tmp 25))⟩, ⟨(some 27), none, false, (.call false (.func 21) [(.tmp 26), (.const (.int .i64 3))])⟩, ⟨(some 28), none, false, (.mov (.tmp 0))⟩, ⟨(some 29), none, false, (.len (.tmp 28))⟩, ⟨(some 30), none, false, (.bin .int .gtr (.tmp 29) (.const (.int .i64 255)))⟩, ⟨(some 31), none, false, (.call false (.func 21) [(.tmp 30), (.const (.int .i64 8))])⟩, ⟨(some 32), none, false, (.buildSlice [(.int .i64 0), (.int .i64 0), (.int .i64 0)] 1 3 [(0, (1, (.tmp 22))), (1, (1, (.tmp 27))), (2, (1, (.tmp 31)))])⟩, ⟨(some 33), none, false, (.call false (.func 19) [(.tmp 32)])⟩, ⟨(some 7), none, false, (.mov (.tmp 33))⟩]) (.seq (.seq (.ops [⟨(some 34), none, false, (.mov (.tmp 0))⟩, ⟨(some 35), none, false, (.len (.tmp 34))⟩, ⟨(some 36), none, false, (.mov (.const (.int .i64 0)))⟩]) (.block 0 (.loop (.seq (.ops [⟨(some 37), none, false, (.bin .int .lss (.tmp 36) (.tmp 35))⟩]) (.seq (.cond (.tmp 37) .skip (.exit 0)) (.seq (.block 1 (.seq (.ops [⟨(some 38), none, false, (.mov (.tmp 36))⟩, ⟨(some 39), none, false, (.idxS 2 (.tmp 34) (.tmp 36))⟩, ⟨(some 40), none, false, (.load true 2 (.tmp 39))⟩, ⟨(some 9), none, false, (.alloc [(.int .i64 0), (.string ⟨#[]⟩)] 1)⟩, ⟨(some 8), none, false, (.mov (.tmp 38))⟩, ⟨none, none, false, (.store 2 (.tmp 9) (.tmp 40))⟩]) (.seq (.ops [⟨(some 41), none, false, (.mov (.tmp 0))⟩, ⟨(some 42), none, false, (.mov (.tmp 8))⟩, ⟨(some 43), none, false, (.sliceS 2 (.tmp 41) none (some (.tmp 42)))⟩, ⟨(some 44), none, false, (.mkFunc (.func 34) [] [(.tmp 9)])⟩, ⟨(some 45), none, false, (.call false (.func 33) [(.tmp 43), (.tmp 44)])⟩, ⟨(some 10), none, false, (.mov (.tmp 45))⟩]) (.opsD [⟨(some 46), none, false, (.mov (.tmp 7))⟩, ⟨(some 47), none, false, (.addOff 0 (.tmp 9))⟩, ⟨(some 48), none, false, (.load false 1 (.tmp 47))⟩, ⟨(some 49), none, false, (.call true (.func 14) [(.tmp 48), (.const (.int .i64 1)), (.const (.int .i64 255))])⟩, ⟨(some 50), none, false, (.un .not (.tmp 49))⟩, ⟨(some 51), none, false, (.call true (.func 21) [(.tmp 50), (.const (.int .i64 7))])⟩, ⟨(some 52), none, false, (.mov (.tmp 10))⟩, ⟨(some 53), none, false, (.call true (.func 21) [(.tmp 52), (.const (.int .i64 4))])⟩, ⟨(some 54), none, false, (.addOff 1 (.tmp 9))⟩, ⟨(some 55), none, true, (.load false 1 (.tmp 54))⟩, ⟨(some 56), none, false, (.bin .str .eql (.tmp 55) (.const (.string ⟨#[]⟩)))⟩, ⟨(some 57), none, false, (.mov (.tmp 56))⟩, ⟨(some 58), (some (57, false)), false, (.addOff 1 (.tmp 9))⟩, ⟨(some 59), (some (57, false)), false, (.load false 1 (.tmp 58))⟩, ⟨(some 60), (some (57, false)), false, (.lenStr (.tmp 59))⟩, ⟨(some 61), (some (57, false)), false, (.bin .int .gtr (.tmp 60) (.const (.int .i64 1024)))⟩, ⟨(some 62), none, false, (.pick (.tmp 57) (.const (.bool true)) (.tmp 61))⟩, ⟨(some 63), none, false, (.mov (.tmp 62))⟩, ⟨(some 64), (some (63, false)), false, (.addOff 1 (.tmp 9))⟩, ⟨(some 65), (some (63, false)), false, (.load false 1 (.tmp 64))⟩, ⟨(some 66), (some (63, false)), false, (.lenStr (.tmp 65))⟩, ⟨(some 67), (some (63, false)), false, (.mov (.tmp 0))⟩, ⟨(some 68), (some (63, false)), false, (.idxS 2 (.tmp 67) (.const (.int .i64 0)))⟩, ⟨(some 69), (some (63, false)), false, (.addOff 1 (.tmp 68))⟩, ⟨(some 70), (some (63, false)), false, (.load false 1 (.tmp 69))⟩, ⟨(some 71), (some (63, false)), false, (.lenStr (.tmp 70))⟩, ⟨(some 72), (some (63, false)), false, (.bin .int .neq (.tmp 66) (.tmp 71))⟩, ⟨(some 73), none, false, (.pick (.tmp 63) (.const (.bool true)) (.tmp 72))⟩, ⟨(some 74), none, false, (.call false (.func 21) [(.tmp 73), (.const (.int .i64 6))])⟩, ⟨(some 75), none, false, (.buildSlice [(.int .i64 0), (.int .i64 0), (.int .i64 0), (.int .i64 0)] 1 4 [(0, (1, (.tmp 46))), (1, (1, (.tmp 51))), (2, (1, (.tmp 53))), (3, (1, (.tmp 74)))])⟩, ⟨(some 76), none, false, (.call false (.func 19) [(.tmp 75)])⟩, ⟨(some 7), none, false, (.mov (.tmp 76))⟩])))) (.ops [⟨(some 77), none, false, (.bin .int .add (.tmp 36) (.const (.int .i64 1)))⟩, ⟨(some 36), none, false, (.mov (.tmp 77))⟩]))))))) (.seq (.seq (.ops [⟨(some 78), none, false, (.call false (.func 17) [])⟩, ⟨(some 79), none, false, (.un .not (.tmp 78))⟩, ⟨(some 80), none, false, (.mov (.tmp 79))⟩, ⟨(some 81), (some (80, false)), false, (.mov (.tmp 7))⟩, ⟨(some 82), (some (80, false)), false, (.bin .int .neq (.tmp 81) (.const (.int .i64 0)))⟩, ⟨(some 83), (some (80, false)), false, (.mov (.tmp 82))⟩, ⟨(some 84), (some (83, true)), false, (.mov (.tmp 7))⟩, ⟨(some 85), (some (83, true)), false, (.bin .int .neq (.tmp 84) (.const (.int .i64 3)))⟩, ⟨(some 86), (some (80, false)), false, (.pick (.tmp 83) (.tmp 85) (.const (.bool false)))⟩, ⟨(some 87), none, false, (.pick (.tmp 80) (.const (.bool true)) (.tmp 86))⟩, ⟨(some 88), none, false, (.mov (.tmp 87))⟩, ⟨(some 89), (some (88, false)), false, (.mov (.tmp 0))⟩, ⟨(some 90), (some (88, false)), false, (.len (.tmp 89))⟩, ⟨(some 91), (some (88, false)), false, (.bin .int .eql (.tmp 90) (.const (.int .i64 0)))⟩, ⟨(some 92), none, false, (.pick (.tmp 88) (.const (.bool true)) (.tmp 91))⟩, ⟨(some 93), none, false, (.mov (.tmp 92))⟩, ⟨(some 94), (some (93, false)), false, (.mov (.tmp 0))⟩, ⟨(some 95), (some (93, false)), false, (.len (.tmp 94))⟩, ⟨(some 96), (some (93, false)), false, (.bin .int .gtr (.tmp 95) (.const (.int .i64 20)))⟩, ⟨(some 97), none, false, (.pick (.tmp 93) (.const (.bool true)) (.tmp 96))⟩, ⟨(some 98), none, false, (.mov (.tmp 97))⟩, ⟨(some 99), (some (98, false)), false, (.mov (.tmp 0))⟩, ⟨(some 100), (some (98, false)), false, (.idxS 2 (.tmp 99) (.const (.int .i64 0)))⟩, ⟨(some 101), (some (98, false)), false, (.addOff 1 (.tmp 100))⟩, ⟨(some 102), (some (98, false)), false, (.load false 1 (.tmp 101))⟩, ⟨(some 103), (some (98, false)), false, (.lenStr (.tmp 102))⟩, ⟨(some 104), (some (98, false)), false, (.bin .int .gtr (.tmp 103) (.const (.int .i64 40)))⟩, ⟨(some 105), none, false, (.pick (.tmp 98) (.const (.bool true)) (.tmp 104))⟩]) (.cond (.tmp 105) (.seq (.ops [⟨(some 106), none, false, (.call false (.func 17) [])⟩, ⟨(some 107), none, false, (.mov (.tmp 106))⟩, ⟨(some 108), (some (107, true)), false, (.mov (.tmp 7))⟩, ⟨(some 109), (some (107, true)), false, (.bin .int .eql (.tmp 108) (.const (.int .i64 0)))⟩, ⟨(some 110), (some (107, true)), false, (.mov (.tmp 109))⟩, ⟨(some 111), (some (110, false)), false, (.mov (.tmp 5))⟩, ⟨(some 112), (some (110, false)), false, (.bin .str .eql (.tmp 111) (.const (.string ⟨#[]⟩)))⟩, ⟨(some 113), (some (110, false)), false, (.mov (.tmp 112))⟩, ⟨(some 114), (some (113, true)), false, (.mov (.tmp 6))⟩, ⟨(some 115), (some (113, true)), false, (.mov (.tmp 7))⟩, ⟨(some 116), (some (113, true)), false, (.bin .int .eql (.tmp 114) (.tmp 115))⟩, ⟨(some 117), (some (110, false)), false, (.pick (.tmp 113) (.tmp 116) (.const (.bool false)))⟩, ⟨(some 118), (some (107, true)), false, (.pick (.tmp 110) (.const (.bool true)) (.tmp 117))⟩, ⟨(some 119), none, false, (.pick (.tmp 107) (.tmp 118) (.const (.bool false)))⟩, ⟨(some 4), none, false, (.mov (.tmp 119))⟩]) .ret) .skip)) (.seq (.seq (.ops [⟨(some 120), none, false, (.mov (.tmp 7))⟩, ⟨(some 121), none, false, (.bin .int .neq (.tmp 120) (.const (.int .i64 0)))⟩]) (.cond (.tmp 121) (.seq (.ops [⟨(some 122), none, false, (.mov (.tmp 5))⟩, ⟨(some 123), none, false, (.bin .str .eql (.tmp 122) (.const (.string ⟨#[]⟩)))⟩, ⟨(some 124), none, false, (.mov (.tmp 123))⟩, ⟨(some 125), (some (124, true)), false, (.mov (.tmp 6))⟩, ⟨(some 126), (some (124, true)), false, (.mov (.tmp 7))⟩, ⟨(some 127), (some (124, true)), false, (.bin .int .eql (.tmp 125) (.tmp 126))⟩, ⟨(some 128), none, false, (.pick (.tmp 124) (.tmp 127) (.const (.bool false)))⟩, ⟨(some 4), none, false, (.mov (.tmp 128))⟩]) .ret) .skip)) (.seq (.ops [⟨(some 130), none, false, (.mov (.tmp 0))⟩, ⟨(some 131), none, false, (.mov (.tmp 1))⟩, ⟨(some 132), none, false, (.call false (.func 35) [(.tmp 130), (.tmp 131)])⟩, ⟨(some 129), none, false, (.mov (.tmp 132))⟩, ⟨(some 133), none, false, (.extract (.tmp 129) 0)⟩, ⟨(some 134), none, false, (.extract (.tmp 129) 1)⟩, ⟨(some 11), none, false, (.mov (.tmp 133))⟩, ⟨(some 12), none, false, (.mov (.tmp 134))⟩]) (.seq (.ops [⟨(some 135), none, false, (.mov (.tmp 5))⟩, ⟨(some 136), none, false, (.mov (.tmp 6))⟩, ⟨(some 137), none, false, (.mov (.tmp 11))⟩, ⟨(some 138), none, false, (.mov (.tmp 12))⟩, ⟨(some 139), none, false, (.un .not (.tmp 138))⟩, ⟨(some 140), none, false, (.call false (.func 21) [(.tmp 139), (.const (.int .i64 18))])⟩, ⟨(some 141), none, false, (.call false (.func 23) [(.tmp 135), (.tmp 136), (.tmp 137), (.tmp 140)])⟩, ⟨(some 4), none, false, (.mov (.tmp 141))⟩]) .ret))))))))
def m7 : MFun := ⟨k7, [(.tmp 4)]⟩
def k36 : MCode := (.seq (.ops [⟨(some 8), none, false, (.mov (.const (.slice none 0 0)))⟩, ⟨(some 9), none, false, (.mov (.const (.int .i64 0)))⟩]) (.seq (.block 0 (.seq (.ops [⟨(some 16), none, false, (.mov (.tmp 0))⟩, ⟨(some 17), none, false, (.bin .str .eql (.tmp 16) (.const (.string ⟨#[]⟩)))⟩, ⟨(some 15), none, false, (.mov (.tmp 17))⟩]) (.cond (.tmp 15) (.seq (.ops [⟨(some 8), none, false, (.mov (.const (.slice none 0 0)))⟩, ⟨(some 9), none, false, (.mov (.const (.int .i64 21)))⟩]) .ret) (.seq (.ops [⟨(some 19), none, false, (.mov (.tmp 0))⟩, ⟨(some 20), none, false, (.lenStr (.tmp 19))⟩, ⟨(some 21), none, false, (.bin .int .gtr (.tmp 20) (.const (.int .i64 1024)))⟩, ⟨(some 18), none, false, (.mov (.tmp 21))⟩]) (.cond (.tmp 18) (.seq (.ops [⟨(some 8), none, false, (.mov (.const (.slice none 0 0)))⟩, ⟨(some 9), none, false, (.mov (.const (.int .i64 8)))⟩]) .ret) (.seq (.ops [⟨(some 23), none, false, (.mov (.tmp 3))⟩, ⟨(some 24), none, false, (.bin .int .lss (.tmp 23) (.const (.int .i64 1)))⟩, ⟨(some 25), none, false, (.mov (.tmp 24))⟩, ⟨(some 26), (some (25, false)), false, (.mov (.tmp 3))⟩, ⟨(some 27), (some (25, false)), false, (.bin .int .gtr (.tmp 26) (.const (.int .i64 255)))⟩, ⟨(some 28), none, false, (.pick (.tmp 25) (.const (.bool true)) (.tmp 27))⟩, ⟨(some 29), none, false, (.mov (.tmp 28))⟩, ⟨(some 30), (some (29, false)), false, (.mov (.tmp 2))⟩, ⟨(some 31), (some (29, false)), false, (.bin .int .lss (.tmp 30) (.const (.int .i64 1)))⟩, ⟨(some 32), none, false, (.pick (.tmp 29) (.const (.bool true)) (.tmp 31))⟩, ⟨(some 33), none, false, (.mov (.tmp 32))⟩, ⟨(some 34), (some (33, false)), false, (.mov (.tmp 2))⟩, ⟨(some 35), (some (33, false)), false, (.mov (.tmp 3))⟩, ⟨(some 36), (some (33, false)), false, (.bin .int .gtr (.tmp 34) (.tmp 35))⟩, ⟨(some 37), none, false, (.pick (.tmp 33) (.const (.bool true)) (.tmp 36))⟩, ⟨(some 22), none, false, (.mov (.tmp 37))⟩]) (.cond (.tmp 22) (.seq (.ops [⟨(some 8), none, false, (.mov (.const (.slice none 0 0)))⟩, ⟨(some 9), none, false, (.mov (.const (.int .i64 7)))⟩]) .ret) (.seq (.ops [⟨(some 39), none, false, (.mov (.tmp 1))⟩, ⟨(some 40), none, false, (.lenStr (.tmp 39))⟩, ⟨(some 41), none, false, (.mov (.tmp 0))⟩, ⟨(some 42), none, false, (.lenStr (.tmp 41))⟩, ⟨(some 43), none, false, (.mov (.tmp 2))⟩, ⟨(some 44), none, false, (.bin .int .sub (.tmp 43) (.const (.int .i64 1)))⟩, ⟨(some 45), none, false, (.bin .int .mul (.tmp 42) (.tmp 44))⟩, ⟨(some 46), none, false, (.bin .int .neq (.tmp 40) (.tmp 45))⟩, ⟨(some 38), none, false, (.mov (.tmp 46))⟩]) (.cond (.tmp 38) (.seq (.ops [⟨(some 8), none, false, (.mov (.const (.slice none 0 0)))⟩, ⟨(some 9), none, false, (.mov (.const (.int .i64 6)))⟩]) .ret) .skip))))))))) (.seq (.ops [⟨(some 10), none, false, (.mov (.const (.slice none 0 0)))⟩]) (.seq (.seq (.ops [⟨(some 11), none, false, (.mov (.const (.int .i64 1)))⟩]) (.block 1 (.loop (.seq (.seq (.ops [⟨(some 47), none, false, (.mov (.tmp 11))⟩, ⟨(some 48), none, false, (.mov (.tmp 3))⟩, ⟨(some 49), none, false, (.bin .int .leq (.tmp 47) (.tmp 48))⟩]) (.cond (.tmp 49) .skip (.exit 1))) (.seq (.block 2 (.seq (.ops [⟨(some 52), none, false, (.mov (.tmp 0))⟩, ⟨(some 53), none, false, (.lenStr (.tmp 52))⟩, ⟨(some 54), none, false, (.mkSlice [(.int .u8 0)] 1 1 (.tmp 53) (.tmp 53))⟩, ⟨(some 12), none, false, (.mov (.tmp 54))⟩]) (.seq (.seq (.ops [⟨(some 55), none, false, (.mov (.tmp 12))⟩, ⟨(some 56), none, false, (.len (.tmp 55))⟩, ⟨(some 57), none, false, (.mov (.const (.int .i64 0)))⟩]) (.block 3 (.loop (.seq (.ops [⟨(some 58), none, false, (.bin .int .lss (.tmp 57) (.tmp 56))⟩]) (.seq (.cond (.tmp 58) .skip (.exit 3)) (.seq (.block 4 (.seq (.ops [⟨(some 59), none, false, (.mov (.tmp 57))⟩, ⟨(some 13), none, false, (.mov (.tmp 59))⟩]) (.seq (.seq (.ops [⟨(some 60), none, false, (.mov (.tmp 2))⟩, ⟨(some 61), none, false, (.bin .int .sub (.tmp 60) (.const (.int .i64 1)))⟩, ⟨(some 14), none, false, (.mov (.tmp 61))⟩]) (.block 5 (.loop (.seq (.seq (.ops [⟨(some 62), none, false, (.mov (.tmp 14))⟩, ⟨(some 63), none, false, (.bin .int .geq (.tmp 62) (.const (.int .i64 1)))⟩]) (.cond (.tmp 63) .skip (.exit 5))) (.seq (.block 6 (.opsD [⟨(some 66), none, false, (.mov (.tmp 12))⟩, ⟨(some 67), none, false, (.mov (.tmp 13))⟩, ⟨(some 68), none, false, (.mov (.tmp 12))⟩, ⟨(some 69), none, false, (.mov (.tmp 13))⟩, ⟨(some 70), none, false, (.idxS 1 (.tmp 68) (.tmp 69))⟩, ⟨(some 71), none, false, (.load false 1 (.tmp 70))⟩, ⟨(some 72), none, false, (.mov (.tmp 11))⟩, ⟨(some 73), none, false, (.conv .u8 (.tmp 72))⟩, ⟨(some 74), none, false, (.call false (.func 73) [(.tmp 71), (.tmp 73)])⟩, ⟨(some 75), none, false, (.mov (.tmp 1))⟩, ⟨(some 76), none, false, (.mov (.tmp 13))⟩, ⟨(some 77), none, false, (.mov (.tmp 2))⟩, ⟨(some 78), none, false, (.bin .int .sub (.tmp 77) (.const (.int .i64 1)))⟩, ⟨(some 79), none, false, (.bin .int .mul (.tmp 76) (.tmp 78))⟩, ⟨(some 80), none, false, (.mov (.tmp 14))⟩, ⟨(some 81), none, false, (.bin .int .add (.tmp 79) (.tmp 80))⟩, ⟨(some 82), none, false, (.bin .int .sub (.tmp 81) (.const (.int .i64 1)))⟩, ⟨(some 83), none, false, (.strIdx (.tmp 75) (.tmp 82))⟩, ⟨(some 84), none, false, (.bin .int .xor (.tmp 74) (.tmp 83))⟩, ⟨(some 85), none, false, (.idxS 1 (.tmp 66) (.tmp 67))⟩, ⟨none, none, false, (.store 1 (.tmp 85) (.tmp 84))⟩])) (.ops [⟨(some 64), none, false, (.mov (.tmp 14))⟩, ⟨(some 65), none, false, (.bin .int .sub (.tmp 64) (.const (.int .i64 1)))⟩, ⟨(some 14), none, false, (.mov (.tmp 65))⟩])))))) (.opsD [⟨(some 86), none, false, (.mov (.tmp 12))⟩, ⟨(some 87), none, false, (.mov (.tmp 13))⟩, ⟨(some 88), none, false, (.mov (.tmp 12))⟩, ⟨(some 89), none, false, (.mov (.tmp 13))⟩, ⟨(some 90), none, false, (.idxS 1 (.tmp 88) (.tmp 89))⟩, ⟨(some 91), none, false, (.load false 1 (.tmp 90))⟩, ⟨(some 92), none, false, (.mov (.tmp 11))⟩, ⟨(some 93), none, false, (.conv .u8 (.tmp 92))⟩, ⟨(some 94), none, false, (.call false (.func 73) [(.tmp 91), (.tmp 93)])⟩, ⟨(some 95), none, false, (.mov (.tmp 0))⟩, ⟨(some 96), none, false, (.mov (.tmp 13))⟩, ⟨(some 97), none, false, (.strIdx (.tmp 95) (.tmp 96))⟩, ⟨(some 98), none, false, (.bin .int .xor (.tmp 94) (.tmp 97))⟩, ⟨(some 99), none, false, (.idxS 1 (.tmp 86) (.tmp 87))⟩, ⟨none, none, false, (.store 1 (.tmp 99) (.tmp 98))⟩])))) (.ops [⟨(some 100), none, false, (.bin .int .add (.tmp 57) (.const (.int .i64 1)))⟩, ⟨(some 57), none, false, (.mov (.tmp 100))⟩]))))))) (.ops [⟨(some 101), none, false, (.mov (.tmp 10))⟩, ⟨(some 102), none, false, (.mov (.tmp 11))⟩, ⟨(some 103), none, false, (.mov (.tmp 12))⟩, ⟨(some 104), none, false, (.toStr (.tmp 103))⟩, ⟨(some 105), none, false, (.build [(.int .i64 0), (.string ⟨#[]⟩)] [(0, (1, (.tmp 102))), (1, (1, (.tmp 104)))])⟩, ⟨(some 106), none, false, (.buildSlice [(.int .i64 0), (.string ⟨#[]⟩)] 2 1 [(0, (2, (.tmp 105)))])⟩, ⟨(some 107), none, false, (.append 2 24 (.tmp 101) (.tmp 106))⟩, ⟨(some 10), none, false, (.mov (.tmp 107))⟩])))) (.ops [⟨(some 50), none, false, (.mov (.tmp 11))⟩, ⟨(some 51), none, false, (.bin .int .add (.tmp 50) (.const (.int .i64 1)))⟩, ⟨(some 11), none, false, (.mov (.tmp 51))⟩])))))) (.seq (.ops [⟨(some 108), none, false, (.mov (.tmp 10))⟩, ⟨(some 8), none, false, (.mov (.tmp 108))⟩, ⟨(some 9), none, false, (.mov (.const (.int .i64 0)))⟩]) .ret)))))
def m36 : MFun := ⟨k36, [(.tmp 8), (.tmp 9)]⟩
theorem c36 : compFn Try.prog Try.f36 = some m36 := by kernel_rfl
def k38 : MCode := (.seq (.ops [⟨(some 8), none, false, (.mov (.const (.slice none 0 0)))⟩]) (.seq (.ops [⟨(some 9), none, false, (.mov (.const (.slice none 0 0)))⟩]) (.seq (.seq (.ops [⟨(some 10), none, false, (.mov (.const (.int .i64 1)))⟩]) (.block 0 (.loop (.seq (.seq (.ops [⟨(some 16), none, false, (.mov (.tmp 10))⟩, ⟨(some 17), none, false, (.mov (.tmp 3))⟩, ⟨(some 18), none, false, (.bin .int .leq (.tmp 16) (.tmp 17))⟩]) (.cond (.tmp 18) .skip (.exit 0))) (.seq (.block 1 (.seq (.ops [⟨(some 21), none, false, (.mov (.tmp 0))⟩, ⟨(some 22), none, false, (.lenStr (.tmp 21))⟩, ⟨(some 23), none, false, (.mkSlice [(.int .u8 0)] 1 1 (.tmp 22) (.tmp 22))⟩, ⟨(some 11), none, false, (.mov (.tmp 23))⟩]) (.seq (.seq (.ops [⟨(some 24), none, false, (.mov (.tmp 11))⟩, ⟨(some 25), none, false, (.len (.tmp 24))⟩, ⟨(some 26), none, false, (.mov (.const (.int .i64 0)))⟩]) (.block 2 (.loop (.seq (.ops [⟨(some 27), none, false, (.bin .int .lss (.tmp 26) (.tmp 25))⟩]) (.seq (.cond (.tmp 27) .skip (.exit 2)) (.seq (.block 3 (.seq (.ops [⟨(some 28), none, false, (.mov (.tmp 26))⟩, ⟨(some 12), none, false, (.mov (.tmp 28))⟩]) (.seq (.ops [⟨(some 29), none, false, (.mov (.tmp 0))⟩, ⟨(some 30), none, false, (.mov (.tmp 12))⟩, ⟨(some 31), none, false, (.strIdx (.tmp 29) (.tmp 30))⟩, ⟨(some 32), none, false, (.conv .i64 (.tmp 31))⟩, ⟨(some 13), none, false, (.mov (.tmp 32))⟩, ⟨(some 14), none, false, (.mov (.const (.int .i64 1)))⟩]) (.seq (.seq (.ops [⟨(some 33), none, false, (.mov (.tmp 2))⟩, ⟨(some 34), none, false, (.bin .int .sub (.tmp 33) (.const (.int .i64 1)))⟩, ⟨(some 35), none, false, (.mov (.const (.int .i64 0)))⟩]) (.block 4 (.loop (.seq (.ops [⟨(some 36), none, false, (.bin .int .lss (.tmp 35) (.tmp 34))⟩]) (.seq (.cond (.tmp 36) .skip (.exit 4)) (.seq (.block 5 (.seq (.ops [⟨(some 37), none, false, (.mov (.tmp 35))⟩, ⟨(some 15), none, false, (.mov (.tmp 37))⟩]) (.seq (.ops [⟨(some 38), none, false, (.mov (.tmp 14))⟩, ⟨(some 39), none, false, (.mov (.tmp 10))⟩, ⟨(some 40), none, false, (.call false (.func 74) [(.tmp 38), (.tmp 39)])⟩, ⟨(some 14), none, false, (.mov (.tmp 40))⟩]) (.ops [⟨(some 41), none, false, (.mov (.tmp 13))⟩, ⟨(some 42), none, false, (.mov (.tmp 14))⟩, ⟨(some 43), none, false, (.mov (.tmp 1))⟩, ⟨(some 44), none, false, (.mov (.tmp 12))⟩, ⟨(some 45), none, false, (.mov (.tmp 2))⟩, ⟨(some 46), none, false, (.bin .int .sub (.tmp 45) (.const (.int .i64 1)))⟩, ⟨(some 47), none, false, (.bin .int .mul (.tmp 44) (.tmp 46))⟩, ⟨(some 48), none, false, (.mov (.tmp 15))⟩, ⟨(some 49), none, false, (.bin .int .add (.tmp 47) (.tmp 48))⟩, ⟨(some 50), none, false, (.strIdx (.tmp 43) (.tmp 49))⟩, ⟨(some 51), none, false, (.conv .i64 (.tmp 50))⟩, ⟨(some 52), none, false, (.call false (.func 74) [(.tmp 42), (.tmp 51)])⟩, ⟨(some 53), none, false, (.bin .int .xor (.tmp 41) (.tmp 52))⟩, ⟨(some 13), none, false, (.mov (.tmp 53))⟩])))) (.ops [⟨(some 54), none, false, (.bin .int .add (.tmp 35) (.const (.int .i64 1)))⟩, ⟨(some 35), none, false, (.mov (.tmp 54))⟩]))))))) (.ops [⟨(some 55), none, false, (.mov (.tmp 11))⟩, ⟨(some 56), none, false, (.mov (.tmp 12))⟩, ⟨(some 57), none, false, (.mov (.tmp 13))⟩, ⟨(some 58), none, false, (.conv .u8 (.tmp 57))⟩, ⟨(some 59), none, false, (.idxS 1 (.tmp 55) (.tmp 56))⟩, ⟨none, none, false, (.store 1 (.tmp 59) (.tmp 58))⟩]))))) (.ops [⟨(some 60), none, false, (.bin .int .add (.tmp 26) (.const (.int .i64 1)))⟩, ⟨(some 26), none, false, (.mov (.tmp 60))⟩]))))))) (.ops [⟨(some 61), none, false, (.mov (.tmp 9))⟩, ⟨(some 62), none, false, (.mov (.tmp 10))⟩, ⟨(some 63), none, false, (.mov (.tmp 11))⟩, ⟨(some 64), none, false, (.toStr (.tmp 63))⟩, ⟨(some 65), none, false, (.build [(.int .i64 0), (.string ⟨#[]⟩)] [(0, (1, (.tmp 62))), (1, (1, (.tmp 64)))])⟩, ⟨(some 66), none, false, (.buildSlice [(.int .i64 0), (.string ⟨#[]⟩)] 2 1 [(0, (2, (.tmp 65)))])⟩, ⟨(some 67), none, false, (.append 2 24 (.tmp 61) (.tmp 66))⟩, ⟨(some 9), none, false, (.mov (.tmp 67))⟩])))) (.ops [⟨(some 19), none, false, (.mov (.tmp 10))⟩, ⟨(some 20), none, false, (.bin .int .add (.tmp 19) (.const (.int .i64 1)))⟩, ⟨(some 10), none, false, (.mov (.tmp 20))⟩])))))) (.seq (.ops [⟨(some 68), none, false, (.mov (.tmp 9))⟩, ⟨(some 8), none, false, (.mov (.tmp 68))⟩]) .ret))))
def m38 : MFun := ⟨k38, [(.tmp 8)]⟩
theorem c38 : compFn Try.prog Try.f38 = some m38 := by kernel_rfl
def k37 : MCode := (.seq (.ops [⟨(some 4), none, false, (.mov (.const (.bool false)))⟩]) (.seq (.seq (.ops [⟨(some 6), none, false, (.mov (.tmp 0))⟩, ⟨(some 7), none, false, (.len (.tmp 6))⟩, ⟨(some 8), none, false, (.mov (.tmp 1))⟩, ⟨(some 9), none, false, (.len (.tmp 8))⟩, ⟨(some 10), none, false, (.bin .int .neq (.tmp 7) (.tmp 9))⟩]) (.cond (.tmp 10) (.seq (.ops [⟨(some 4), none, false, (.mov (.const (.bool false)))⟩]) .ret) .skip)) (.seq (.seq (.ops [⟨(some 11), none, false, (.mov (.tmp 0))⟩, ⟨(some 12), none, false, (.len (.tmp 11))⟩, ⟨(some 13), none, false, (.mov (.const (.int .i64 0)))⟩]) (.block 0 (.loop (.seq (.ops [⟨(some 14), none, false, (.bin .int .lss (.tmp 13) (.tmp 12))⟩]) (.seq (.cond (.tmp 14) .skip (.exit 0)) (.seq (.block 1 (.seq (.ops [⟨(some 15), none, false, (.mov (.tmp 13))⟩, ⟨(some 5), none, false, (.mov (.tmp 15))⟩]) (.seq (.opsD [⟨(some 16), none, false, (.mov (.tmp 0))⟩, ⟨(some 17), none, false, (.mov (.tmp 5))⟩, ⟨(some 18), none, false, (.idxS 2 (.tmp 16) (.tmp 17))⟩, ⟨(some 19), none, false, (.load true 2 (.tmp 18))⟩, ⟨(some 20), none, false, (.mov (.tmp 1))⟩, ⟨(some 21), none, false, (.mov (.tmp 5))⟩, ⟨(some 22), none, false, (.idxS 2 (.tmp 20) (.tmp 21))⟩, ⟨(some 23), none, false, (.load true 2 (.tmp 22))⟩, ⟨(some 24), none, false, (.eqc true [(0, .int), (1, .str)] (.tmp 19) (.tmp 23))⟩]) (.cond (.tmp 24) (.seq (.ops [⟨(some 4), none, false, (.mov (.const (.bool false)))⟩]) .ret) .skip)))) (.ops [⟨(some 25), none, false, (.bin .int .add (.tmp 13) (.const (.int .i64 1)))⟩, ⟨(some 13), none, false, (.mov (.tmp 25))⟩]))))))) (.seq (.ops [⟨(some 4), none, false, (.mov (.const (.bool true)))⟩]) .ret))))
def m37 : MFun := ⟨k37, [(.tmp 4)]⟩
theorem c37 : compFn Try.prog Try.f37 = some m37 := by kernel_rfl
def k75 : MCode := (.seq (.ops [⟨(some 3), none, false, (.box 1 (.tmp 1))⟩, ⟨(some 4), none, false, (.mov (.const (.int .i64 0)))⟩]) (.seq (.seq (.ops [⟨(some 6), none, false, (.mov (.tmp 0))⟩, ⟨(some 7), none, false, (.len (.tmp 6))⟩, ⟨(some 8), none, false, (.mov (.const (.int .i64 0)))⟩]) (.block 0 (.loop (.seq (.ops [⟨(some 9), none, false, (.bin .int .lss (.tmp 8) (.tmp 7))⟩]) (.seq (.cond (.tmp 9) .skip (.exit 0)) (.seq (.block 1 (.seq (.ops [⟨(some 10), none, false, (.mov (.tmp 8))⟩, ⟨(some 5), none, false, (.mov (.tmp 10))⟩]) (.seq (.opsD [⟨(some 11), none, false, (.load true 2 (.tmp 3))⟩, ⟨(some 12), none, false, (.mov (.tmp 0))⟩, ⟨(some 13), none, false, (.mov (.tmp 5))⟩, ⟨(some 14), none, false, (.idxS 2 (.tmp 12) (.tmp 13))⟩, ⟨(some 15), none, false, (.load true 2 (.tmp 14))⟩, ⟨(some 16), none, false, (.eqc false [(0, .int), (1, .str)] (.tmp 11) (.tmp 15))⟩]) (.cond (.tmp 16) (.seq (.ops [⟨(some 17), none, false, (.mov (.tmp 5))⟩, ⟨(some 4), none, false, (.mov (.tmp 17))⟩]) .ret) .skip)))) (.ops [⟨(some 18), none, false, (.bin .int .add (.tmp 8) (.const (.int .i64 1)))⟩, ⟨(some 8), none, false, (.mov (.tmp 18))⟩]))))))) (.seq (.ops [⟨(some 4), none, false, (.mov (.const (.int .i64 (-1))))⟩]) .ret)))
def m75 : MFun := ⟨k75, [(.tmp 4)]⟩
theorem c75 : compFn Try.prog Try.f75 = some m75 := by kernel_rfl
def k39 : MCode := (.seq (.ops [⟨(some 3), none, false, (.box 1 (.tmp 1))⟩, ⟨(some 4), none, false, (.mov (.const (.bool false)))⟩]) (.seq (.ops [⟨(some 5), none, false, (.mov (.tmp 0))⟩, ⟨(some 6), none, false, (.load true 2 (.tmp 3))⟩, ⟨(some 7), none, false, (.call false (.func 75) [(.tmp 5), (.tmp 6)])⟩, ⟨(some 8), none, false, (.bin .int .geq (.tmp 7) (.const (.int .i64 0)))⟩, ⟨(some 4), none, false, (.mov (.tmp 8))⟩]) .ret))
def m39 : MFun := ⟨k39, [(.tmp 4)]⟩
theorem c39 : compFn Try.prog Try.f39 = some m39 := by kernel_rfl
def k8 : MCode := (.seq (.ops [⟨(some 10), none, false, (.mov (.const (.bool false)))⟩]) (.seq (.seq (.ops [⟨(some 21), none, false, (.mov (.tmp 3))⟩, ⟨(some 22), none, false, (.call false (.func 14) [(.tmp 21), (.const (.int .i64 1)), (.const (.int .i64 255))])⟩, ⟨(some 23), none, false, (.mov (.tmp 22))⟩, ⟨(some 24), (some (23, true)), false, (.mov (.tmp 2))⟩, ⟨(some 25), (some (23, true)), false, (.mov (.tmp 3))⟩, ⟨(some 26), (some (23, true)), false, (.call false (.func 14) [(.tmp 24), (.const (.int .i64 1)), (.tmp 25)])⟩, ⟨(some 27), none, false, (.pick (.tmp 23) (.tmp 26) (.const (.bool false)))⟩, ⟨(some 28), none, false, (.mov (.tmp 27))⟩, ⟨(some 29), (some (28, true)), false, (.mov (.tmp 0))⟩, ⟨(some 30), (some (28, true)), false, (.lenStr (.tmp 29))⟩, ⟨(some 31), (some (28, true)), false, (.bin .int .leq (.tmp 30) (.const (.int .i64 1024)))⟩, ⟨(some 32), none, false, (.pick (.tmp 28) (.tmp 31) (.const (.bool false)))⟩]) (.cond (.tmp 32) (.seq (.block 0 (.loop (.seq (.seq (.ops [⟨(some 33), none, false, (.mov (.tmp 1))⟩, ⟨(some 34), none, false, (.lenStr (.tmp 33))⟩, ⟨(some 35), none, false, (.bin .int .gtr (.tmp 34) (.const (.int .i64 0)))⟩, ⟨(some 36), none, false, (.mov (.tmp 35))⟩, ⟨(some 37), (some (36, true)), false, (.mov (.tmp 1))⟩, ⟨(some 38), (some (36, true)), false, (.lenStr (.tmp 37))⟩, ⟨(some 39), (some (36, true)), false, (.mov (.tmp 0))⟩, ⟨(some 40), (some (36, true)), false, (.lenStr (.tmp 39))⟩, ⟨(some 41), (some (36, true)), false, (.mov (.tmp 2))⟩, ⟨(some 42), (some (36, true)), false, (.bin .int .sub (.tmp 41) (.const (.int .i64 1)))⟩, ⟨(some 43), (some (36, true)), false, (.bin .int .mul (.tmp 40) (.tmp 42))⟩, ⟨(some 44), (some (36, true)), false, (.bin .int .lss (.tmp 38) (.tmp 43))⟩, ⟨(some 45), none, false, (.pick (.tmp 36) (.tmp 44) (.const (.bool false)))⟩]) (.cond (.tmp 45) .skip (.exit 0))) (.block 1 (.ops [⟨(some 46), none, false, (.mov (.tmp 1))⟩, ⟨(some 47), none, false, (.mov (.tmp 1))⟩, ⟨(some 48), none, false, (.bin .str .add (.tmp 46) (.tmp 47))⟩, ⟨(some 1), none, false, (.mov (.tmp 48))⟩]))))) (.seq (.ops [⟨(some 49), none, false, (.mov (.tmp 0))⟩, ⟨(some 50), none, false, (.lenStr (.tmp 49))⟩, ⟨(some 51), none, false, (.mov (.tmp 2))⟩, ⟨(some 52), none, false, (.bin .int .sub (.tmp 51) (.const (.int .i64 1)))⟩, ⟨(some 53), none, false, (.bin .int .mul (.tmp 50) (.tmp 52))⟩, ⟨(some 11), none, false, (.mov (.tmp 53))⟩]) (.seq (.ops [⟨(some 54), none, false, (.mov (.tmp 1))⟩, ⟨(some 55), none, false, (.lenStr (.tmp 54))⟩, ⟨(some 56), none, false, (.mov (.tmp 11))⟩, ⟨(some 57), none, false, (.bin .int .gtr (.tmp 55) (.tmp 56))⟩]) (.cond (.tmp 57) (.ops [⟨(some 58), none, false, (.mov (.tmp 1))⟩, ⟨(some 59), none, false, (.mov (.tmp 11))⟩, ⟨(some 60), none, false, (.sliceStr (.tmp 58) none (some (.tmp 59)))⟩, ⟨(some 1), none, false, (.mov (.tmp 60))⟩]) .skip)))) .skip)) (.seq (.ops [⟨(some 62), none, false, (.mov (.tmp 0))⟩, ⟨(some 63), none, false, (.mov (.tmp 1))⟩, ⟨(some 64), none, false, (.mov (.tmp 2))⟩, ⟨(some 65), none, false, (.mov (.tmp 3))⟩, ⟨(some 66), none, false, (.call false (.func 36) [(.tmp 62), (.tmp 63), (.tmp 64), (.tmp 65)])⟩, ⟨(some 61), none, false, (.mov (.tmp 66))⟩, ⟨(some 67), none, false, (.extract (.tmp 61) 0)⟩, ⟨(some 68), none, false, (.extract (.tmp 61) 1)⟩, ⟨(some 12), none, false, (.mov (.tmp 67))⟩, ⟨(some 13), none, false, (.mov (.tmp 68))⟩]) (.seq (.ops [⟨(some 69), none, false, (.mov (.tmp 0))⟩, ⟨(some 70), none, false, (.bin .str .eql (.tmp 69) (.const (.string ⟨#[]⟩)))⟩, ⟨(some 71), none, false, (.call false (.func 21) [(.tmp 70), (.const (.int .i64 21))])⟩, ⟨(some 72), none, false, (.mov (.tmp 0))⟩, ⟨(some 73), none, false, (.lenStr (.tmp 72))⟩, ⟨(some 74), none, false, (.bin .int .gtr (.tmp 73) (.const (.int .i64 1024)))⟩, ⟨(some 75), none, false, (.call false (.func 21) [(.tmp 74), (.const (.int .i64 8))])⟩, ⟨(some 76), none, false, (.mov (.tmp 3))⟩, ⟨(some 77), none, false, (.call false (.func 14) [(.tmp 76), (.const (.int .i64 1)), (.const (.int .i64 255))])⟩, ⟨(some 78), none, false, (.un .not (.tmp 77))⟩, ⟨(some 79), none, false, (.mov (.tmp 78))⟩, ⟨(some 80), (some (79, false)), false, (.mov (.tmp 2))⟩, ⟨(some 81), (some (79, false)), false, (.mov (.tmp 3))⟩, ⟨(some 82), (some (79, false)), false, (.call false (.func 14) [(.tmp 80), (.const (.int .i64 1)), (.tmp 81)])⟩, ⟨(some 83), (some (79, false)), false, (.un .not (.tmp 82))⟩, ⟨(some 84), none, false, (.pick (.tmp 79) (.const (.bool true)) (.tmp 83))⟩, ⟨(some 85), none, false, (.call false (.func 21) [(.tmp 84), (.const (.int .i64 7))])⟩, ⟨(some 86), none, false, (.buildSlice [(.int .i64 0), (.int .i64 0), (.int .i64 0)] 1 3 [(0, (1, (.tmp 71))), (1, (1, (.tmp 75))), (2, (1, (.tmp 85)))])⟩, ⟨(some 87), none, false, (.call false (.func 19) [(.tmp 86)])⟩, ⟨(some 14), none, false, (.mov (.tmp 87))⟩]) (.seq (.seq (.ops [⟨(some 88), none, false, (.mov (.tmp 14))⟩, ⟨(some 89), none, false, (.bin .int .eql (.tmp 88) (.const (.int .i64 0)))⟩, ⟨(some 90), none, false, (.mov (.tmp 89))⟩, ⟨(some 91), (some (90, true)), false, (.mov (.tmp 1))⟩, ⟨(some 92), (some (90, true)), false, (.lenStr (.tmp 91))⟩, ⟨(some 93), (some (90, true)), false, (.mov (.tmp 0))⟩, ⟨(some 94), (some (90, true)), false, (.lenStr (.tmp 93))⟩, ⟨(some 95), (some (90, true)), false, (.mov (.tmp 2))⟩, ⟨(some 96), (some (90, true)), false, (.bin .int .sub (.tmp 95) (.const (.int .i64 1)))⟩, ⟨(some 97), (some (90, true)), false, (.bin .int .mul (.tmp 94) (.tmp 96))⟩, ⟨(some 98), (some (90, true)), false, (.bin .int .neq (.tmp 92) (.tmp 97))⟩, ⟨(some 99), none, false, (.pick (.tmp 90) (.tmp 98) (.const (.bool false)))⟩]) (.cond (.tmp 99) (.ops [⟨(some 14), none, false, (.mov (.const (.int .i64 6)))⟩]) .skip)) (.seq (.seq (.ops [⟨(some 100), none, false, (.call false (.func 17) [])⟩, ⟨(some 101), none, false, (.un .not (.tmp 100))⟩, ⟨(some 102), none, false, (.mov (.tmp 101))⟩, ⟨(some 103), (some (102, false)), false, (.mov (.tmp 14))⟩, ⟨(some 104), (some (102, false)), false, (.bin .int .neq (.tmp 103) (.const (.int .i64 0)))⟩, ⟨(some 105), none, false, (.pick (.tmp 102) (.const (.bool true)) (.tmp 104))⟩]) (.cond (.tmp 105) (.seq (.ops [⟨(some 106), none, false, (.call false (.func 17) [])⟩, ⟨(some 107), none, false, (.mov (.tmp 106))⟩, ⟨(some 108), (some (107, true)), false, (.mov (.tmp 12))⟩, ⟨(some 109), (some (107, true)), false, (.len (.tmp 108))⟩, ⟨(some 110), (some (107, true)), false, (.bin .int .eql (.tmp 109) (.const (.int .i64 0)))⟩, ⟨(some 111), none, false, (.pick (.tmp 107) (.tmp 110) (.const (.bool false)))⟩, ⟨(some 112), none, false, (.mov (.tmp 111))⟩, ⟨(some 113), (some (112, true)), false, (.mov (.tmp 13))⟩, ⟨(some 114), (some (112, true)), false, (.mov (.tmp 14))⟩, ⟨(some 115), (some (112, true)), false, (.bin .int .eql (.tmp 113) (.tmp 114))⟩, ⟨(some 116), none, false, (.pick (.tmp 112) (.tmp 115) (.const (.bool false)))⟩, ⟨(some 10), none, false, (.mov (.tmp 116))⟩]) .ret) .skip)) (.seq (.seq (.ops [⟨(some 117), none, false, (.mov (.tmp 0))⟩, ⟨(some 118), none, false, (.lenStr (.tmp 117))⟩, ⟨(some 119), none, false, (.bin .int .gtr (.tmp 118) (.const (.int .i64 40)))⟩]) (.cond (.tmp 119) (.seq (.ops [⟨(some 120), none, false, (.mov (.tmp 13))⟩, ⟨(some 121), none, false, (.bin .int .eql (.tmp 120) (.const (.int .i64 0)))⟩, ⟨(some 10), none, false, (.mov (.tmp 121))⟩]) .ret) .skip)) (.seq (.seq (.ops [⟨(some 122), none, false, (.mov (.tmp 13))⟩, ⟨(some 123), none, false, (.bin .int .neq (.tmp 122) (.const (.int .i64 0)))⟩, ⟨(some 124), none, false, (.mov (.tmp 123))⟩, ⟨(some 125), (some (124, false)), false, (.mov (.tmp 12))⟩, ⟨(some 126), (some (124, false)), false, (.mov (.tmp 0))⟩, ⟨(some 127), (some (124, false)), false, (.mov (.tmp 1))⟩, ⟨(some 128), (some (124, false)), false, (.mov (.tmp 2))⟩, ⟨(some 129), (some (124, false)), false, (.mov (.tmp 3))⟩, ⟨(some 130), (some (124, false)), false, (.call false (.func 38) [(.tmp 126), (.tmp 127), (.tmp 128), (.tmp 129)])⟩, ⟨(some 131), (some (124, false)), false, (.call false (.func 37) [(.tmp 125), (.tmp 130)])⟩, ⟨(some 132), (some (124, false)), false, (.un .not (.tmp 131))⟩, ⟨(some 133), none, false, (.pick (.tmp 124) (.const (.bool true)) (.tmp 132))⟩]) (.cond (.tmp 133) (.seq (.ops [⟨(some 10), none, false, (.mov (.const (.bool false)))⟩]) .ret) .skip)) (.seq (.ops [⟨(some 15), none, false, (.mov (.const (.slice none 0 0)))⟩]) (.seq (.seq (.ops [⟨(some 134), none, false, (.mov (.tmp 4))⟩, ⟨(some 135), none, false, (.len (.tmp 134))⟩, ⟨(some 136), none, false, (.mov (.const (.int .i64 0)))⟩]) (.block 2 (.loop (.seq (.ops [⟨(some 137), none, false, (.bin .int .lss (.tmp 136) (.tmp 135))⟩]) (.seq (.cond (.tmp 137) .skip (.exit 2)) (.seq (.block 3 (.seq (.ops [⟨(some 138), none, false, (.idxS 1 (.tmp 134) (.tmp 136))⟩, ⟨(some 139), none, false, (.load false 1 (.tmp 138))⟩, ⟨(some 17), none, false, (.mov (.tmp 139))⟩]) (.seq (.ops [⟨(some 140), none, false, (.mov (.tmp 12))⟩, ⟨(some 141), none, false, (.mov (.tmp 17))⟩, ⟨(some 142), none, false, (.mov (.tmp 3))⟩, ⟨(some 143), none, false, (.bin .int .rem (.tmp 141) (.tmp 142))⟩, ⟨(some 144), none, false, (.mov (.tmp 3))⟩, ⟨(some 145), none, false, (.bin .int .add (.tmp 143) (.tmp 144))⟩, ⟨(some 146), none, false, (.mov (.tmp 3))⟩, ⟨(some 147), none, false, (.bin .int .rem (.tmp 145) (.tmp 146))⟩, ⟨(some 148), none, false, (.idxS 2 (.tmp 140) (.tmp 147))⟩, ⟨(some 149), none, false, (.load true 2 (.tmp 148))⟩, ⟨(some 18), none, false, (.alloc [(.int .i64 0), (.string ⟨#[]⟩)] 1)⟩, ⟨none, none, false, (.store 2 (.tmp 18) (.tmp 149))⟩]) (.seq (.ops [⟨(some 150), none, false, (.mov (.tmp 15))⟩, ⟨(some 151), none, false, (.load true 2 (.tmp 18))⟩, ⟨(some 152), none, false, (.call false (.func 39) [(.tmp 150), (.tmp 151)])⟩, ⟨(some 153), none, false, (.un .not (.tmp 152))⟩]) (.cond (.tmp 153) (.ops [⟨(some 154), none, false, (.mov (.tmp 15))⟩, ⟨(some 155), none, false, (.load true 2 (.tmp 18))⟩, ⟨(some 156), none, false, (.buildSlice [(.int .i64 0), (.string ⟨#[]⟩)] 2 1 [(0, (2, (.tmp 155)))])⟩, ⟨(some 157), none, false, (.append 2 24 (.tmp 154) (.tmp 156))⟩, ⟨(some 15), none, false, (.mov (.tmp 157))⟩]) .skip))))) (.ops [⟨(some 158), none, false, (.bin .int .add (.tmp 136) (.const (.int .i64 1)))⟩, ⟨(some 136), none, false, (.mov (.tmp 158))⟩]))))))) (.seq (.seq (.ops [⟨(some 159), none, false, (.mov (.tmp 15))⟩, ⟨(some 160), none, false, (.len (.tmp 159))⟩, ⟨(some 161), none, false, (.bin .int .gtr (.tmp 160) (.const (.int .i64 12)))⟩]) (.cond (.tmp 161) (.ops [⟨(some 162), none, false, (.mov (.tmp 15))⟩, ⟨(some 163), none, false, (.sliceS 2 (.tmp 162) none (some (.const (.int .i64 12))))⟩, ⟨(some 15), none, false, (.mov (.tmp 163))⟩]) .skip)) (.seq (.ops [⟨(some 165), none, false, (.mov (.tmp 15))⟩, ⟨(some 166), none, false, (.mov (.tmp 2))⟩, ⟨(some 167), none, false, (.call false (.func 32) [(.tmp 165), (.tmp 166)])⟩, ⟨(some 164), none, false, (.mov (.tmp 167))⟩, ⟨(some 168), none, false, (.extract (.tmp 164) 0)⟩, ⟨(some 169), none, false, (.extract (.tmp 164) 1)⟩, ⟨(some 19), none, false, (.mov (.tmp 168))⟩, ⟨(some 20), none, false, (.mov (.tmp 169))⟩]) (.seq (.seq (.ops [⟨(some 170), none, false, (.mov (.tmp 15))⟩, ⟨(some 171), none, false, (.len (.tmp 170))⟩, ⟨(some 172), none, false, (.mov (.tmp 2))⟩, ⟨(some 173), none, false, (.bin .int .lss (.tmp 171) (.tmp 172))⟩]) (.cond (.tmp 173) (.seq (.ops [⟨(some 174), none, false, (.mov (.tmp 19))⟩, ⟨(some 175), none, false, (.bin .str .eql (.tmp 174) (.const (.string ⟨#[]⟩)))⟩, ⟨(some 176), none, false, (.mov (.tmp 175))⟩, ⟨(some 177), (some (176, true)), false, (.mov (.tmp 20))⟩, ⟨(some 178), (some (176, true)), false, (.bin .int .eql (.tmp 177) (.const (.int .i64 3)))⟩, ⟨(some 179), none, false, (.pick (.tmp 176) (.tmp 178) (.const (.bool false)))⟩, ⟨(some 10), none, false, (.mov (.tmp 179))⟩]) .ret) .skip)) (.seq (.ops [⟨(some 180), none, false, (.mov (.tmp 19))⟩, ⟨(some 181), none, false, (.mov (.tmp 0))⟩, ⟨(some 182), none, false, (.bin .str .eql (.tmp 180) (.tmp 181))⟩, ⟨(some 183), none, false, (.mov (.tmp 182))⟩, ⟨(some 184), (some (183, true)), false, (.mov (.tmp 20))⟩, ⟨(some 185), (some (183, true)), false, (.bin .int .eql (.tmp 184) (.const (.int .i64 0)))⟩, ⟨(some 186), none, false, (.pick (.tmp 183) (.tmp 185) (.const (.bool false)))⟩, ⟨(some 10), none, false, (.mov (.tmp 186))⟩]) .ret))))))))))))))
def m8 : MFun := ⟨k8, [(.tmp 10)]⟩
theorem c8 : compFn Try.prog Try.f8 = some m8 := by kernel_rfl
end Go.Proofs.Ytildhljhbbhmmaa.AM
namespace Go.Proofs.Ytildhljhbbhmmaa.AM
open Go
set_option linter.all false
set_option maxRecDepth 10000
variable {tbl : Tbl} [hT : TMono tbl]

theorem and8 (a b : UInt8) : bitsK .and .u8 (a.toNat : Int) (b.toNat : Int) = ((a &&& b).toNat : Int) := by
  simp only [bitsK, BitVec.toNat_and, ofInt_nat]
  have h1 := UInt8.toNat_lt a
  have h2 := UInt8.toNat_lt b
  have e1 : a.toNat % 2 ^ IntKind.u8.bits = a.toNat := Nat.mod_eq_of_lt h1
  have e2 : b.toNat % 2 ^ IntKind.u8.bits = b.toNat := Nat.mod_eq_of_lt h2
  rw [e1, e2, UInt8.toNat_and, IntKind.wrap_u8]
  have := Nat.and_lt_two_pow (n := 8) a.toNat h2
  omega
theorem shl8_1 (a : UInt8) : shiftK .shl .u8 (a.toNat : Int) 1 = ((a <<< 1).toNat : Int) := by
  have h : (a <<< 1).toNat = a.toNat * 2 % 256 := by
    rw [UInt8.toNat_shiftLeft, show (1 : UInt8).toNat % 8 = 1 from rfl, Nat.shiftLeft_eq]
  simp only [shiftK]
  rw [show (2 : Int) ^ Nat.min (1 : Int).toNat IntKind.u8.bits = 2 from rfl, IntKind.wrap_u8, h]
  omega
theorem shr8_1 (a : UInt8) : shiftK .shr .u8 (a.toNat : Int) 1 = ((a >>> 1).toNat : Int) := by
  have h : (a >>> 1).toNat = a.toNat / 2 := by
    rw [UInt8.toNat_shiftRight, show (1 : UInt8).toNat % 8 = 1 from rfl, Nat.shiftRight_eq_div_pow]
  simp only [shiftK]
  rw [show (2 : Int) ^ Nat.min (1 : Int).toNat IntKind.u8.bits = 2 from rfl, Int.fdiv_eq_ediv_of_nonneg _ (by omega), h]
  omega
theorem gML_none (a o : UInt8) : ∀ n, gML n a 0 o = o
  | 0 => rfl
  | n + 1 => by
    have := gML_none (gMx a) o n
    simp only [gML]
    rw [if_neg (by decide)]
    exact this
theorem v73 (h73 : tbl 73 = some (.code m73)) (a b : UInt8) (H : AH) : Val tbl 73 [.int .u8 (a.toNat : Int), .int .u8 (b.toNat : Int)] H (.int .u8 ((gM a b).toNat : Int)) H := by
  refine Val.of_all fun Q hQ => ?_
  rw [rn_fun h73, k73]
  simp only [go_sem, Nat.reduceEqDiff, Nat.reduceAdd, Nat.reduceLeDiff, Int.reduceEq, Int.reduceLT, Int.reduceLE, Int.reduceAdd, Int.reduceSub, Int.reduceMul, Int.reduceNeg, Int.reduceToNat, Nat.reduceMul]
  refine rn_loop (fun m f H' => ∃ (a' b' o : UInt8), b'.toNat < 2 ^ m ∧ gML m a' b' o = gM a b ∧ f 0 = .int .u8 (a'.toNat : Int) ∧ f 1 = .int .u8 (b'.toNat : Int) ∧ f 5 = .int .u8 (o.toNat : Int) ∧ H' = H.enter) ?_ (n := 8)
    ⟨a, b, 0, UInt8.toNat_lt b, rfl, by simp only [go_sem, Nat.reduceEqDiff, Nat.reduceAdd, Nat.reduceLeDiff, Int.reduceEq, Int.reduceLT, Int.reduceLE, Int.reduceAdd, Int.reduceSub, Int.reduceMul, Int.reduceNeg, Int.reduceToNat, Nat.reduceMul], by simp only [go_sem, Nat.reduceEqDiff, Nat.reduceAdd, Nat.reduceLeDiff, Int.reduceEq, Int.reduceLT, Int.reduceLE, Int.reduceAdd, Int.reduceSub, Int.reduceMul, Int.reduceNeg, Int.reduceToNat, Nat.reduceMul], by simp only [go_sem, Nat.reduceEqDiff, Nat.reduceAdd, Nat.reduceLeDiff, Int.reduceEq, Int.reduceLT, Int.reduceLE, Int.reduceAdd, Int.reduceSub, Int.reduceMul, Int.reduceNeg, Int.reduceToNat, Nat.reduceMul] <;> rfl, rfl⟩
  rintro m f H' ⟨a', b', o, hb, he, f0, f1, f5, rfl⟩
  by_cases hz : b' = 0
  · subst hz
    rw [gML_none] at he
    subst he
    have h0 : ¬ ((0 : Int) < ((0 : UInt8).toNat : Int)) := by decide
    simp only [f0, f1, f5, h0, go_sem, Nat.reduceEqDiff, Nat.reduceAdd, Nat.reduceLeDiff, Int.reduceEq, Int.reduceLT, Int.reduceLE, Int.reduceAdd, Int.reduceSub, Int.reduceMul, Int.reduceNeg, Int.reduceToNat, Nat.reduceMul]
    exact hQ
  · have hp : (0 : Int) < (b'.toNat : Int) := by
      have : b'.toNat ≠ 0 := fun e => hz (UInt8.toNat_inj.1 e)
      omega
    obtain ⟨k, rfl⟩ : ∃ k, m = k + 1 := by
      refine ⟨m - 1, ?_⟩
      have : m ≠ 0 := fun e => by subst e; rw [Nat.pow_zero] at hb; omega
      omega
    have hb2 : (b' >>> 1).toNat < 2 ^ k := by
      have h : (b' >>> 1).toNat = b'.toNat / 2 := by
        rw [UInt8.toNat_shiftRight, show (1 : UInt8).toNat % 8 = 1 from rfl, Nat.shiftRight_eq_div_pow]
      rw [Nat.pow_succ] at hb
      omega
    have x1 : bitsK .and .u8 (b'.toNat : Int) 1 = ((b' &&& 1).toNat : Int) := and8 b' 1
    have x2 : bitsK .and .u8 (a'.toNat : Int) 128 = ((a' &&& 128).toNat : Int) := and8 a' 128
    have x3 : bitsK .xor .u8 ((a' <<< 1).toNat : Int) 27 = ((a' <<< 1 ^^^ 27).toNat : Int) := xor8 (a' <<< 1) 27
    have x4 := xor8 o a'
    have x5 := shl8_1 a'
    have x6 := shr8_1 b'
    rw [gML] at he
    have one1 : ((1 : UInt8).toNat : Int) = 1 := rfl
    have zer1 : ((0 : UInt8).toNat : Int) = 0 := rfl
    have hun1 : ((128 : UInt8).toNat : Int) = 128 := rfl
    rcases gLo_bit b' with hl | hl <;> rcases gHi_bit a' with hh | hh
    all_goals
      rw [hl] at x1 he
      rw [hh] at x2
      simp only [f0, f1, f5, hp, x1, x2, x3, x4, x5, x6, one1, zer1, hun1, go_sem, Nat.reduceEqDiff, Nat.reduceAdd, Nat.reduceLeDiff, Int.reduceEq, Int.reduceLT, Int.reduceLE, Int.reduceAdd, Int.reduceSub, Int.reduceMul, Int.reduceNeg, Int.reduceToNat, Nat.reduceMul]
      refine ⟨k, by omega, gMx a', b' >>> 1, _, hb2, he, ?_, by simp only [go_sem, Nat.reduceEqDiff, Nat.reduceAdd, Nat.reduceLeDiff, Int.reduceEq, Int.reduceLT, Int.reduceLE, Int.reduceAdd, Int.reduceSub, Int.reduceMul, Int.reduceNeg, Int.reduceToNat, Nat.reduceMul], ?_, rfl⟩
      · unfold gMx
        rw [hh]
        simp only [go_sem, Nat.reduceEqDiff, Nat.reduceAdd, Nat.reduceLeDiff, Int.reduceEq, Int.reduceLT, Int.reduceLE, Int.reduceAdd, Int.reduceSub, Int.reduceMul, Int.reduceNeg, Int.reduceToNat, Nat.reduceMul] <;> rfl
      · simp only [f5, go_sem, Nat.reduceEqDiff, Nat.reduceAdd, Nat.reduceLeDiff, Int.reduceEq, Int.reduceLT, Int.reduceLE, Int.reduceAdd, Int.reduceSub, Int.reduceMul, Int.reduceNeg, Int.reduceToNat, Nat.reduceMul] <;> rfl
theorem v117 (h73 : tbl 73 = some (.code m73)) (h117 : tbl 117 = some (.code m117)) (a : UInt8) (H : AH) : Val tbl 117 [.int .u8 (a.toNat : Int)] H (.int .u8 ((gI a).toNat : Int)) H := by
  refine Val.of_all fun Q hQ => ?_
  rw [rn_fun h117, k117]
  simp only [go_sem, Nat.reduceEqDiff, Nat.reduceAdd, Nat.reduceLeDiff, Int.reduceEq, Int.reduceLT, Int.reduceLE, Int.reduceAdd, Int.reduceSub, Int.reduceMul, Int.reduceNeg, Int.reduceToNat, Nat.reduceMul]
  refine rn_loop (fun m f H' => ∃ (a' o : UInt8) (n : Nat), n < 2 ^ m ∧ n < 1000 ∧ gIL m n a' o = gI a ∧ f 0 = .int .u8 (a'.toNat : Int) ∧ f 4 = .int .i64 (n : Int) ∧ f 3 = .int .u8 (o.toNat : Int) ∧ H' = H.enter) ?_ (n := 8)
    ⟨a, 1, 254, by decide, by decide, rfl, by simp only [go_sem, Nat.reduceEqDiff, Nat.reduceAdd, Nat.reduceLeDiff, Int.reduceEq, Int.reduceLT, Int.reduceLE, Int.reduceAdd, Int.reduceSub, Int.reduceMul, Int.reduceNeg, Int.reduceToNat, Nat.reduceMul], by simp only [go_sem, Nat.reduceEqDiff, Nat.reduceAdd, Nat.reduceLeDiff, Int.reduceEq, Int.reduceLT, Int.reduceLE, Int.reduceAdd, Int.reduceSub, Int.reduceMul, Int.reduceNeg, Int.reduceToNat, Nat.reduceMul] <;> rfl, by simp only [go_sem, Nat.reduceEqDiff, Nat.reduceAdd, Nat.reduceLeDiff, Int.reduceEq, Int.reduceLT, Int.reduceLE, Int.reduceAdd, Int.reduceSub, Int.reduceMul, Int.reduceNeg, Int.reduceToNat, Nat.reduceMul] <;> rfl, rfl⟩
  rintro m f H' ⟨a', o, n, hb, hn, he, f0, f4, f3, rfl⟩
  by_cases hz : n = 0
  · subst hz
    have h0 : ¬ ((0 : Int) < ((0 : Nat) : Int)) := by decide
    have hend : ∀ m a' o, gIL m 0 a' o = o := by
      intro m
      induction m with
      | zero => intro a' o; rfl
      | succ m ih => intro a' o; simp only [gIL]; rw [if_neg (by decide)]; exact ih _ _
    rw [hend] at he
    subst he
    simp only [f0, f4, f3, h0, go_sem, Nat.reduceEqDiff, Nat.reduceAdd, Nat.reduceLeDiff, Int.reduceEq, Int.reduceLT, Int.reduceLE, Int.reduceAdd, Int.reduceSub, Int.reduceMul, Int.reduceNeg, Int.reduceToNat, Nat.reduceMul]
    exact hQ
  · have hp : (0 : Int) < (n : Int) := by omega
    obtain ⟨k, rfl⟩ : ∃ k, m = k + 1 := by
      refine ⟨m - 1, ?_⟩
      have : m ≠ 0 := fun e => by subst e; rw [Nat.pow_zero] at hb; omega
      omega
    have hb2 : n / 2 < 2 ^ k := by rw [Nat.pow_succ] at hb; omega
    have x1 : bitsK .and .i64 (n : Int) 1 = ((n % 2 : Nat) : Int) := by rw [and63_1 (by omega)]; omega
    have x6 : shiftK .shr .i64 (n : Int) 1 = ((n / 2 : Nat) : Int) := shr63n n 1 (by omega)
    rw [gIL] at he
    by_cases h1 : n % 2 = 1
    · rw [if_pos h1] at he
      have e1 : (((n % 2 : Nat) : Int) = 1) := by omega
      simp only [f0, f4, f3, hp, x1, x6, e1, ↓(v73 h73 _ _ _).run, go_sem, Nat.reduceEqDiff, Nat.reduceAdd, Nat.reduceLeDiff, Int.reduceEq, Int.reduceLT, Int.reduceLE, Int.reduceAdd, Int.reduceSub, Int.reduceMul, Int.reduceNeg, Int.reduceToNat, Nat.reduceMul]
      exact ⟨k, by omega, _, _, n / 2, hb2, by omega, he, by simp only [go_sem, Nat.reduceEqDiff, Nat.reduceAdd, Nat.reduceLeDiff, Int.reduceEq, Int.reduceLT, Int.reduceLE, Int.reduceAdd, Int.reduceSub, Int.reduceMul, Int.reduceNeg, Int.reduceToNat, Nat.reduceMul], by simp only [go_sem, Nat.reduceEqDiff, Nat.reduceAdd, Nat.reduceLeDiff, Int.reduceEq, Int.reduceLT, Int.reduceLE, Int.reduceAdd, Int.reduceSub, Int.reduceMul, Int.reduceNeg, Int.reduceToNat, Nat.reduceMul], by simp only [go_sem, Nat.reduceEqDiff, Nat.reduceAdd, Nat.reduceLeDiff, Int.reduceEq, Int.reduceLT, Int.reduceLE, Int.reduceAdd, Int.reduceSub, Int.reduceMul, Int.reduceNeg, Int.reduceToNat, Nat.reduceMul], rfl⟩
    · rw [if_neg h1] at he
      have e1 : ¬ (((n % 2 : Nat) : Int) = 1) := by omega
      simp only [f0, f4, f3, hp, x1, x6, e1, ↓(v73 h73 _ _ _).run, go_sem, Nat.reduceEqDiff, Nat.reduceAdd, Nat.reduceLeDiff, Int.reduceEq, Int.reduceLT, Int.reduceLE, Int.reduceAdd, Int.reduceSub, Int.reduceMul, Int.reduceNeg, Int.reduceToNat, Nat.reduceMul]
      exact ⟨k, by omega, _, _, n / 2, hb2, by omega, he, by simp only [go_sem, Nat.reduceEqDiff, Nat.reduceAdd, Nat.reduceLeDiff, Int.reduceEq, Int.reduceLT, Int.reduceLE, Int.reduceAdd, Int.reduceSub, Int.reduceMul, Int.reduceNeg, Int.reduceToNat, Nat.reduceMul], by simp only [go_sem, Nat.reduceEqDiff, Nat.reduceAdd, Nat.reduceLeDiff, Int.reduceEq, Int.reduceLT, Int.reduceLE, Int.reduceAdd, Int.reduceSub, Int.reduceMul, Int.reduceNeg, Int.reduceToNat, Nat.reduceMul], by simp only [f3, go_sem, Nat.reduceEqDiff, Nat.reduceAdd, Nat.reduceLeDiff, Int.reduceEq, Int.reduceLT, Int.reduceLE, Int.reduceAdd, Int.reduceSub, Int.reduceMul, Int.reduceNeg, Int.reduceToNat, Nat.reduceMul], rfl⟩
theorem v74 (h74 : tbl 74 = some (.code m74)) (a b : UInt8) (H : AH) : Val tbl 74 [.int .i64 (a.toNat : Int), .int .i64 (b.toNat : Int)] H (.int .i64 ((gM a b).toNat : Int)) H := by
  refine Val.of_all fun Q hQ => ?_
  have ha := UInt8.toNat_lt a
  have hb := UInt8.toNat_lt b
  rw [← fldN_eq] at hQ
  rw [rn_fun h74, k74]
  simp only [go_sem, Nat.reduceEqDiff, Nat.reduceAdd, Nat.reduceLeDiff, Int.reduceEq, Int.reduceLT, Int.reduceLE, Int.reduceAdd, Int.reduceSub, Int.reduceMul, Int.reduceNeg, Int.reduceToNat, Nat.reduceMul]
  refine rn_loop (fun m f H' => ∃ (j : Nat), j ≤ 8 ∧ m = 8 - j ∧ f 0 = .int .i64 (a.toNat : Int) ∧ f 1 = .int .i64 (b.toNat : Int) ∧ f 5 = .int .i64 (clS a.toNat b.toNat j : Nat) ∧ f 8 = .int .i64 (j : Int) ∧ H' = H.enter) ?_ (n := 8)
    ⟨0, by decide, rfl, by simp only [go_sem, Nat.reduceEqDiff, Nat.reduceAdd, Nat.reduceLeDiff, Int.reduceEq, Int.reduceLT, Int.reduceLE, Int.reduceAdd, Int.reduceSub, Int.reduceMul, Int.reduceNeg, Int.reduceToNat, Nat.reduceMul], by simp only [go_sem, Nat.reduceEqDiff, Nat.reduceAdd, Nat.reduceLeDiff, Int.reduceEq, Int.reduceLT, Int.reduceLE, Int.reduceAdd, Int.reduceSub, Int.reduceMul, Int.reduceNeg, Int.reduceToNat, Nat.reduceMul], by simp only [go_sem, Nat.reduceEqDiff, Nat.reduceAdd, Nat.reduceLeDiff, Int.reduceEq, Int.reduceLT, Int.reduceLE, Int.reduceAdd, Int.reduceSub, Int.reduceMul, Int.reduceNeg, Int.reduceToNat, Nat.reduceMul] <;> rfl, by simp only [go_sem, Nat.reduceEqDiff, Nat.reduceAdd, Nat.reduceLeDiff, Int.reduceEq, Int.reduceLT, Int.reduceLE, Int.reduceAdd, Int.reduceSub, Int.reduceMul, Int.reduceNeg, Int.reduceToNat, Nat.reduceMul] <;> rfl, rfl⟩
  rintro m f H' ⟨j, hj, rfl, f0, f1, f5, f8, rfl⟩
  by_cases hlt : (j : Int) < 8
  · have j0 : ¬ (j : Int) < 0 := by omega
    have hc := clS_lt (b := b.toNat) ha j (by omega)
    have wj := w64 (x := (j : Int) + 1) (by omega) (by omega)
    have hpow : 2 ^ j ≤ 2 ^ 7 := Nat.pow_le_pow_right (by decide) (by omega)
    have hprod : a.toNat * 2 ^ j ≤ 255 * 2 ^ 7 := Nat.mul_le_mul (by omega) hpow
    have x1 := shr63n b.toNat j (by omega)
    have hq : b.toNat / 2 ^ j ≤ b.toNat := Nat.div_le_self _ _
    have x2 : bitsK .and .i64 ((b.toNat / 2 ^ j : Nat) : Int) 1 = ((b.toNat / 2 ^ j % 2 : Nat) : Int) := by
      generalize b.toNat / 2 ^ j = q at hq ⊢
      rw [and63_1 (by omega)]; omega
    have x3 := shl63n a.toNat j (by omega) (by omega)
    have x4 := xor63 (clS a.toNat b.toNat j) (a.toNat * 2 ^ j) hc (by omega)
    have cs : clS a.toNat b.toNat (j + 1) = if (b.toNat / 2 ^ j) % 2 = 1 then clS a.toNat b.toNat j ^^^ (a.toNat * 2 ^ j) else clS a.toNat b.toNat j := rfl
    by_cases h1 : b.toNat / 2 ^ j % 2 = 1
    · rw [if_pos h1] at cs
      have e1 : (((b.toNat / 2 ^ j % 2 : Nat) : Int) = 1) := by omega
      simp only [f0, f1, f5, f8, hlt, j0, wj, x1, x2, x3, x4, e1, go_sem, Nat.reduceEqDiff, Nat.reduceAdd, Nat.reduceLeDiff, Int.reduceEq, Int.reduceLT, Int.reduceLE, Int.reduceAdd, Int.reduceSub, Int.reduceMul, Int.reduceNeg, Int.reduceToNat, Nat.reduceMul]
      exact ⟨8 - (j + 1), by omega, j + 1, by omega, rfl, by simp only [f0, go_sem, Nat.reduceEqDiff, Nat.reduceAdd, Nat.reduceLeDiff, Int.reduceEq, Int.reduceLT, Int.reduceLE, Int.reduceAdd, Int.reduceSub, Int.reduceMul, Int.reduceNeg, Int.reduceToNat, Nat.reduceMul], by simp only [f1, go_sem, Nat.reduceEqDiff, Nat.reduceAdd, Nat.reduceLeDiff, Int.reduceEq, Int.reduceLT, Int.reduceLE, Int.reduceAdd, Int.reduceSub, Int.reduceMul, Int.reduceNeg, Int.reduceToNat, Nat.reduceMul], by rw [cs]; simp only [go_sem, Nat.reduceEqDiff, Nat.reduceAdd, Nat.reduceLeDiff, Int.reduceEq, Int.reduceLT, Int.reduceLE, Int.reduceAdd, Int.reduceSub, Int.reduceMul, Int.reduceNeg, Int.reduceToNat, Nat.reduceMul], by simp only [go_sem, Nat.reduceEqDiff, Nat.reduceAdd, Nat.reduceLeDiff, Int.reduceEq, Int.reduceLT, Int.reduceLE, Int.reduceAdd, Int.reduceSub, Int.reduceMul, Int.reduceNeg, Int.reduceToNat, Nat.reduceMul] <;> rfl, rfl⟩
    · rw [if_neg h1] at cs
      have e1 : ¬ (((b.toNat / 2 ^ j % 2 : Nat) : Int) = 1) := by omega
      simp only [f0, f1, f5, f8, hlt, j0, wj, x1, x2, x3, x4, e1, go_sem, Nat.reduceEqDiff, Nat.reduceAdd, Nat.reduceLeDiff, Int.reduceEq, Int.reduceLT, Int.reduceLE, Int.reduceAdd, Int.reduceSub, Int.reduceMul, Int.reduceNeg, Int.reduceToNat, Nat.reduceMul]
      exact ⟨8 - (j + 1), by omega, j + 1, by omega, rfl, by simp only [f0, go_sem, Nat.reduceEqDiff, Nat.reduceAdd, Nat.reduceLeDiff, Int.reduceEq, Int.reduceLT, Int.reduceLE, Int.reduceAdd, Int.reduceSub, Int.reduceMul, Int.reduceNeg, Int.reduceToNat, Nat.reduceMul], by simp only [f1, go_sem, Nat.reduceEqDiff, Nat.reduceAdd, Nat.reduceLeDiff, Int.reduceEq, Int.reduceLT, Int.reduceLE, Int.reduceAdd, Int.reduceSub, Int.reduceMul, Int.reduceNeg, Int.reduceToNat, Nat.reduceMul], by rw [cs]; simp only [f5, go_sem, Nat.reduceEqDiff, Nat.reduceAdd, Nat.reduceLeDiff, Int.reduceEq, Int.reduceLT, Int.reduceLE, Int.reduceAdd, Int.reduceSub, Int.reduceMul, Int.reduceNeg, Int.reduceToNat, Nat.reduceMul], by simp only [go_sem, Nat.reduceEqDiff, Nat.reduceAdd, Nat.reduceLeDiff, Int.reduceEq, Int.reduceLT, Int.reduceLE, Int.reduceAdd, Int.reduceSub, Int.reduceMul, Int.reduceNeg, Int.reduceToNat, Nat.reduceMul] <;> rfl, rfl⟩
  · have hj8 : j = 8 := by omega
    subst hj8
    have hc := clS_lt (b := b.toNat) ha 8 (by omega)
    simp only [f0, f1, f5, f8, hlt, go_sem, Nat.reduceEqDiff, Nat.reduceAdd, Nat.reduceLeDiff, Int.reduceEq, Int.reduceLT, Int.reduceLE, Int.reduceAdd, Int.reduceSub, Int.reduceMul, Int.reduceNeg, Int.reduceToNat, Nat.reduceMul]
    refine rn_loop (fun m f H' => ∃ (k : Nat), k ≤ 7 ∧ m = 7 - k ∧ f 5 = .int .i64 (rdS (clS a.toNat b.toNat 8) k : Nat) ∧ f 7 = .int .i64 (14 - k : Int) ∧ H' = H.enter) ?_ (n := 7)
      ⟨0, by decide, rfl, by simp only [f5, go_sem, Nat.reduceEqDiff, Nat.reduceAdd, Nat.reduceLeDiff, Int.reduceEq, Int.reduceLT, Int.reduceLE, Int.reduceAdd, Int.reduceSub, Int.reduceMul, Int.reduceNeg, Int.reduceToNat, Nat.reduceMul] <;> rfl, by simp only [go_sem, Nat.reduceEqDiff, Nat.reduceAdd, Nat.reduceLeDiff, Int.reduceEq, Int.reduceLT, Int.reduceLE, Int.reduceAdd, Int.reduceSub, Int.reduceMul, Int.reduceNeg, Int.reduceToNat, Nat.reduceMul] <;> rfl, rfl⟩
    rintro m f H' ⟨k, hk, rfl, f5, f7, rfl⟩
    by_cases hlt : (8 : Int) ≤ 14 - k
    · have hr := rdS_lt hc k
      have k0 : ¬ (14 - k : Int) < 0 := by omega
      have e6 : (14 - k : Int) - 8 = ((6 - k : Nat) : Int) := by omega
      have e14 : (14 - k : Int) = ((14 - k : Nat) : Int) := by omega
      have k1 : ¬ (((6 - k : Nat) : Int)) < 0 := by omega
      have wj := w64 (x := (14 - k : Int) - 1) (by omega) (by omega)
      have w6 := w64 (x := (14 - k : Int) - 8) (by omega) (by omega)
      rw [e6] at w6
      have hpow : 2 ^ (6 - k) ≤ 2 ^ 6 := Nat.pow_le_pow_right (by decide) (by omega)
      have hprod : 283 * 2 ^ (6 - k) ≤ 283 * 2 ^ 6 := Nat.mul_le_mul (by omega) hpow
      have x1 := shr63n (rdS (clS a.toNat b.toNat 8) k) (14 - k) (by omega)
      rw [← e14] at x1
      have hq : rdS (clS a.toNat b.toNat 8) k / 2 ^ (14 - k) ≤ rdS (clS a.toNat b.toNat 8) k := Nat.div_le_self _ _
      have x2 : bitsK .and .i64 ((rdS (clS a.toNat b.toNat 8) k / 2 ^ (14 - k) : Nat) : Int) 1 = ((rdS (clS a.toNat b.toNat 8) k / 2 ^ (14 - k) % 2 : Nat) : Int) := by
        generalize rdS (clS a.toNat b.toNat 8) k / 2 ^ (14 - k) = q at hq ⊢
        rw [and63_1 (by omega)]; omega
      have x3 : shiftK .shl .i64 283 ((6 - k : Nat) : Int) = ((283 * 2 ^ (6 - k) : Nat) : Int) := shl63n 283 (6 - k) (by omega) (by omega)
      have x4 := xor63 (rdS (clS a.toNat b.toNat 8) k) (283 * 2 ^ (6 - k)) hr (by omega)
      have cs : rdS (clS a.toNat b.toNat 8) (k + 1) = if (rdS (clS a.toNat b.toNat 8) k / 2 ^ (14 - k)) % 2 = 1 then rdS (clS a.toNat b.toNat 8) k ^^^ (283 * 2 ^ (6 - k)) else rdS (clS a.toNat b.toNat 8) k := rfl
      by_cases h1 : rdS (clS a.toNat b.toNat 8) k / 2 ^ (14 - k) % 2 = 1
      · rw [if_pos h1] at cs
        have e1 : (((rdS (clS a.toNat b.toNat 8) k / 2 ^ (14 - k) % 2 : Nat) : Int) = 1) := by omega
        simp only [f5, f7, hlt, k0, k1, e6, wj, w6, x1, x2, x3, x4, e1, go_sem, Nat.reduceEqDiff, Nat.reduceAdd, Nat.reduceLeDiff, Int.reduceEq, Int.reduceLT, Int.reduceLE, Int.reduceAdd, Int.reduceSub, Int.reduceMul, Int.reduceNeg, Int.reduceToNat, Nat.reduceMul]
        exact ⟨7 - (k + 1), by omega, k + 1, by omega, rfl, by rw [cs]; simp only [go_sem, Nat.reduceEqDiff, Nat.reduceAdd, Nat.reduceLeDiff, Int.reduceEq, Int.reduceLT, Int.reduceLE, Int.reduceAdd, Int.reduceSub, Int.reduceMul, Int.reduceNeg, Int.reduceToNat, Nat.reduceMul], by simp only [go_sem, Nat.reduceEqDiff, Nat.reduceAdd, Nat.reduceLeDiff, Int.reduceEq, Int.reduceLT, Int.reduceLE, Int.reduceAdd, Int.reduceSub, Int.reduceMul, Int.reduceNeg, Int.reduceToNat, Nat.reduceMul]; congr 1; omega, rfl⟩
      · rw [if_neg h1] at cs
        have e1 : ¬ (((rdS (clS a.toNat b.toNat 8) k / 2 ^ (14 - k) % 2 : Nat) : Int) = 1) := by omega
        simp only [f5, f7, hlt, k0, k1, e6, wj, w6, x1, x2, x3, x4, e1, go_sem, Nat.reduceEqDiff, Nat.reduceAdd, Nat.reduceLeDiff, Int.reduceEq, Int.reduceLT, Int.reduceLE, Int.reduceAdd, Int.reduceSub, Int.reduceMul, Int.reduceNeg, Int.reduceToNat, Nat.reduceMul]
        exact ⟨7 - (k + 1), by omega, k + 1, by omega, rfl, by rw [cs]; simp only [f5, go_sem, Nat.reduceEqDiff, Nat.reduceAdd, Nat.reduceLeDiff, Int.reduceEq, Int.reduceLT, Int.reduceLE, Int.reduceAdd, Int.reduceSub, Int.reduceMul, Int.reduceNeg, Int.reduceToNat, Nat.reduceMul], by simp only [go_sem, Nat.reduceEqDiff, Nat.reduceAdd, Nat.reduceLeDiff, Int.reduceEq, Int.reduceLT, Int.reduceLE, Int.reduceAdd, Int.reduceSub, Int.reduceMul, Int.reduceNeg, Int.reduceToNat, Nat.reduceMul]; congr 1; omega, rfl⟩
    · have hk7 : k = 7 := by omega
      subst hk7
      simp only [f5, f7, hlt, go_sem, Nat.reduceEqDiff, Nat.reduceAdd, Nat.reduceLeDiff, Int.reduceEq, Int.reduceLT, Int.reduceLE, Int.reduceAdd, Int.reduceSub, Int.reduceMul, Int.reduceNeg, Int.reduceToNat, Nat.reduceMul]
      exact hQ
end Go.Proofs.Ytildhljhbbhmmaa.AM
namespace Go.Proofs.Ytildhljhbbhmmaa.AM
open Go
set_option linter.all false
set_option maxRecDepth 10000

/-! ### Shares -/
/-- A share: its place and its bytes. -/
abbrev Sh := Int × List UInt8
def shc (l : List Sh) : List Value := l.flatMap fun p => [.int .i64 p.1, .string (tx p.2)]
theorem shc_at : ∀ (l : List Sh) (i : Nat) (h : i < l.length), ((shc l).drop (i * 2)).take 2 = [.int .i64 l[i].1, .string (tx l[i].2)] := by
  intro l
  induction l with
  | nil => intro i h; simp at h
  | cons p l ih =>
    intro i h
    cases i with
    | zero => rfl
    | succ i =>
      have := ih i (by simpa using h)
      rw [Nat.succ_mul]
      simpa [shc] using this
theorem shc_len (l : List Sh) : (shc l).length = l.length * 2 := by
  induction l with
  | nil => rfl
  | cons p l ih =>
    have : shc (p :: l) = .int .i64 p.1 :: .string (tx p.2) :: shc l := rfl
    rw [this, List.length_cons, List.length_cons, ih, List.length_cons]
    omega
theorem shc_app (l r : List Sh) : shc l ++ shc r = shc (l ++ r) := by simp [shc]
theorem shc_p1 (l : List Sh) : (shc l).all p1 = true := by
  induction l with
  | nil => rfl
  | cons p l ih =>
    have : shc (p :: l) = .int .i64 p.1 :: .string (tx p.2) :: shc l := rfl
    rw [this, List.all_cons, List.all_cons, ih]
    rfl
/-- New blocks alone. -/
structure Junk (H H' : AH) : Prop where
  old : ∀ id, id < H.next → H'.get id = H.get id
  nx : H.next ≤ H'.next
  low : H.next ≤ H'.low
theorem Junk.enter (H : AH) : Junk H H.enter := ⟨fun _ _ => rfl, Nat.le_refl _, Nat.le_refl _⟩
theorem Junk.push {H H' : AH} (h : Junk H H') (b : Blk) : Junk H (H'.push b) := by
  have := h.nx
  have := h.low
  exact ⟨fun id hid => by rw [AH.get_push_lt _ _ (by omega)]; exact h.old id hid, by rw [AH.next_push]; omega, by rw [lw_push]; omega⟩
theorem Junk.set {H H' : AH} (h : Junk H H') {k : Nat} (hk : H.next ≤ k) (x : Option Blk) : Junk H (H'.set k x) := by
  have := h.nx
  have := h.low
  exact ⟨fun id hid => by rw [AH.get_set_ne _ _ (by omega)]; exact h.old id hid, by rw [AH.next_set]; omega, by rw [lw_set]; omega⟩
/-- Of a block that is pushed and then set, that alone is left. -/
theorem ps_get {H' : AH} {b c : Blk} : ((H'.push b).set H'.next (some c)).get H'.next = some c := AH.get_set_eq _ _ (by rw [AH.next_push]; omega)
theorem ps_old {H' : AH} {b c : Blk} {k : Nat} (h : k < H'.next) : ((H'.push b).set H'.next (some c)).get k = H'.get k := by
  rw [AH.get_set_ne _ _ (by omega), AH.get_push_lt _ _ h]
theorem ps_next {H' : AH} {b c : Blk} : ((H'.push b).set H'.next (some c)).next = H'.next + 1 := by rw [AH.next_set, AH.next_push]
/-- The place of a share, as a number of the field. -/
def xb (l : List Sh) (i : Nat) : UInt8 := UInt8.ofNat (l.getD i (0, [])).1.toNat
theorem xb_at {l : List Sh} {i : Nat} (h : i < l.length) (hx : 0 ≤ l[i].1 ∧ l[i].1 ≤ 255) : ((xb l i).toNat : Int) = l[i].1 := by
  have e : xb l i = UInt8.ofNat l[i].1.toNat := by simp [xb, h]
  rw [e, UInt8.toNat_ofNat']
  omega
theorem xb_wrap {l : List Sh} {i : Nat} (h : i < l.length) (hx : 0 ≤ l[i].1 ∧ l[i].1 ≤ 255) : IntKind.wrap .u8 l[i].1 = ((xb l i).toNat : Int) := by
  rw [xb_at h hx, IntKind.wrap_u8]
  omega
/-- The weights of shares at a place. -/
def wL (l : List Sh) (z : UInt8) : List UInt8 := (List.range l.length).map fun i => wS (xb l) z i l.length
theorem wL_len {l : List Sh} {z : UInt8} : (wL l z).length = l.length := by simp [wL]
theorem zb_cons {n i : Nat} (h : i < n) : zb (n - i) = 0 :: zb (n - (i + 1)) := by
  rw [show n - i = (n - (i + 1)) + 1 by omega]
  simp only [zb, List.replicate_succ]
theorem row_first (f : Nat → UInt8) {n i : Nat} (h : i < n) (x : UInt8) : ((List.range i).map f ++ zb (n - i)).set i x = (List.range i).map f ++ x :: zb (n - (i + 1)) := by
  rw [zb_cons h, set_mid (y := 0) (i := 0) (by simp)]
  rfl
theorem row_again (f : Nat → UInt8) {i : Nat} (x y : UInt8) (Z : List UInt8) : ((List.range i).map f ++ x :: Z).set i y = (List.range i).map f ++ y :: Z := by
  rw [set_mid (y := 0) (i := 0) (by simp)]
  rfl
theorem row_done (f : Nat → UInt8) (i : Nat) (Z : List UInt8) : (List.range i).map f ++ f i :: Z = (List.range (i + 1)).map f ++ Z := by
  rw [map_range_succ, List.append_assoc]
  rfl
theorem row_gb (f : Nat → UInt8) (i : Nat) (x : UInt8) (Z : List UInt8) : gb ((List.range i).map f ++ x :: Z) i = x := by
  rw [gb_app (j := 0) (by simp)]
  rfl
theorem row_len' (f : Nat → UInt8) {i n : Nat} (h : i < n) (x : UInt8) : ((List.range i).map f ++ x :: zb (n - (i + 1))).length = n := by
  simp [zb]; omega
theorem relow' {H : AH} : (⟨H.enter.blks, H.low⟩ : AH) = H := rfl
variable {tbl : Tbl} [hT : TMono tbl]
theorem v100 (h73 : tbl 73 = some (.code m73)) (h117 : tbl 117 = some (.code m117)) (h100 : tbl 100 = some (.code m100)) (l : List Sh) (hg : ∀ i (h : i < l.length), 0 ≤ l[i].1 ∧ l[i].1 ≤ 255) (h0 : 0 < l.length) (h1 : l.length ≤ 1000) {H : AH} {v : Value} (hs : Sl H 2 v l.length (shc l)) (z : UInt8) :
    Val tbl 100 [v, .int .u8 (z.toNat : Int)] H (mkS H l.length) (mkH H 1 l.length (bc (wL l z))) := by
  refine Val.of_all fun Q hQ => ?_
  obtain ⟨ad, cp, hv⟩ := hs.shape
  subst hv
  rw [rn_fun h100, k100]
  have c0 : (0 : Int) ≤ l.length := by omega
  have c1 : (l.length : Int) ≤ 9223372036854775807 := by omega
  have c2 : l.length ≤ 140737488355328 := by omega
  simp only [Int.toNat_natCast, rep_zb, c0, c1, c2, Int.le_refl, go_sem, Nat.reduceEqDiff, Nat.reduceAdd, Nat.reduceLeDiff, Int.reduceEq, Int.reduceLT, Int.reduceLE, Int.reduceAdd, Int.reduceSub, Int.reduceMul, Int.reduceNeg, Int.reduceToNat, Nat.reduceMul]
  refine rn_loop (fun m f H' => ∃ i : Nat, i ≤ l.length ∧ m = l.length - i ∧ f 0 = .slice ad l.length cp ∧ f 1 = .int .u8 (z.toNat : Int) ∧ f 5 = .slice (some ⟨H.next, 0, none⟩) l.length l.length ∧ f 13 = .slice ad l.length cp ∧ f 14 = .int .i64 l.length ∧ f 15 = .int .i64 i ∧ Junk H H' ∧ H.next < H'.next ∧ H'.get H.next = some (u8r ((List.range i).map (fun i => wS (xb l) z i l.length) ++ zb (l.length - i)))) ?_ (n := l.length)
    ⟨0, by omega, rfl, by simp only [go_sem, Nat.reduceEqDiff, Nat.reduceAdd, Nat.reduceLeDiff, Int.reduceEq, Int.reduceLT, Int.reduceLE, Int.reduceAdd, Int.reduceSub, Int.reduceMul, Int.reduceNeg, Int.reduceToNat, Nat.reduceMul], by simp only [go_sem, Nat.reduceEqDiff, Nat.reduceAdd, Nat.reduceLeDiff, Int.reduceEq, Int.reduceLT, Int.reduceLE, Int.reduceAdd, Int.reduceSub, Int.reduceMul, Int.reduceNeg, Int.reduceToNat, Nat.reduceMul], by simp only [go_sem, Nat.reduceEqDiff, Nat.reduceAdd, Nat.reduceLeDiff, Int.reduceEq, Int.reduceLT, Int.reduceLE, Int.reduceAdd, Int.reduceSub, Int.reduceMul, Int.reduceNeg, Int.reduceToNat, Nat.reduceMul], by simp only [go_sem, Nat.reduceEqDiff, Nat.reduceAdd, Nat.reduceLeDiff, Int.reduceEq, Int.reduceLT, Int.reduceLE, Int.reduceAdd, Int.reduceSub, Int.reduceMul, Int.reduceNeg, Int.reduceToNat, Nat.reduceMul], by simp only [go_sem, Nat.reduceEqDiff, Nat.reduceAdd, Nat.reduceLeDiff, Int.reduceEq, Int.reduceLT, Int.reduceLE, Int.reduceAdd, Int.reduceSub, Int.reduceMul, Int.reduceNeg, Int.reduceToNat, Nat.reduceMul], by simp only [go_sem, Nat.reduceEqDiff, Nat.reduceAdd, Nat.reduceLeDiff, Int.reduceEq, Int.reduceLT, Int.reduceLE, Int.reduceAdd, Int.reduceSub, Int.reduceMul, Int.reduceNeg, Int.reduceToNat, Nat.reduceMul] <;> rfl, (Junk.enter H).push _, by rw [AH.next_push, nx_enter]; omega, AH.get_push_eq H.enter _⟩
  rintro m f H' ⟨i, hi, rfl, f0, f1, f5, f13, f14, f15, st, n1, g5⟩
  by_cases hlt : (i : Int) < l.length
  · have hi2 : i < l.length := by omega
    have i0 : (0 : Int) ≤ i := by omega
    have hp2 : H'.next < H'.next + 1 := by omega
    have wi := w64 (x := (i : Int) + 1) (by omega) (by omega)
    have hlen : ((List.range i).map (fun i => wS (xb l) z i l.length) ++ zb (l.length - i)).length = l.length := by simp [zb]; omega
    have hi3 : i + 1 ≤ l.length := by omega
    simp only [f0, f1, f5, f13, f14, f15, hlt, go_sem, Nat.reduceEqDiff, Nat.reduceAdd, Nat.reduceLeDiff, Int.reduceEq, Int.reduceLT, Int.reduceLE, Int.reduceAdd, Int.reduceSub, Int.reduceMul, Int.reduceNeg, Int.reduceToNat, Nat.reduceMul]
    refine (hs.keep st.old).at_ hi2 fun q hq1 hq2 => ?_
    rw [shc_at _ _ hi2] at hq2
    simp only [f0, f1, f5, f13, f14, f15, hlt, hq2, hp2, stc_eq, stB_some, go_sem, Nat.reduceEqDiff, Nat.reduceAdd, Nat.reduceLeDiff, Int.reduceEq, Int.reduceLT, Int.reduceLE, Int.reduceAdd, Int.reduceSub, Int.reduceMul, Int.reduceNeg, Int.reduceToNat, Nat.reduceMul]
    have st2 := (st.push ⟨[.int .i64 0, .string ⟨#[]⟩], 1, false⟩).set st.nx (some ⟨[.int .i64 l[i].1, .string (tx l[i].2)], 1, false⟩)
    have g7 := ps_get (H' := H') (b := ⟨[.int .i64 0, .string ⟨#[]⟩], 1, false⟩) (c := ⟨[.int .i64 l[i].1, .string (tx l[i].2)], 1, false⟩)
    have g5b := (ps_old (H' := H') (b := ⟨[.int .i64 0, .string ⟨#[]⟩], 1, false⟩) (c := ⟨[.int .i64 l[i].1, .string (tx l[i].2)], 1, false⟩) n1).trans g5
    have n2 := ps_next (H' := H') (b := ⟨[.int .i64 0, .string ⟨#[]⟩], 1, false⟩) (c := ⟨[.int .i64 l[i].1, .string (tx l[i].2)], 1, false⟩)
    generalize (H'.push ⟨[.int .i64 0, .string ⟨#[]⟩], 1, false⟩).set H'.next (some ⟨[.int .i64 l[i].1, .string (tx l[i].2)], 1, false⟩) = H2 at st2 g7 g5b n2 ⊢
    have one1 : (Value.int .u8 1) = .int .u8 ((1 : UInt8).toNat : Int) := rfl
    have hrow := row_first (fun i => wS (xb l) z i l.length) hi2 1
    simp only [f0, f1, f5, f13, f14, f15, g5b, i0, hi3, hlt, idxSP_slc, Int.toNat_natCast, u8r_len, u8r_ro, u8r_es, hlen, addA, Nat.zero_add, Nat.mul_one, stc_eq, stB_some, splice_one, one1, u8r_set, hrow, go_sem, Nat.reduceEqDiff, Nat.reduceAdd, Nat.reduceLeDiff, Int.reduceEq, Int.reduceLT, Int.reduceLE, Int.reduceAdd, Int.reduceSub, Int.reduceMul, Int.reduceNeg, Int.reduceToNat, Nat.reduceMul]
    have g7c : (H2.set H.next (some (u8r ((List.range i).map (fun i => wS (xb l) z i l.length) ++ 1 :: zb (l.length - (i + 1)))))).get H'.next = _ := (AH.get_set_ne H2 _ (by omega)).trans g7
    have g5c : (H2.set H.next (some (u8r ((List.range i).map (fun i => wS (xb l) z i l.length) ++ 1 :: zb (l.length - (i + 1)))))).get H.next = _ := AH.get_set_eq H2 _ (by omega)
    have n3 : (H2.set H.next (some (u8r ((List.range i).map (fun i => wS (xb l) z i l.length) ++ 1 :: zb (l.length - (i + 1)))))).next = _ := (AH.next_set H2 _ _).trans n2
    have st3 := st2.set (Nat.le_refl H.next) (some (u8r ((List.range i).map (fun i => wS (xb l) z i l.length) ++ 1 :: zb (l.length - (i + 1)))))
    generalize H2.set H.next (some (u8r ((List.range i).map (fun i => wS (xb l) z i l.length) ++ 1 :: zb (l.length - (i + 1))))) = H3 at st3 g7c g5c n3 ⊢
    clear hlen hrow g5b g7 st2 hq2
    refine rn_loop (fun m f H4 => ∃ k : Nat, k ≤ l.length ∧ m = l.length - k ∧ f 0 = .slice ad l.length cp ∧ f 1 = .int .u8 (z.toNat : Int) ∧ f 5 = .slice (some ⟨H.next, 0, none⟩) l.length l.length ∧ f 13 = .slice ad l.length cp ∧ f 14 = .int .i64 l.length ∧ f 15 = .int .i64 i ∧ f 6 = .int .i64 i ∧ f 7 = .pointer (some ⟨H'.next, 0, none⟩) ∧ f 23 = .slice ad l.length cp ∧ f 24 = .int .i64 l.length ∧ f 25 = .int .i64 k ∧ Junk H H4 ∧ H'.next < H4.next ∧ H4.get H'.next = some ⟨[.int .i64 l[i].1, .string (tx l[i].2)], 1, false⟩ ∧ H4.get H.next = some (u8r ((List.range i).map (fun i => wS (xb l) z i l.length) ++ wS (xb l) z i k :: zb (l.length - (i + 1))))) ?_ (n := l.length)
      ⟨0, by omega, rfl, by simp only [f0, go_sem, Nat.reduceEqDiff, Nat.reduceAdd, Nat.reduceLeDiff, Int.reduceEq, Int.reduceLT, Int.reduceLE, Int.reduceAdd, Int.reduceSub, Int.reduceMul, Int.reduceNeg, Int.reduceToNat, Nat.reduceMul], by simp only [f1, go_sem, Nat.reduceEqDiff, Nat.reduceAdd, Nat.reduceLeDiff, Int.reduceEq, Int.reduceLT, Int.reduceLE, Int.reduceAdd, Int.reduceSub, Int.reduceMul, Int.reduceNeg, Int.reduceToNat, Nat.reduceMul], by simp only [f5, go_sem, Nat.reduceEqDiff, Nat.reduceAdd, Nat.reduceLeDiff, Int.reduceEq, Int.reduceLT, Int.reduceLE, Int.reduceAdd, Int.reduceSub, Int.reduceMul, Int.reduceNeg, Int.reduceToNat, Nat.reduceMul], by simp only [f13, go_sem, Nat.reduceEqDiff, Nat.reduceAdd, Nat.reduceLeDiff, Int.reduceEq, Int.reduceLT, Int.reduceLE, Int.reduceAdd, Int.reduceSub, Int.reduceMul, Int.reduceNeg, Int.reduceToNat, Nat.reduceMul], by simp only [f14, go_sem, Nat.reduceEqDiff, Nat.reduceAdd, Nat.reduceLeDiff, Int.reduceEq, Int.reduceLT, Int.reduceLE, Int.reduceAdd, Int.reduceSub, Int.reduceMul, Int.reduceNeg, Int.reduceToNat, Nat.reduceMul], by simp only [f15, go_sem, Nat.reduceEqDiff, Nat.reduceAdd, Nat.reduceLeDiff, Int.reduceEq, Int.reduceLT, Int.reduceLE, Int.reduceAdd, Int.reduceSub, Int.reduceMul, Int.reduceNeg, Int.reduceToNat, Nat.reduceMul], by simp only [go_sem, Nat.reduceEqDiff, Nat.reduceAdd, Nat.reduceLeDiff, Int.reduceEq, Int.reduceLT, Int.reduceLE, Int.reduceAdd, Int.reduceSub, Int.reduceMul, Int.reduceNeg, Int.reduceToNat, Nat.reduceMul], by simp only [go_sem, Nat.reduceEqDiff, Nat.reduceAdd, Nat.reduceLeDiff, Int.reduceEq, Int.reduceLT, Int.reduceLE, Int.reduceAdd, Int.reduceSub, Int.reduceMul, Int.reduceNeg, Int.reduceToNat, Nat.reduceMul], by simp only [go_sem, Nat.reduceEqDiff, Nat.reduceAdd, Nat.reduceLeDiff, Int.reduceEq, Int.reduceLT, Int.reduceLE, Int.reduceAdd, Int.reduceSub, Int.reduceMul, Int.reduceNeg, Int.reduceToNat, Nat.reduceMul], by simp only [go_sem, Nat.reduceEqDiff, Nat.reduceAdd, Nat.reduceLeDiff, Int.reduceEq, Int.reduceLT, Int.reduceLE, Int.reduceAdd, Int.reduceSub, Int.reduceMul, Int.reduceNeg, Int.reduceToNat, Nat.reduceMul], by simp only [go_sem, Nat.reduceEqDiff, Nat.reduceAdd, Nat.reduceLeDiff, Int.reduceEq, Int.reduceLT, Int.reduceLE, Int.reduceAdd, Int.reduceSub, Int.reduceMul, Int.reduceNeg, Int.reduceToNat, Nat.reduceMul] <;> rfl, st3, by omega, g7c, g5c⟩
    clear f0 f1 f5 f13 f14 f15 g7c g5c n3 st3 n2
    rintro m f H4 ⟨k, hk, rfl, f0, f1, f5, f13, f14, f15, f6, f7, f23, f24, f25, st4, n4, g7, g5⟩
    by_cases hltk : (k : Int) < l.length
    · have hk2 : k < l.length := by omega
      have hp4 : H4.next < H4.next + 1 := by omega
      have wk := w64 (x := (k : Int) + 1) (by omega) (by omega)
      have hwk : wS (xb l) z i (k + 1) = if k = i then wS (xb l) z i k else gM (wS (xb l) z i k) (gM (z ^^^ xb l k) (gI (xb l i ^^^ xb l k))) := rfl
      simp only [f0, f1, f5, f13, f14, f15, f6, f7, f23, f24, f25, hltk, go_sem, Nat.reduceEqDiff, Nat.reduceAdd, Nat.reduceLeDiff, Int.reduceEq, Int.reduceLT, Int.reduceLE, Int.reduceAdd, Int.reduceSub, Int.reduceMul, Int.reduceNeg, Int.reduceToNat, Nat.reduceMul]
      refine (hs.keep st4.old).at_ hk2 fun q2 hq3 hq4 => ?_
      rw [shc_at _ _ hk2] at hq4
      simp only [f0, f1, f5, f13, f14, f15, f6, f7, f23, f24, f25, hltk, hq4, hp4, stc_eq, stB_some, go_sem, Nat.reduceEqDiff, Nat.reduceAdd, Nat.reduceLeDiff, Int.reduceEq, Int.reduceLT, Int.reduceLE, Int.reduceAdd, Int.reduceSub, Int.reduceMul, Int.reduceNeg, Int.reduceToNat, Nat.reduceMul]
      have st5 := (st4.push ⟨[.int .i64 0, .string ⟨#[]⟩], 1, false⟩).set st4.nx (some ⟨[.int .i64 l[k].1, .string (tx l[k].2)], 1, false⟩)
      have g9 := ps_get (H' := H4) (b := ⟨[.int .i64 0, .string ⟨#[]⟩], 1, false⟩) (c := ⟨[.int .i64 l[k].1, .string (tx l[k].2)], 1, false⟩)
      have g5b := (ps_old (H' := H4) (b := ⟨[.int .i64 0, .string ⟨#[]⟩], 1, false⟩) (c := ⟨[.int .i64 l[k].1, .string (tx l[k].2)], 1, false⟩) (by omega)).trans g5
      have g7b := (ps_old (H' := H4) (b := ⟨[.int .i64 0, .string ⟨#[]⟩], 1, false⟩) (c := ⟨[.int .i64 l[k].1, .string (tx l[k].2)], 1, false⟩) n4).trans g7
      have n5 := ps_next (H' := H4) (b := ⟨[.int .i64 0, .string ⟨#[]⟩], 1, false⟩) (c := ⟨[.int .i64 l[k].1, .string (tx l[k].2)], 1, false⟩)
      generalize (H4.push ⟨[.int .i64 0, .string ⟨#[]⟩], 1, false⟩).set H4.next (some ⟨[.int .i64 l[k].1, .string (tx l[k].2)], 1, false⟩) = H5 at st5 g9 g5b g7b n5 ⊢
      by_cases hki : k = i
      · rw [if_pos hki] at hwk
        obtain rfl : k = i := hki
        simp only [f0, f1, f5, f13, f14, f15, f6, f7, f23, f24, f25, wk, go_sem, Nat.reduceEqDiff, Nat.reduceAdd, Nat.reduceLeDiff, Int.reduceEq, Int.reduceLT, Int.reduceLE, Int.reduceAdd, Int.reduceSub, Int.reduceMul, Int.reduceNeg, Int.reduceToNat, Nat.reduceMul]
        exact ⟨l.length - (k + 1), by omega, k + 1, by omega, rfl, by simp only [f0, go_sem, Nat.reduceEqDiff, Nat.reduceAdd, Nat.reduceLeDiff, Int.reduceEq, Int.reduceLT, Int.reduceLE, Int.reduceAdd, Int.reduceSub, Int.reduceMul, Int.reduceNeg, Int.reduceToNat, Nat.reduceMul], by simp only [f1, go_sem, Nat.reduceEqDiff, Nat.reduceAdd, Nat.reduceLeDiff, Int.reduceEq, Int.reduceLT, Int.reduceLE, Int.reduceAdd, Int.reduceSub, Int.reduceMul, Int.reduceNeg, Int.reduceToNat, Nat.reduceMul], by simp only [f5, go_sem, Nat.reduceEqDiff, Nat.reduceAdd, Nat.reduceLeDiff, Int.reduceEq, Int.reduceLT, Int.reduceLE, Int.reduceAdd, Int.reduceSub, Int.reduceMul, Int.reduceNeg, Int.reduceToNat, Nat.reduceMul], by simp only [f13, go_sem, Nat.reduceEqDiff, Nat.reduceAdd, Nat.reduceLeDiff, Int.reduceEq, Int.reduceLT, Int.reduceLE, Int.reduceAdd, Int.reduceSub, Int.reduceMul, Int.reduceNeg, Int.reduceToNat, Nat.reduceMul], by simp only [f14, go_sem, Nat.reduceEqDiff, Nat.reduceAdd, Nat.reduceLeDiff, Int.reduceEq, Int.reduceLT, Int.reduceLE, Int.reduceAdd, Int.reduceSub, Int.reduceMul, Int.reduceNeg, Int.reduceToNat, Nat.reduceMul], by simp only [f15, go_sem, Nat.reduceEqDiff, Nat.reduceAdd, Nat.reduceLeDiff, Int.reduceEq, Int.reduceLT, Int.reduceLE, Int.reduceAdd, Int.reduceSub, Int.reduceMul, Int.reduceNeg, Int.reduceToNat, Nat.reduceMul], by simp only [f6, go_sem, Nat.reduceEqDiff, Nat.reduceAdd, Nat.reduceLeDiff, Int.reduceEq, Int.reduceLT, Int.reduceLE, Int.reduceAdd, Int.reduceSub, Int.reduceMul, Int.reduceNeg, Int.reduceToNat, Nat.reduceMul], by simp only [f7, go_sem, Nat.reduceEqDiff, Nat.reduceAdd, Nat.reduceLeDiff, Int.reduceEq, Int.reduceLT, Int.reduceLE, Int.reduceAdd, Int.reduceSub, Int.reduceMul, Int.reduceNeg, Int.reduceToNat, Nat.reduceMul], by simp only [f23, go_sem, Nat.reduceEqDiff, Nat.reduceAdd, Nat.reduceLeDiff, Int.reduceEq, Int.reduceLT, Int.reduceLE, Int.reduceAdd, Int.reduceSub, Int.reduceMul, Int.reduceNeg, Int.reduceToNat, Nat.reduceMul], by simp only [f24, go_sem, Nat.reduceEqDiff, Nat.reduceAdd, Nat.reduceLeDiff, Int.reduceEq, Int.reduceLT, Int.reduceLE, Int.reduceAdd, Int.reduceSub, Int.reduceMul, Int.reduceNeg, Int.reduceToNat, Nat.reduceMul], by simp only [go_sem, Nat.reduceEqDiff, Nat.reduceAdd, Nat.reduceLeDiff, Int.reduceEq, Int.reduceLT, Int.reduceLE, Int.reduceAdd, Int.reduceSub, Int.reduceMul, Int.reduceNeg, Int.reduceToNat, Nat.reduceMul] <;> rfl, st5, by omega, g7b, by rw [hwk]; exact g5b⟩
      · have hki2 : ¬ ((k : Int) = (i : Int)) := by omega
        rw [if_neg hki] at hwk
        have hlen2 := row_len' (fun i => wS (xb l) z i l.length) hi2 (wS (xb l) z i k)
        have hgb := row_gb (fun i => wS (xb l) z i l.length) i (wS (xb l) z i k) (zb (l.length - (i + 1)))
        have hrow2 := row_again (fun i => wS (xb l) z i l.length) (i := i) (wS (xb l) z i k) (wS (xb l) z i (k + 1)) (zb (l.length - (i + 1)))
        have wx1 := xb_wrap hi2 (hg i hi2)
        have wx2 := xb_wrap hk2 (hg k hk2)
        have hat := u8r_at (l := (List.range i).map (fun i => wS (xb l) z i l.length) ++ wS (xb l) z i k :: zb (l.length - (i + 1))) (i := i) (by omega)
        rw [hgb] at hat
        simp only [f0, f1, f5, f13, f14, f15, f6, f7, f23, f24, f25, hki2, wk, g5b, g7b, g9, i0, hi3, hlt, wx1, wx2, xor8, hat, hlen2, ↓(v117 h73 h117 _ _).run, ↓(v73 h73 _ _ _).run, idxSP_slc, Int.toNat_natCast, u8r_len, u8r_ro, u8r_es, addA, Nat.zero_add, Nat.add_zero, Nat.mul_one, stc_eq, stB_some, splice_one, ← hwk, relow', u8r_set, hrow2, go_sem, Nat.reduceEqDiff, Nat.reduceAdd, Nat.reduceLeDiff, Int.reduceEq, Int.reduceLT, Int.reduceLE, Int.reduceAdd, Int.reduceSub, Int.reduceMul, Int.reduceNeg, Int.reduceToNat, Nat.reduceMul]
        exact ⟨l.length - (k + 1), by omega, k + 1, by omega, rfl, by simp only [f0, go_sem, Nat.reduceEqDiff, Nat.reduceAdd, Nat.reduceLeDiff, Int.reduceEq, Int.reduceLT, Int.reduceLE, Int.reduceAdd, Int.reduceSub, Int.reduceMul, Int.reduceNeg, Int.reduceToNat, Nat.reduceMul], by simp only [f1, go_sem, Nat.reduceEqDiff, Nat.reduceAdd, Nat.reduceLeDiff, Int.reduceEq, Int.reduceLT, Int.reduceLE, Int.reduceAdd, Int.reduceSub, Int.reduceMul, Int.reduceNeg, Int.reduceToNat, Nat.reduceMul], by simp only [f5, go_sem, Nat.reduceEqDiff, Nat.reduceAdd, Nat.reduceLeDiff, Int.reduceEq, Int.reduceLT, Int.reduceLE, Int.reduceAdd, Int.reduceSub, Int.reduceMul, Int.reduceNeg, Int.reduceToNat, Nat.reduceMul], by simp only [f13, go_sem, Nat.reduceEqDiff, Nat.reduceAdd, Nat.reduceLeDiff, Int.reduceEq, Int.reduceLT, Int.reduceLE, Int.reduceAdd, Int.reduceSub, Int.reduceMul, Int.reduceNeg, Int.reduceToNat, Nat.reduceMul], by simp only [f14, go_sem, Nat.reduceEqDiff, Nat.reduceAdd, Nat.reduceLeDiff, Int.reduceEq, Int.reduceLT, Int.reduceLE, Int.reduceAdd, Int.reduceSub, Int.reduceMul, Int.reduceNeg, Int.reduceToNat, Nat.reduceMul], by simp only [f15, go_sem, Nat.reduceEqDiff, Nat.reduceAdd, Nat.reduceLeDiff, Int.reduceEq, Int.reduceLT, Int.reduceLE, Int.reduceAdd, Int.reduceSub, Int.reduceMul, Int.reduceNeg, Int.reduceToNat, Nat.reduceMul], by simp only [f6, go_sem, Nat.reduceEqDiff, Nat.reduceAdd, Nat.reduceLeDiff, Int.reduceEq, Int.reduceLT, Int.reduceLE, Int.reduceAdd, Int.reduceSub, Int.reduceMul, Int.reduceNeg, Int.reduceToNat, Nat.reduceMul], by simp only [f7, go_sem, Nat.reduceEqDiff, Nat.reduceAdd, Nat.reduceLeDiff, Int.reduceEq, Int.reduceLT, Int.reduceLE, Int.reduceAdd, Int.reduceSub, Int.reduceMul, Int.reduceNeg, Int.reduceToNat, Nat.reduceMul], by simp only [f23, go_sem, Nat.reduceEqDiff, Nat.reduceAdd, Nat.reduceLeDiff, Int.reduceEq, Int.reduceLT, Int.reduceLE, Int.reduceAdd, Int.reduceSub, Int.reduceMul, Int.reduceNeg, Int.reduceToNat, Nat.reduceMul], by simp only [f24, go_sem, Nat.reduceEqDiff, Nat.reduceAdd, Nat.reduceLeDiff, Int.reduceEq, Int.reduceLT, Int.reduceLE, Int.reduceAdd, Int.reduceSub, Int.reduceMul, Int.reduceNeg, Int.reduceToNat, Nat.reduceMul], by simp only [go_sem, Nat.reduceEqDiff, Nat.reduceAdd, Nat.reduceLeDiff, Int.reduceEq, Int.reduceLT, Int.reduceLE, Int.reduceAdd, Int.reduceSub, Int.reduceMul, Int.reduceNeg, Int.reduceToNat, Nat.reduceMul] <;> rfl, st5.set (Nat.le_refl _) _, by rw [AH.next_set]; omega, (AH.get_set_ne H5 _ (by omega)).trans g7b, AH.get_set_eq H5 _ (by omega)⟩
    · have hke : k = l.length := by omega
      subst hke
      have hdone := row_done (fun i => wS (xb l) z i l.length) i (zb (l.length - (i + 1)))
      rw [hdone] at g5
      simp only [f0, f1, f5, f13, f14, f15, f6, f7, f23, f24, f25, hltk, wi, go_sem, Nat.reduceEqDiff, Nat.reduceAdd, Nat.reduceLeDiff, Int.reduceEq, Int.reduceLT, Int.reduceLE, Int.reduceAdd, Int.reduceSub, Int.reduceMul, Int.reduceNeg, Int.reduceToNat, Nat.reduceMul]
      exact ⟨l.length - (i + 1), by omega, i + 1, by omega, rfl, by simp only [f0, go_sem, Nat.reduceEqDiff, Nat.reduceAdd, Nat.reduceLeDiff, Int.reduceEq, Int.reduceLT, Int.reduceLE, Int.reduceAdd, Int.reduceSub, Int.reduceMul, Int.reduceNeg, Int.reduceToNat, Nat.reduceMul], by simp only [f1, go_sem, Nat.reduceEqDiff, Nat.reduceAdd, Nat.reduceLeDiff, Int.reduceEq, Int.reduceLT, Int.reduceLE, Int.reduceAdd, Int.reduceSub, Int.reduceMul, Int.reduceNeg, Int.reduceToNat, Nat.reduceMul], by simp only [f5, go_sem, Nat.reduceEqDiff, Nat.reduceAdd, Nat.reduceLeDiff, Int.reduceEq, Int.reduceLT, Int.reduceLE, Int.reduceAdd, Int.reduceSub, Int.reduceMul, Int.reduceNeg, Int.reduceToNat, Nat.reduceMul], by simp only [f13, go_sem, Nat.reduceEqDiff, Nat.reduceAdd, Nat.reduceLeDiff, Int.reduceEq, Int.reduceLT, Int.reduceLE, Int.reduceAdd, Int.reduceSub, Int.reduceMul, Int.reduceNeg, Int.reduceToNat, Nat.reduceMul], by simp only [f14, go_sem, Nat.reduceEqDiff, Nat.reduceAdd, Nat.reduceLeDiff, Int.reduceEq, Int.reduceLT, Int.reduceLE, Int.reduceAdd, Int.reduceSub, Int.reduceMul, Int.reduceNeg, Int.reduceToNat, Nat.reduceMul], by simp only [go_sem, Nat.reduceEqDiff, Nat.reduceAdd, Nat.reduceLeDiff, Int.reduceEq, Int.reduceLT, Int.reduceLE, Int.reduceAdd, Int.reduceSub, Int.reduceMul, Int.reduceNeg, Int.reduceToNat, Nat.reduceMul] <;> rfl, st4, by omega, g5⟩
  · have hie : i = l.length := by omega
    subst hie
    have hw : (List.range l.length).map (fun i => wS (xb l) z i l.length) ++ zb (l.length - l.length) = wL l z := by simp [wL, zb]
    rw [hw] at g5
    have ho : Own H.next H' 1 (.slice (some ⟨H.next, 0, none⟩) l.length l.length) l.length (bc (wL l z)) := .inr ⟨H.next, rfl, g5, by rw [bc_len, wL_len]; omega, Nat.le_refl _, h0⟩
    simp only [f0, f1, f5, f13, f14, f15, hlt, go_sem, Nat.reduceEqDiff, Nat.reduceAdd, Nat.reduceLeDiff, Int.reduceEq, Int.reduceLT, Int.reduceLE, Int.reduceAdd, Int.reduceSub, Int.reduceMul, Int.reduceNeg, Int.reduceToNat, Nat.reduceMul]
    rw [back_own ho (Nat.le_refl _) st.low (bc_p1 _)]
    exact hQ
end Go.Proofs.Ytildhljhbbhmmaa.AM
namespace Go.Proofs.Ytildhljhbbhmmaa.AM
open Go
set_option linter.all false
set_option maxRecDepth 10000

theorem ldcB_two {ob : Option Blk} {off : Nat} {x y : Value} (h : ldcB ob off 2 = some [x, y]) : ldcB ob off 1 = some [x] ∧ ldcB ob (off + 1) 1 = some [y] := by
  cases ob with
  | none => simp [ldcB] at h
  | some b =>
    rw [ldcB_some] at h
    split at h
    · rename_i hle
      simp only [Option.some.injEq] at h
      have h1 : off < b.cells.length := by omega
      have h2 : off + 1 < b.cells.length := by omega
      rw [List.drop_eq_getElem_cons h1, List.drop_eq_getElem_cons h2] at h
      simp only [List.take_succ_cons, List.take_zero, List.cons.injEq, and_true] at h
      obtain ⟨e1, e2⟩ := h
      rw [ldcB_some, ldcB_some, if_pos (by omega), if_pos (by omega), take_one h1, take_one h2, e1, e2]
      exact ⟨rfl, rfl⟩
    · simp at h
/-- Element 0 is read. -/
theorem Sl.at0 {H : AH} {es n : Nat} {v : Value} {l : List Value} (h : Sl H es v n l) (hi : 0 < n) {K : Value → Prop} (hK : ∀ p : Addr, p.block < H.next → ldcB (H.get p.block) p.off es = some ((l.drop 0).take es) → K (.pointer (some p))) : (@idxSP v es (0 : Int) ⟨K⟩) :=
  h.at_ (i := 0) hi fun p h1 h2 => hK p h1 (by rwa [Nat.zero_mul] at h2)
/-- Byte j of share i. -/
def yb (l : List Sh) (j i : Nat) : UInt8 := gb (l.getD i (0, [])).2 j
theorem yb_at {l : List Sh} {i j : Nat} (h : i < l.length) : yb l j i = gb l[i].2 j := by simp [yb, h]
/-- The values of shares at a place: m of them. -/
def vL (l : List Sh) (m : Nat) (z : UInt8) : List UInt8 := (List.range m).map fun j => vS (xb l) (yb l j) l.length z l.length
theorem vL_len {l : List Sh} {m : Nat} {z : UInt8} : (vL l m z).length = m := by simp [vL]
def mixR (l : List Sh) (m : Nat) (z : UInt8) (i j : Nat) : List UInt8 := (List.range m).map fun j' => if j' < j then vS (xb l) (yb l j') l.length z (i + 1) else vS (xb l) (yb l j') l.length z i
theorem mixR_len {l : List Sh} {m : Nat} {z : UInt8} {i j : Nat} : (mixR l m z i j).length = m := by simp [mixR]
theorem mixR_gb {l : List Sh} {m : Nat} {z : UInt8} {i j : Nat} (h : j < m) : gb (mixR l m z i j) j = vS (xb l) (yb l j) l.length z i := by
  simp [gb, mixR, h]
theorem mixR_set {l : List Sh} {m : Nat} {z : UInt8} {i j : Nat} (h : j < m) : (mixR l m z i j).set j (vS (xb l) (yb l j) l.length z (i + 1)) = mixR l m z i (j + 1) := by
  refine List.ext_getElem (by simp [mixR]) fun k h1 h2 => ?_
  rw [List.getElem_set]
  simp only [mixR, List.getElem_map, List.getElem_range]
  by_cases hk : j = k
  · subst hk
    rw [if_pos rfl, if_pos (by omega)]
  · rw [if_neg hk]
    by_cases hj : k < j
    · rw [if_pos hj, if_pos (by omega)]
    · rw [if_neg hj, if_neg (by omega)]
theorem mixR_end {l : List Sh} {m : Nat} {z : UInt8} {i : Nat} : mixR l m z i m = mixR l m z (i + 1) 0 := by
  refine List.ext_getElem (by simp [mixR]) fun k h1 h2 => ?_
  simp only [mixR, List.getElem_map, List.getElem_range]
  rw [mixR_len] at h1
  rw [if_pos h1, if_neg (by omega)]
theorem mixR_start {l : List Sh} {m : Nat} {z : UInt8} : mixR l m z 0 0 = zb m := by
  refine List.ext_getElem (by simp [mixR, zb]) fun k h1 h2 => ?_
  simp only [mixR, List.getElem_map, List.getElem_range, zb, List.getElem_replicate]
  rw [if_neg (by omega)]
  rfl
theorem mixR_all {l : List Sh} {m : Nat} {z : UInt8} : mixR l m z l.length 0 = vL l m z := by
  refine List.ext_getElem (by simp [mixR, vL]) fun k h1 h2 => ?_
  simp only [mixR, vL, List.getElem_map, List.getElem_range]
  rw [if_neg (by omega)]
theorem wL_gb {l : List Sh} {z : UInt8} {i : Nat} (h : i < l.length) : gb (wL l z) i = wS (xb l) z i l.length := by
  simp [gb, wL, h]
variable {tbl : Tbl} [hT : TMono tbl]
theorem v70 (h73 : tbl 73 = some (.code m73)) (h117 : tbl 117 = some (.code m117)) (h100 : tbl 100 = some (.code m100)) (h70 : tbl 70 = some (.code m70)) (l : List Sh) (hg : ∀ i (h : i < l.length), 0 ≤ l[i].1 ∧ l[i].1 ≤ 255) (h0 : 0 < l.length) (h1 : l.length ≤ 1000) (m : Nat) (hm : ∀ i (h : i < l.length), l[i].2.length = m) (hm2 : m ≤ 1000000) {H : AH} {v : Value} (hs : Sl H 2 v l.length (shc l)) (z : UInt8) :
    Val tbl 70 [v, .int .u8 (z.toNat : Int)] H (.string (tx (vL l m z))) H := by
  refine Val.of_all fun Q hQ => ?_
  obtain ⟨ad, cp, hv⟩ := hs.shape
  subst hv
  rw [rn_fun h70, k70]
  have hsE : Sl H.enter 2 (.slice ad l.length cp) l.length (shc l) := hs
  have hw := v100 h73 h117 h100 l hg h0 h1 hsE z
  rw [mkS_pos h0, mkH_pos h0] at hw
  have hu : (⟨bc (wL l z), 1, false⟩ : Blk) = u8r (wL l z) := rfl
  rw [hu] at hw
  have st1 := (Junk.enter H).push (u8r (wL l z))
  have gw := AH.get_push_eq H.enter (u8r (wL l z))
  have hn1 : (H.enter.push (u8r (wL l z))).next = H.next + 1 := by rw [AH.next_push, nx_enter]
  rw [nx_enter] at hw gw
  simp only [↓hw.run, go_sem, Nat.reduceEqDiff, Nat.reduceAdd, Nat.reduceLeDiff, Int.reduceEq, Int.reduceLT, Int.reduceLE, Int.reduceAdd, Int.reduceSub, Int.reduceMul, Int.reduceNeg, Int.reduceToNat, Nat.reduceMul]
  generalize H.enter.push (u8r (wL l z)) = H1 at st1 gw hn1 ⊢
  have c0 : (0 : Int) ≤ m := by omega
  have c1 : (m : Int) ≤ 9223372036854775807 := by omega
  have c2 : m ≤ 140737488355328 := by omega
  refine (hs.keep st1.old).at0 h0 fun q hq1 hq2 => ?_
  have hq3 := shc_at l 0 h0
  rw [Nat.zero_mul] at hq3
  rw [hq3] at hq2
  obtain ⟨_, hq4⟩ := ldcB_two hq2
  have hm0 := hm 0 h0
  simp only [hq4, tx_size, hm0, addA, Int.toNat_natCast, rep_zb, c0, c1, c2, Int.le_refl, go_sem, Nat.reduceEqDiff, Nat.reduceAdd, Nat.reduceLeDiff, Int.reduceEq, Int.reduceLT, Int.reduceLE, Int.reduceAdd, Int.reduceSub, Int.reduceMul, Int.reduceNeg, Int.reduceToNat, Nat.reduceMul]
  refine rn_loop (fun mm f H' => ∃ i : Nat, i ≤ l.length ∧ mm = l.length - i ∧ f 5 = .slice (some ⟨H.next, 0, none⟩) l.length l.length ∧ f 6 = .slice (some ⟨H.next + 1, 0, none⟩) m m ∧ f 19 = .slice ad l.length cp ∧ f 20 = .int .i64 l.length ∧ f 21 = .int .i64 i ∧ Junk H H' ∧ H.next + 1 < H'.next ∧ H'.get H.next = some (u8r (wL l z)) ∧ H'.get (H.next + 1) = some (u8r (mixR l m z i 0))) ?_ (n := l.length)
    ⟨0, by omega, rfl, by simp only [go_sem, Nat.reduceEqDiff, Nat.reduceAdd, Nat.reduceLeDiff, Int.reduceEq, Int.reduceLT, Int.reduceLE, Int.reduceAdd, Int.reduceSub, Int.reduceMul, Int.reduceNeg, Int.reduceToNat, Nat.reduceMul], by simp only [hn1, go_sem, Nat.reduceEqDiff, Nat.reduceAdd, Nat.reduceLeDiff, Int.reduceEq, Int.reduceLT, Int.reduceLE, Int.reduceAdd, Int.reduceSub, Int.reduceMul, Int.reduceNeg, Int.reduceToNat, Nat.reduceMul], by simp only [go_sem, Nat.reduceEqDiff, Nat.reduceAdd, Nat.reduceLeDiff, Int.reduceEq, Int.reduceLT, Int.reduceLE, Int.reduceAdd, Int.reduceSub, Int.reduceMul, Int.reduceNeg, Int.reduceToNat, Nat.reduceMul], by simp only [go_sem, Nat.reduceEqDiff, Nat.reduceAdd, Nat.reduceLeDiff, Int.reduceEq, Int.reduceLT, Int.reduceLE, Int.reduceAdd, Int.reduceSub, Int.reduceMul, Int.reduceNeg, Int.reduceToNat, Nat.reduceMul], by simp only [go_sem, Nat.reduceEqDiff, Nat.reduceAdd, Nat.reduceLeDiff, Int.reduceEq, Int.reduceLT, Int.reduceLE, Int.reduceAdd, Int.reduceSub, Int.reduceMul, Int.reduceNeg, Int.reduceToNat, Nat.reduceMul] <;> rfl, st1.push _, by rw [AH.next_push]; omega, (AH.get_push_lt H1 _ (by omega)).trans gw, by rw [← hn1, mixR_start]; exact AH.get_push_eq H1 _⟩
  rintro mm f H' ⟨i, hi, rfl, f5, f6, f19, f20, f21, st, n1, g5, g6⟩
  by_cases hlt : (i : Int) < l.length
  · have hi2 : i < l.length := by omega
    have i0 : (0 : Int) ≤ i := by omega
    have hi3 : i + 1 ≤ l.length := by omega
    have hp2 : H'.next < H'.next + 1 := by omega
    have wi := w64 (x := (i : Int) + 1) (by omega) (by omega)
    simp only [f5, f6, f19, f20, f21, hlt, go_sem, Nat.reduceEqDiff, Nat.reduceAdd, Nat.reduceLeDiff, Int.reduceEq, Int.reduceLT, Int.reduceLE, Int.reduceAdd, Int.reduceSub, Int.reduceMul, Int.reduceNeg, Int.reduceToNat, Nat.reduceMul]
    refine (hs.keep st.old).at_ hi2 fun q hq1 hq2 => ?_
    rw [shc_at _ _ hi2] at hq2
    simp only [f5, f6, f19, f20, f21, hlt, hq2, hp2, stc_eq, stB_some, go_sem, Nat.reduceEqDiff, Nat.reduceAdd, Nat.reduceLeDiff, Int.reduceEq, Int.reduceLT, Int.reduceLE, Int.reduceAdd, Int.reduceSub, Int.reduceMul, Int.reduceNeg, Int.reduceToNat, Nat.reduceMul]
    have st2 := (st.push ⟨[.int .i64 0, .string ⟨#[]⟩], 1, false⟩).set st.nx (some ⟨[.int .i64 l[i].1, .string (tx l[i].2)], 1, false⟩)
    have g8 := ps_get (H' := H') (b := ⟨[.int .i64 0, .string ⟨#[]⟩], 1, false⟩) (c := ⟨[.int .i64 l[i].1, .string (tx l[i].2)], 1, false⟩)
    have g5b := (ps_old (H' := H') (b := ⟨[.int .i64 0, .string ⟨#[]⟩], 1, false⟩) (c := ⟨[.int .i64 l[i].1, .string (tx l[i].2)], 1, false⟩) (by omega)).trans g5
    have g6b := (ps_old (H' := H') (b := ⟨[.int .i64 0, .string ⟨#[]⟩], 1, false⟩) (c := ⟨[.int .i64 l[i].1, .string (tx l[i].2)], 1, false⟩) n1).trans g6
    have n2 := ps_next (H' := H') (b := ⟨[.int .i64 0, .string ⟨#[]⟩], 1, false⟩) (c := ⟨[.int .i64 l[i].1, .string (tx l[i].2)], 1, false⟩)
    generalize (H'.push ⟨[.int .i64 0, .string ⟨#[]⟩], 1, false⟩).set H'.next (some ⟨[.int .i64 l[i].1, .string (tx l[i].2)], 1, false⟩) = H2 at st2 g8 g5b g6b n2 ⊢
    refine rn_loop (fun mm f H4 => ∃ j : Nat, j ≤ m ∧ mm = m - j ∧ f 5 = .slice (some ⟨H.next, 0, none⟩) l.length l.length ∧ f 6 = .slice (some ⟨H.next + 1, 0, none⟩) m m ∧ f 19 = .slice ad l.length cp ∧ f 20 = .int .i64 l.length ∧ f 21 = .int .i64 i ∧ f 7 = .int .i64 i ∧ f 8 = .pointer (some ⟨H'.next, 0, none⟩) ∧ f 27 = .int .i64 m ∧ f 28 = .int .i64 j ∧ Junk H H4 ∧ H'.next < H4.next ∧ H4.get H.next = some (u8r (wL l z)) ∧ H4.get (H.next + 1) = some (u8r (mixR l m z i j)) ∧ H4.get H'.next = some ⟨[.int .i64 l[i].1, .string (tx l[i].2)], 1, false⟩) ?_ (n := m)
      ⟨0, by omega, rfl, by simp only [f5, go_sem, Nat.reduceEqDiff, Nat.reduceAdd, Nat.reduceLeDiff, Int.reduceEq, Int.reduceLT, Int.reduceLE, Int.reduceAdd, Int.reduceSub, Int.reduceMul, Int.reduceNeg, Int.reduceToNat, Nat.reduceMul], by simp only [f6, go_sem, Nat.reduceEqDiff, Nat.reduceAdd, Nat.reduceLeDiff, Int.reduceEq, Int.reduceLT, Int.reduceLE, Int.reduceAdd, Int.reduceSub, Int.reduceMul, Int.reduceNeg, Int.reduceToNat, Nat.reduceMul], by simp only [f19, go_sem, Nat.reduceEqDiff, Nat.reduceAdd, Nat.reduceLeDiff, Int.reduceEq, Int.reduceLT, Int.reduceLE, Int.reduceAdd, Int.reduceSub, Int.reduceMul, Int.reduceNeg, Int.reduceToNat, Nat.reduceMul], by simp only [f20, go_sem, Nat.reduceEqDiff, Nat.reduceAdd, Nat.reduceLeDiff, Int.reduceEq, Int.reduceLT, Int.reduceLE, Int.reduceAdd, Int.reduceSub, Int.reduceMul, Int.reduceNeg, Int.reduceToNat, Nat.reduceMul], by simp only [f21, go_sem, Nat.reduceEqDiff, Nat.reduceAdd, Nat.reduceLeDiff, Int.reduceEq, Int.reduceLT, Int.reduceLE, Int.reduceAdd, Int.reduceSub, Int.reduceMul, Int.reduceNeg, Int.reduceToNat, Nat.reduceMul], by simp only [go_sem, Nat.reduceEqDiff, Nat.reduceAdd, Nat.reduceLeDiff, Int.reduceEq, Int.reduceLT, Int.reduceLE, Int.reduceAdd, Int.reduceSub, Int.reduceMul, Int.reduceNeg, Int.reduceToNat, Nat.reduceMul], by simp only [go_sem, Nat.reduceEqDiff, Nat.reduceAdd, Nat.reduceLeDiff, Int.reduceEq, Int.reduceLT, Int.reduceLE, Int.reduceAdd, Int.reduceSub, Int.reduceMul, Int.reduceNeg, Int.reduceToNat, Nat.reduceMul], by simp only [go_sem, Nat.reduceEqDiff, Nat.reduceAdd, Nat.reduceLeDiff, Int.reduceEq, Int.reduceLT, Int.reduceLE, Int.reduceAdd, Int.reduceSub, Int.reduceMul, Int.reduceNeg, Int.reduceToNat, Nat.reduceMul], by simp only [go_sem, Nat.reduceEqDiff, Nat.reduceAdd, Nat.reduceLeDiff, Int.reduceEq, Int.reduceLT, Int.reduceLE, Int.reduceAdd, Int.reduceSub, Int.reduceMul, Int.reduceNeg, Int.reduceToNat, Nat.reduceMul] <;> rfl, st2, by omega, g5b, g6b, g8⟩
    clear f5 f6 f19 f20 f21 g5b g6b g8 st2 n2 hq2 g5 g6 gw hq4
    rintro mm f H4 ⟨j, hj, rfl, f5, f6, f19, f20, f21, f7, f8, f27, f28, st4, n4, g5, g6, g8⟩
    by_cases hltj : (j : Int) < m
    · have hj2 : j < m := by omega
      have j0 : (0 : Int) ≤ j := by omega
      have hj3 : j + 1 ≤ m := by omega
      have wj := w64 (x := (j : Int) + 1) (by omega) (by omega)
      have hvs : vS (xb l) (yb l j) l.length z (i + 1) = vS (xb l) (yb l j) l.length z i ^^^ gM (wS (xb l) z i l.length) (gb l[i].2 j) := by rw [← yb_at hi2]; rfl
      have hat1 := u8r_at (l := mixR l m z i j) (i := j) (by rw [mixR_len]; omega)
      rw [mixR_gb hj2] at hat1
      have hat2 := u8r_at (l := wL l z) (i := i) (by rw [wL_len]; omega)
      rw [wL_gb hi2] at hat2
      have hrow := mixR_set (l := l) (z := z) (i := i) hj2
      have hmi := hm i hi2
      simp only [f5, f6, f19, f20, f21, f7, f8, f27, f28, hltj, i0, j0, hi3, hj3, hlt, wj, g5, g6, g8, hat1, hat2, hmi, tx_size, byteAt_tx, xor8, ↓(v73 h73 _ _ _).run, idxSP_slc, Int.toNat_natCast, u8r_len, u8r_ro, u8r_es, mixR_len, wL_len, addA, Nat.zero_add, Nat.add_zero, Nat.mul_one, stc_eq, stB_some, splice_one, ← hvs, relow', u8r_set, hrow, go_sem, Nat.reduceEqDiff, Nat.reduceAdd, Nat.reduceLeDiff, Int.reduceEq, Int.reduceLT, Int.reduceLE, Int.reduceAdd, Int.reduceSub, Int.reduceMul, Int.reduceNeg, Int.reduceToNat, Nat.reduceMul]
      exact ⟨m - (j + 1), by omega, j + 1, by omega, rfl, by simp only [f5, go_sem, Nat.reduceEqDiff, Nat.reduceAdd, Nat.reduceLeDiff, Int.reduceEq, Int.reduceLT, Int.reduceLE, Int.reduceAdd, Int.reduceSub, Int.reduceMul, Int.reduceNeg, Int.reduceToNat, Nat.reduceMul], by simp only [f6, go_sem, Nat.reduceEqDiff, Nat.reduceAdd, Nat.reduceLeDiff, Int.reduceEq, Int.reduceLT, Int.reduceLE, Int.reduceAdd, Int.reduceSub, Int.reduceMul, Int.reduceNeg, Int.reduceToNat, Nat.reduceMul], by simp only [f19, go_sem, Nat.reduceEqDiff, Nat.reduceAdd, Nat.reduceLeDiff, Int.reduceEq, Int.reduceLT, Int.reduceLE, Int.reduceAdd, Int.reduceSub, Int.reduceMul, Int.reduceNeg, Int.reduceToNat, Nat.reduceMul], by simp only [f20, go_sem, Nat.reduceEqDiff, Nat.reduceAdd, Nat.reduceLeDiff, Int.reduceEq, Int.reduceLT, Int.reduceLE, Int.reduceAdd, Int.reduceSub, Int.reduceMul, Int.reduceNeg, Int.reduceToNat, Nat.reduceMul], by simp only [f21, go_sem, Nat.reduceEqDiff, Nat.reduceAdd, Nat.reduceLeDiff, Int.reduceEq, Int.reduceLT, Int.reduceLE, Int.reduceAdd, Int.reduceSub, Int.reduceMul, Int.reduceNeg, Int.reduceToNat, Nat.reduceMul], by simp only [f7, go_sem, Nat.reduceEqDiff, Nat.reduceAdd, Nat.reduceLeDiff, Int.reduceEq, Int.reduceLT, Int.reduceLE, Int.reduceAdd, Int.reduceSub, Int.reduceMul, Int.reduceNeg, Int.reduceToNat, Nat.reduceMul], by simp only [f8, go_sem, Nat.reduceEqDiff, Nat.reduceAdd, Nat.reduceLeDiff, Int.reduceEq, Int.reduceLT, Int.reduceLE, Int.reduceAdd, Int.reduceSub, Int.reduceMul, Int.reduceNeg, Int.reduceToNat, Nat.reduceMul], by simp only [f27, go_sem, Nat.reduceEqDiff, Nat.reduceAdd, Nat.reduceLeDiff, Int.reduceEq, Int.reduceLT, Int.reduceLE, Int.reduceAdd, Int.reduceSub, Int.reduceMul, Int.reduceNeg, Int.reduceToNat, Nat.reduceMul], by simp only [go_sem, Nat.reduceEqDiff, Nat.reduceAdd, Nat.reduceLeDiff, Int.reduceEq, Int.reduceLT, Int.reduceLE, Int.reduceAdd, Int.reduceSub, Int.reduceMul, Int.reduceNeg, Int.reduceToNat, Nat.reduceMul] <;> rfl, st4.set (by omega) _, by rw [AH.next_set]; omega, (AH.get_set_ne H4 _ (by omega)).trans g5, AH.get_set_eq H4 _ (by omega), (AH.get_set_ne H4 _ (by omega)).trans g8⟩
    · have hje : j = m := by omega
      subst hje
      rw [mixR_end] at g6
      simp only [f5, f6, f19, f20, f21, f7, f8, f27, f28, hltj, wi, go_sem, Nat.reduceEqDiff, Nat.reduceAdd, Nat.reduceLeDiff, Int.reduceEq, Int.reduceLT, Int.reduceLE, Int.reduceAdd, Int.reduceSub, Int.reduceMul, Int.reduceNeg, Int.reduceToNat, Nat.reduceMul]
      exact ⟨l.length - (i + 1), by omega, i + 1, by omega, rfl, by simp only [f5, go_sem, Nat.reduceEqDiff, Nat.reduceAdd, Nat.reduceLeDiff, Int.reduceEq, Int.reduceLT, Int.reduceLE, Int.reduceAdd, Int.reduceSub, Int.reduceMul, Int.reduceNeg, Int.reduceToNat, Nat.reduceMul], by simp only [f6, go_sem, Nat.reduceEqDiff, Nat.reduceAdd, Nat.reduceLeDiff, Int.reduceEq, Int.reduceLT, Int.reduceLE, Int.reduceAdd, Int.reduceSub, Int.reduceMul, Int.reduceNeg, Int.reduceToNat, Nat.reduceMul], by simp only [f19, go_sem, Nat.reduceEqDiff, Nat.reduceAdd, Nat.reduceLeDiff, Int.reduceEq, Int.reduceLT, Int.reduceLE, Int.reduceAdd, Int.reduceSub, Int.reduceMul, Int.reduceNeg, Int.reduceToNat, Nat.reduceMul], by simp only [f20, go_sem, Nat.reduceEqDiff, Nat.reduceAdd, Nat.reduceLeDiff, Int.reduceEq, Int.reduceLT, Int.reduceLE, Int.reduceAdd, Int.reduceSub, Int.reduceMul, Int.reduceNeg, Int.reduceToNat, Nat.reduceMul], by simp only [go_sem, Nat.reduceEqDiff, Nat.reduceAdd, Nat.reduceLeDiff, Int.reduceEq, Int.reduceLT, Int.reduceLE, Int.reduceAdd, Int.reduceSub, Int.reduceMul, Int.reduceNeg, Int.reduceToNat, Nat.reduceMul] <;> rfl, st4, by omega, g5, g6⟩
  · have hie : i = l.length := by omega
    subst hie
    rw [mixR_all] at g6
    have hsb := slcBytes_row (n := m) (c := m) g6 vL_len.symm
    have hnl : ¬ H'.low < H.next := by
      have := st.low
      omega
    simp only [f5, f6, f19, f20, f21, hlt, hsb, hnl, go_sem, Nat.reduceEqDiff, Nat.reduceAdd, Nat.reduceLeDiff, Int.reduceEq, Int.reduceLT, Int.reduceLE, Int.reduceAdd, Int.reduceSub, Int.reduceMul, Int.reduceNeg, Int.reduceToNat, Nat.reduceMul]
    exact hQ
end Go.Proofs.Ytildhljhbbhmmaa.AM
