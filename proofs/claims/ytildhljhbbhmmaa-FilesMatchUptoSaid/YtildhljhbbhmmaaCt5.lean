/- Part 5 of the texts that this claim needs. No conditions. -/
import Derived.Test.YtildhljhbbhmmaaProg
import Derived.KernelRfl
import Derived.WalkKit
import Derived.BigCall
import Derived.Deep.RegionWith
import Derived.Deep.RegionHeld3
import Derived.Deep.LoopGhost
import Derived.Deep.DeepFit
import Derived.Test.YtildhljhbbhmmaaCt4
namespace Go.Proofs.Ytildhljhbbhmmaa.AM
open Go
set_option linter.all false
set_option maxRecDepth 10000

theorem or_add (n p : Nat) (hp : p = 2 ^ n) {x y : Int} (h0 : 0 ≤ x) (h1 : x < (p : Int)) (y0 : 0 ≤ y) (hy : y % (p : Int) = 0) (hx : x + y < 18446744073709551616) : bitsK .or .u64 x y = x + y := by
  obtain ⟨a, rfl⟩ : ∃ a : Nat, x = a := ⟨x.toNat, by omega⟩
  obtain ⟨b, rfl⟩ : ∃ b : Nat, y = b := ⟨y.toNat, by omega⟩
  have hb : b % p = 0 := by
    have : ((b % p : Nat) : Int) = 0 := by rw [Int.natCast_emod]; exact hy
    omega
  have e : b = 2 ^ n * (b / p) := by
    have := Nat.div_add_mod b p
    rw [← hp]
    omega
  rw [or64 a b (by omega) (by omega)]
  have h := Nat.two_pow_add_eq_or_of_lt (i := n) (b := a) (by rw [← hp]; omega) (b / p)
  rw [← e] at h
  rw [Nat.or_comm, ← h]
  omega
theorem and28 {x : Int} (h : 0 ≤ x ∧ x < 4294967296) : bitsK .and .u64 x 268435455 = x % 268435456 := by
  obtain ⟨n, rfl⟩ : ∃ n : Nat, x = n := ⟨x.toNat, by omega⟩
  have e := and64 n 268435455 (by omega) (by omega)
  rw [show ((268435455 : Nat) : Int) = 268435455 from rfl] at e
  rw [e, show (268435455 : Nat) = 2 ^ 28 - 1 from rfl, Nat.and_two_pow_sub_one_eq_mod]
  rfl
theorem and28b {x : Int} (h : 0 ≤ x ∧ x < 4294967296) : bitsK .and .u64 x 268435452 = x % 268435456 / 4 * 4 := by
  obtain ⟨n, rfl⟩ : ∃ n : Nat, x = n := ⟨x.toNat, by omega⟩
  have e := and64 n 268435452 (by omega) (by omega)
  rw [show ((268435452 : Nat) : Int) = 268435452 from rfl] at e
  rw [e]
  have h1 : (n &&& 268435452) / 4 = n / 4 % 67108864 := by
    have := Nat.shiftRight_and_distrib (a := n) (b := 268435452) (i := 2)
    rw [Nat.shiftRight_eq_div_pow, Nat.shiftRight_eq_div_pow, Nat.shiftRight_eq_div_pow, show (268435452 : Nat) / 2 ^ 2 = 2 ^ 26 - 1 from rfl, Nat.and_two_pow_sub_one_eq_mod] at this
    exact this
  have h2 : (n &&& 268435452) % 4 = 0 := by
    have := Nat.and_mod_two_pow (a := n) (b := 268435452) (n := 2)
    rw [show (268435452 : Nat) % 2 ^ 2 = 0 from rfl, Nat.and_zero] at this
    exact this
  omega
theorem shl64 {x : Int} {j : Nat} (hj : j ≤ 64) : shiftK .shl .u64 x (j : Int) = (x * 2 ^ j) % 18446744073709551616 := by
  simp only [shiftK, Int.toNat_natCast]
  rw [show IntKind.u64.bits = 64 from rfl, show Nat.min j 64 = j from Nat.min_eq_left hj, u64wrap]
/-! ### The number to multiply by -/
theorem word_val {l : List UInt8} {i : Nat} : wordAt (tx l) i = ((gb l i).toNat : Int) + 256 * (gb l (i + 1)).toNat + 65536 * (gb l (i + 2)).toNat + 16777216 * (gb l (i + 3)).toNat := by
  rw [wordAt_tx]
  unfold le4
  omega
theorem lv_limbs_words {A B C D : Int} (ha : 0 ≤ A ∧ A < 268435456) (hb : 0 ≤ B ∧ B < 268435456) (hc : 0 ≤ C ∧ C < 268435456) (hd : 0 ≤ D ∧ D < 268435456) :
    [bitsK .and .u64 A 67108863, bitsK .and .u64 (bitsK .or .u64 (shiftK .shr .u64 A 26) (shiftK .shl .u64 B 6)) 67108863,
      bitsK .and .u64 (bitsK .or .u64 (shiftK .shr .u64 B 20) (shiftK .shl .u64 C 12)) 67108863,
      bitsK .and .u64 (bitsK .or .u64 (shiftK .shr .u64 C 14) (shiftK .shl .u64 D 18)) 67108863, shiftK .shr .u64 D 8] =
    [A % 67108864, (A / 67108864 + B * 64) % 67108864, (B / 1048576 + C * 4096) % 67108864, (C / 16384 + D * 262144) % 67108864, D / 256] := by
  have s1 := shr64 (x := A) (j := 26) (by omega)
  have s2 := shr64 (x := B) (j := 20) (by omega)
  have s3 := shr64 (x := C) (j := 14) (by omega)
  have s4 := shr64 (x := D) (j := 8) (by omega)
  have t1 := shl64 (x := B) (j := 6) (by omega)
  have t2 := shl64 (x := C) (j := 12) (by omega)
  have t3 := shl64 (x := D) (j := 18) (by omega)
  rw [show ((26 : Nat) : Int) = 26 from rfl, show (2 : Int) ^ 26 = 67108864 from rfl] at s1
  rw [show ((20 : Nat) : Int) = 20 from rfl, show (2 : Int) ^ 20 = 1048576 from rfl] at s2
  rw [show ((14 : Nat) : Int) = 14 from rfl, show (2 : Int) ^ 14 = 16384 from rfl] at s3
  rw [show ((8 : Nat) : Int) = 8 from rfl, show (2 : Int) ^ 8 = 256 from rfl] at s4
  rw [show ((6 : Nat) : Int) = 6 from rfl, show (2 : Int) ^ 6 = 64 from rfl] at t1
  rw [show ((12 : Nat) : Int) = 12 from rfl, show (2 : Int) ^ 12 = 4096 from rfl] at t2
  rw [show ((18 : Nat) : Int) = 18 from rfl, show (2 : Int) ^ 18 = 262144 from rfl] at t3
  rw [s1, s2, s3, s4, t1, t2, t3, Int.emod_eq_of_lt (a := B * 64) (by omega) (by omega), Int.emod_eq_of_lt (a := C * 4096) (by omega) (by omega), Int.emod_eq_of_lt (a := D * 262144) (by omega) (by omega)]
  rw [or_add 6 64 rfl (x := A / 67108864) (y := B * 64) (by omega) (by omega) (by omega) (by omega) (by omega)]
  rw [or_add 12 4096 rfl (x := B / 1048576) (y := C * 4096) (by omega) (by omega) (by omega) (by omega) (by omega)]
  rw [or_add 18 262144 rfl (x := C / 16384) (y := D * 262144) (by omega) (by omega) (by omega) (by omega) (by omega)]
  rw [mask26 (x := A) (by omega), mask26 (by omega), mask26 (by omega), mask26 (by omega)]
theorem lv_words {A B C D : Int} (ha : 0 ≤ A ∧ A < 268435456) (hb : 0 ≤ B ∧ B < 268435456) (hc : 0 ≤ C ∧ C < 268435456) (hd : 0 ≤ D ∧ D < 268435456) :
    lv [A % 67108864, (A / 67108864 + B * 64) % 67108864, (B / 1048576 + C * 4096) % 67108864, (C / 16384 + D * 262144) % 67108864, D / 256] = A + 4294967296 * B + 18446744073709551616 * C + 79228162514264337593543950336 * D := by
  rw [lv5]
  omega
def by_ (k : List UInt8) (i : Nat) : Int := (gb k i).toNat
theorem by_range {k : List UInt8} {i : Nat} : 0 ≤ by_ k i ∧ by_ k i < 256 := by
  have := UInt8.toNat_lt (gb k i)
  unfold by_
  omega
theorem dgs_take {k : List UInt8} {n : Nat} (h : n ≤ k.length) : dgs (k.take n) = (List.range n).map (by_ k) := by
  apply List.ext_getElem
  · simp [dgs]; omega
  · intro i h1 h2
    simp only [List.length_map, List.length_range] at h2
    have hi : i < k.length := by omega
    simp [dgs, by_, gb, hi]
theorem rdig_eq {k : List UInt8} (h : 16 ≤ k.length) : rdig k = [by_ k 0, by_ k 1, by_ k 2, by_ k 3 % 16, by_ k 4 / 4 * 4, by_ k 5, by_ k 6, by_ k 7 % 16, by_ k 8 / 4 * 4, by_ k 9, by_ k 10, by_ k 11 % 16, by_ k 12 / 4 * 4, by_ k 13, by_ k 14, by_ k 15 % 16] := by
  unfold rdig
  rw [dgs_take h]
  rfl
theorem limbs_lv {k : List UInt8} (h : 16 ≤ k.length) : Tight (limbs k) ∧ lv (limbs k) = val (rdig k) := by
  have r0 := wordAt_range (tx k) 0
  have r4 := wordAt_range (tx k) 4
  have r8 := wordAt_range (tx k) 8
  have r12 := wordAt_range (tx k) 12
  have e0 : c0E k = wordAt (tx k) 0 % 268435456 := and28 r0
  have e4 : c1E k 4 = wordAt (tx k) 4 % 268435456 / 4 * 4 := and28b r4
  have e8 : c1E k 8 = wordAt (tx k) 8 % 268435456 / 4 * 4 := and28b r8
  have e12 : c1E k 12 = wordAt (tx k) 12 % 268435456 / 4 * 4 := and28b r12
  have b0 : 0 ≤ c0E k ∧ c0E k < 268435456 := by omega
  have b4 : 0 ≤ c1E k 4 ∧ c1E k 4 < 268435456 := by omega
  have b8 : 0 ≤ c1E k 8 ∧ c1E k 8 < 268435456 := by omega
  have b12 : 0 ≤ c1E k 12 ∧ c1E k 12 < 268435456 := by omega
  have hl : limbs k = _ := lv_limbs_words b0 b4 b8 b12
  rw [hl]
  refine ⟨⟨rfl, fun i hi => ?_⟩, ?_⟩
  · match i, hi with
    | 0, _ => show 0 ≤ c0E k % 67108864 ∧ c0E k % 67108864 < 67108864; omega
    | 1, _ => show 0 ≤ (c0E k / 67108864 + c1E k 4 * 64) % 67108864 ∧ (c0E k / 67108864 + c1E k 4 * 64) % 67108864 < 67108864; omega
    | 2, _ => show 0 ≤ (c1E k 4 / 1048576 + c1E k 8 * 4096) % 67108864 ∧ (c1E k 4 / 1048576 + c1E k 8 * 4096) % 67108864 < 67108864; omega
    | 3, _ => show 0 ≤ (c1E k 8 / 16384 + c1E k 12 * 262144) % 67108864 ∧ (c1E k 8 / 16384 + c1E k 12 * 262144) % 67108864 < 67108864; omega
    | 4, _ => show 0 ≤ c1E k 12 / 256 ∧ c1E k 12 / 256 < 67108864; omega
  · rw [lv_words b0 b4 b8 b12, rdig_eq h, e0, e4, e8, e12, word_val, word_val, word_val, word_val]
    have q := fun i => by_range (k := k) (i := i)
    simp only [← by_.eq_def] at *
    show (by_ k 0 + 256 * by_ k 1 + 65536 * by_ k 2 + 16777216 * by_ k 3) % 268435456 + 4294967296 * ((by_ k 4 + 256 * by_ k 5 + 65536 * by_ k 6 + 16777216 * by_ k 7) % 268435456 / 4 * 4) + 18446744073709551616 * ((by_ k 8 + 256 * by_ k 9 + 65536 * by_ k 10 + 16777216 * by_ k 11) % 268435456 / 4 * 4) + 79228162514264337593543950336 * ((by_ k 12 + 256 * by_ k 13 + 65536 * by_ k 14 + 16777216 * by_ k 15) % 268435456 / 4 * 4) = _
    have w0 : (by_ k 0 + 256 * by_ k 1 + 65536 * by_ k 2 + 16777216 * by_ k 3) % 268435456 = by_ k 0 + 256 * by_ k 1 + 65536 * by_ k 2 + 16777216 * (by_ k 3 % 16) := by
      have := q 0; have := q 1; have := q 2; have := q 3; omega
    have w4 : (by_ k 4 + 256 * by_ k 5 + 65536 * by_ k 6 + 16777216 * by_ k 7) % 268435456 / 4 * 4 = by_ k 4 / 4 * 4 + 256 * by_ k 5 + 65536 * by_ k 6 + 16777216 * (by_ k 7 % 16) := by
      have := q 4; have := q 5; have := q 6; have := q 7; omega
    have w8 : (by_ k 8 + 256 * by_ k 9 + 65536 * by_ k 10 + 16777216 * by_ k 11) % 268435456 / 4 * 4 = by_ k 8 / 4 * 4 + 256 * by_ k 9 + 65536 * by_ k 10 + 16777216 * (by_ k 11 % 16) := by
      have := q 8; have := q 9; have := q 10; have := q 11; omega
    have w12 : (by_ k 12 + 256 * by_ k 13 + 65536 * by_ k 14 + 16777216 * by_ k 15) % 268435456 / 4 * 4 = by_ k 12 / 4 * 4 + 256 * by_ k 13 + 65536 * by_ k 14 + 16777216 * (by_ k 15 % 16) := by
      have := q 12; have := q 13; have := q 14; have := q 15; omega
    rw [w0, w4, w8, w12]
    simp only [val]
    omega
end Go.Proofs.Ytildhljhbbhmmaa.AM
namespace Go.Proofs.Ytildhljhbbhmmaa.AM
open Go
set_option linter.all false
set_option maxRecDepth 10000

theorem word_by {l : List UInt8} {i : Nat} : wordAt (tx l) i = by_ l i + 256 * by_ l (i + 1) + 65536 * by_ l (i + 2) + 16777216 * by_ l (i + 3) := word_val
/-- A part of a message, in limbs. -/
theorem step_limbs {p : List UInt8} :
    bitsK .and .u64 (wordAt (tx p) 0) 67108863 = by_ p 0 + 256 * by_ p 1 + 65536 * by_ p 2 + 16777216 * (by_ p 3 % 4) ∧
    bitsK .and .u64 (shiftK .shr .u64 (wordAt (tx p) 3) 2) 67108863 = by_ p 3 / 4 + 64 * by_ p 4 + 16384 * by_ p 5 + 4194304 * (by_ p 6 % 16) ∧
    bitsK .and .u64 (shiftK .shr .u64 (wordAt (tx p) 6) 4) 67108863 = by_ p 6 / 16 + 16 * by_ p 7 + 4096 * by_ p 8 + 1048576 * (by_ p 9 % 64) ∧
    bitsK .and .u64 (shiftK .shr .u64 (wordAt (tx p) 9) 6) 67108863 = by_ p 9 / 64 + 4 * by_ p 10 + 1024 * by_ p 11 + 262144 * by_ p 12 ∧
    bitsK .or .u64 (shiftK .shr .u64 (wordAt (tx p) 12) 8) (shiftK .shl .u64 ((gb p 16).toNat : Int) 24) = by_ p 13 + 256 * by_ p 14 + 65536 * by_ p 15 + 16777216 * by_ p 16 := by
  have q := fun i => by_range (k := p) (i := i)
  have r0 := wordAt_range (tx p) 0
  have r3 := wordAt_range (tx p) 3
  have r6 := wordAt_range (tx p) 6
  have r9 := wordAt_range (tx p) 9
  have r12 := wordAt_range (tx p) 12
  have s2 := shr64 (x := wordAt (tx p) 3) (j := 2) (by omega)
  have s4 := shr64 (x := wordAt (tx p) 6) (j := 4) (by omega)
  have s6 := shr64 (x := wordAt (tx p) 9) (j := 6) (by omega)
  have s8 := shr64 (x := wordAt (tx p) 12) (j := 8) (by omega)
  have t24 := shl64 (x := ((gb p 16).toNat : Int)) (j := 24) (by omega)
  rw [show ((2 : Nat) : Int) = 2 from rfl, show (2 : Int) ^ 2 = 4 from rfl] at s2
  rw [show ((4 : Nat) : Int) = 4 from rfl, show (2 : Int) ^ 4 = 16 from rfl] at s4
  rw [show ((6 : Nat) : Int) = 6 from rfl, show (2 : Int) ^ 6 = 64 from rfl] at s6
  rw [show ((8 : Nat) : Int) = 8 from rfl, show (2 : Int) ^ 8 = 256 from rfl] at s8
  rw [show ((24 : Nat) : Int) = 24 from rfl, show (2 : Int) ^ 24 = 16777216 from rfl] at t24
  have g16 : ((gb p 16).toNat : Int) = by_ p 16 := rfl
  rw [g16] at t24
  rw [s2, s4, s6, s8, g16, t24]
  refine ⟨?_, ?_, ?_, ?_, ?_⟩
  · rw [mask26 (by omega), word_by]
    have := q 0; have := q 1; have := q 2; have := q 3
    simp only [Nat.zero_add]
    omega
  · rw [mask26 (by omega), word_by]
    have := q 3; have := q 4; have := q 5; have := q 6
    simp only [Nat.reduceAdd]
    omega
  · rw [mask26 (by omega), word_by]
    have := q 6; have := q 7; have := q 8; have := q 9
    simp only [Nat.reduceAdd]
    omega
  · rw [mask26 (by omega), word_by]
    have := q 9; have := q 10; have := q 11; have := q 12
    simp only [Nat.reduceAdd]
    omega
  · have h12 := q 12
    have h13 := q 13
    have h14 := q 14
    have h15 := q 15
    have h16 := q 16
    rw [Int.emod_eq_of_lt (a := by_ p 16 * 16777216) (by omega) (by omega)]
    rw [or_add 24 16777216 rfl (x := wordAt (tx p) 12 / 256) (y := by_ p 16 * 16777216) (by omega) (by omega) (by omega) (by omega) (by omega), word_by]
    simp only [Nat.reduceAdd]
    omega
theorem val17 {p : List UInt8} (h : p.length = 17) : val (dgs p) = by_ p 0 + 256 * by_ p 1 + 65536 * by_ p 2 + 16777216 * by_ p 3 + 4294967296 * by_ p 4 + 1099511627776 * by_ p 5 + 281474976710656 * by_ p 6 + 72057594037927936 * by_ p 7 + 18446744073709551616 * by_ p 8 + 4722366482869645213696 * by_ p 9 + 1208925819614629174706176 * by_ p 10 + 309485009821345068724781056 * by_ p 11 + 79228162514264337593543950336 * by_ p 12 + 20282409603651670423947251286016 * by_ p 13 + 5192296858534827628530496329220096 * by_ p 14 + 1329227995784915872903807060280344576 * by_ p 15 + 340282366920938463463374607431768211456 * by_ p 16 := by
  have e : dgs p = (List.range 17).map (by_ p) := by
    have := dgs_take (k := p) (n := 17) (by omega)
    rw [List.take_of_length_le (by omega)] at this
    exact this
  rw [e]
  have : (List.range 17).map (by_ p) = [by_ p 0, by_ p 1, by_ p 2, by_ p 3, by_ p 4, by_ p 5, by_ p 6, by_ p 7, by_ p 8, by_ p 9, by_ p 10, by_ p 11, by_ p 12, by_ p 13, by_ p 14, by_ p 15, by_ p 16] := rfl
  rw [this]
  simp only [val]
  omega
theorem addA0 {a b c d e x : Int} (h : 0 ≤ a + x ∧ a + x < 18446744073709551616) : addAt [a, b, c, d, e] 0 x = [a + x, b, c, d, e] := by
  show [IntKind.wrap .u64 (a + x), b, c, d, e] = _
  rw [u64w h.1 h.2]
theorem addA1 {a b c d e x : Int} (h : 0 ≤ b + x ∧ b + x < 18446744073709551616) : addAt [a, b, c, d, e] 1 x = [a, b + x, c, d, e] := by
  show [a, IntKind.wrap .u64 (b + x), c, d, e] = _
  rw [u64w h.1 h.2]
theorem addA2 {a b c d e x : Int} (h : 0 ≤ c + x ∧ c + x < 18446744073709551616) : addAt [a, b, c, d, e] 2 x = [a, b, c + x, d, e] := by
  show [a, b, IntKind.wrap .u64 (c + x), d, e] = _
  rw [u64w h.1 h.2]
theorem addA3 {a b c d e x : Int} (h : 0 ≤ d + x ∧ d + x < 18446744073709551616) : addAt [a, b, c, d, e] 3 x = [a, b, c, d + x, e] := by
  show [a, b, c, IntKind.wrap .u64 (d + x), e] = _
  rw [u64w h.1 h.2]
theorem addA4 {a b c d e x : Int} (h : 0 ≤ e + x ∧ e + x < 18446744073709551616) : addAt [a, b, c, d, e] 4 x = [a, b, c, d, e + x] := by
  show [a, b, c, d, IntKind.wrap .u64 (e + x)] = _
  rw [u64w h.1 h.2]
theorem step_lv {h : List Int} (hn : Near h) {p : List UInt8} (hp : p.length = 17) (h16 : by_ p 16 ≤ 1) : Wide (stepL h p) ∧ lv (stepL h p) = lv h + val (dgs p) := by
  obtain ⟨a, b, c, d, e, rfl, a0, a1, b0, b1, c0, c1, d0, d1, e0, e1⟩ := hn
  obtain ⟨m0, m1, m2, m3, m4⟩ := step_limbs (p := p)
  have q := fun i => by_range (k := p) (i := i)
  rw [← stepL_eq, m0, m1, m2, m3, m4, val17 hp]
  have := q 0; have := q 1; have := q 2; have := q 3; have := q 4; have := q 5; have := q 6; have := q 7; have := q 8
  have := q 9; have := q 10; have := q 11; have := q 12; have := q 13; have := q 14; have := q 15; have := q 16
  rw [addA0 (by omega), addA1 (by omega), addA2 (by omega), addA3 (by omega), addA4 (by omega)]
  refine ⟨⟨rfl, fun i hi => ?_⟩, ?_⟩
  · match i, hi with
    | 0, _ => show 0 ≤ a + _ ∧ a + _ < _; omega
    | 1, _ => show 0 ≤ b + _ ∧ b + _ < _; omega
    | 2, _ => show 0 ≤ c + _ ∧ c + _ < _; omega
    | 3, _ => show 0 ≤ d + _ ∧ d + _ < _; omega
    | 4, _ => show 0 ≤ e + _ ∧ e + _ < _; omega
  · rw [lv5, lv5]
    omega
/-! ### Marks -/
theorem dgs_app {l r : List UInt8} : dgs (l ++ r) = dgs l ++ dgs r := by simp [dgs]
theorem val_zb {n : Nat} : val (dgs (zb n)) = 0 := by
  have : dgs (zb n) = List.replicate n 0 := by simp [dgs, zb]
  rw [this]; exact val_rep
theorem marked_eq {l : List UInt8} : marked l = (l.take 16 ++ [1]) ++ zb (16 - min 16 l.length) := by
  unfold marked
  rw [set_mid (i := 0) (y := 0) (by rw [List.length_take, Nat.add_zero])]
  have : zb (17 - min 16 l.length) = 0 :: zb (16 - min 16 l.length) := by
    rw [show 17 - min 16 l.length = (16 - min 16 l.length) + 1 by omega]
    simp [zb, List.replicate_succ]
  rw [this, List.append_assoc]
  rfl
theorem marked_len {l : List UInt8} : (marked l).length = 17 := by
  rw [marked_eq]
  simp only [List.length_append, List.length_take, List.length_cons, List.length_nil, zb, List.length_replicate]
  omega
theorem marked_val {l : List UInt8} : val (dgs (marked l)) = val (dgs (l.take 16 ++ [1])) := by
  rw [marked_eq, dgs_app, val_app, val_zb, Int.zero_mul, Int.add_zero]
theorem marked_top {l : List UInt8} : by_ (marked l) 16 ≤ 1 := by
  unfold by_
  rw [marked_eq]
  by_cases h : 16 ≤ l.length
  · have : gb ((l.take 16 ++ [1]) ++ zb (16 - min 16 l.length)) 16 = 1 := by
      rw [List.append_assoc, gb_app (j := 0) (by rw [List.length_take]; omega)]
      rfl
    rw [this]
    decide
  · have : gb ((l.take 16 ++ [1]) ++ zb (16 - min 16 l.length)) 16 = 0 := by
      rw [gb_app (j := 16 - (l.length + 1)) (by simp only [List.length_append, List.length_take, List.length_cons, List.length_nil]; omega), gb_zb]
    rw [this]
    decide
theorem acc_lv {k m : List UInt8} (hk : 16 ≤ k.length) : ∀ q, Near (accQ (limbs k) m q) ∧ lv (accQ (limbs k) m q) % 1361129467683753853853498429727072845819 = accV k m q % 1361129467683753853853498429727072845819 := by
  intro q
  obtain ⟨ht, hlv⟩ := limbs_lv hk
  induction q with
  | zero =>
    rw [accQ_zero]
    exact ⟨⟨0, 0, 0, 0, 0, rfl, by omega, by omega, by omega, by omega, by omega, by omega, by omega, by omega, by omega, by omega⟩, rfl⟩
  | succ q ih =>
    rw [accQ_succ]
    obtain ⟨s1, s2⟩ := step_lv ih.1 (marked_len (l := m.drop (16 * q))) marked_top
    obtain ⟨m1, m2⟩ := mulL_lv s1 ht
    refine ⟨m1, ?_⟩
    rw [m2, s2, hlv, marked_val]
    have hb : (m.drop (16 * q)).take 16 = blk 16 m q := rfl
    rw [hb, accV, Int.emod_emod, Int.mul_emod, Int.add_emod, ih.2, ← Int.add_emod, ← Int.mul_emod]
theorem accV_range {k m : List UInt8} : ∀ q, 0 ≤ accV k m q ∧ accV k m q < 1361129467683753853853498429727072845819 := by
  intro q
  cases q with
  | zero => show (0 : Int) ≤ 0 ∧ (0 : Int) < 1361129467683753853853498429727072845819; omega
  | succ q => simp only [accV]; omega
end Go.Proofs.Ytildhljhbbhmmaa.AM
namespace Go.Proofs.Ytildhljhbbhmmaa.AM
open Go
set_option linter.all false
set_option maxRecDepth 10000

/-- Limbs that are right. -/
def Norm (h : List Int) : Prop := ∃ a b c d e : Int, h = [a, b, c, d, e] ∧ 0 ≤ a ∧ a < 67108864 ∧ 0 ≤ b ∧ b < 67108864 ∧ 0 ≤ c ∧ c < 67108864 ∧ 0 ≤ d ∧ d < 67108864 ∧ 0 ≤ e ∧ e < 67108864
theorem norm_car {h : List Int} (hn : Near h) : Norm (carN h 5) ∧ lv (carN h 5) % 1361129467683753853853498429727072845819 = lv h % 1361129467683753853853498429727072845819 := by
  obtain ⟨a, b, c, d, e, rfl, a0, a1, b0, b1, c0, c1, d0, d1, e0, e1⟩ := hn
  obtain ⟨a', b', c', d', e', q, u, v, w, h1, h2, f2, f3, f4, f5, f6, f7, f8, f9, f10⟩ := car5 (a := a) (b := b) (c := c) (d := d) (e := e) (by omega) (by omega) (by omega) (by omega) (by omega)
  rw [h1]
  refine ⟨⟨a', b', c', d', e', rfl, ?_, ?_, ?_, ?_, ?_, ?_, ?_, ?_, ?_, ?_⟩, by omega⟩ <;> omega
theorem norm_near {h : List Int} (hn : Norm h) : Near h := by
  obtain ⟨a, b, c, d, e, rfl, a0, a1, b0, b1, c0, c1, d0, d1, e0, e1⟩ := hn
  exact ⟨a, b, c, d, e, rfl, a0, by omega, b0, b1, c0, c1, d0, d1, e0, e1⟩
theorem gS0 {a b c d e : Int} (h : 0 ≤ b + a / 67108864 ∧ b + a / 67108864 < 18446744073709551616) : gS [a, b, c, d, e] 0 = [a % 67108864, b + a / 67108864, c, d, e] := by
  show [a % 67108864, IntKind.wrap .u64 (b + a / 67108864), c, d, e] = _
  rw [u64w h.1 h.2]
theorem gS1 {a b c d e : Int} (h : 0 ≤ c + b / 67108864 ∧ c + b / 67108864 < 18446744073709551616) : gS [a, b, c, d, e] 1 = [a, b % 67108864, c + b / 67108864, d, e] := by
  show [a, b % 67108864, IntKind.wrap .u64 (c + b / 67108864), d, e] = _
  rw [u64w h.1 h.2]
theorem gS2 {a b c d e : Int} (h : 0 ≤ d + c / 67108864 ∧ d + c / 67108864 < 18446744073709551616) : gS [a, b, c, d, e] 2 = [a, b, c % 67108864, d + c / 67108864, e] := by
  show [a, b, c % 67108864, IntKind.wrap .u64 (d + c / 67108864), e] = _
  rw [u64w h.1 h.2]
theorem gS3 {a b c d e : Int} (h : 0 ≤ e + d / 67108864 ∧ e + d / 67108864 < 18446744073709551616) : gS [a, b, c, d, e] 3 = [a, b, c, d % 67108864, e + d / 67108864] := by
  show [a, b, c, d % 67108864, IntKind.wrap .u64 (e + d / 67108864)] = _
  rw [u64w h.1 h.2]
theorem less_lv {h : List Int} (hn : Norm h) : Norm (lessP h) ∧ lv (lessP h) = lv h % 1361129467683753853853498429727072845819 := by
  obtain ⟨a, b, c, d, e, rfl, a0, a1, b0, b1, c0, c1, d0, d1, e0, e1⟩ := hn
  have hend := red_end (l := lv [a, b, c, d, e]) (by rw [lv5]; omega) (by rw [lv5]; omega)
  rw [hend]
  have hset : [a, b, c, d, e].set 0 (IntKind.wrap .u64 (gw [a, b, c, d, e] 0 + 5)) = [a + 5, b, c, d, e] := by
    show [IntKind.wrap .u64 (a + 5), b, c, d, e] = _
    rw [u64w (by omega) (by omega)]
  have hg : gN [a + 5, b, c, d, e] 4 = [(a + 5) % 67108864, (b + (a + 5) / 67108864) % 67108864, (c + (b + (a + 5) / 67108864) / 67108864) % 67108864, (d + (c + (b + (a + 5) / 67108864) / 67108864) / 67108864) % 67108864, e + (d + (c + (b + (a + 5) / 67108864) / 67108864) / 67108864) / 67108864] := by
    show gS (gS (gS (gS [a + 5, b, c, d, e] 0) 1) 2) 3 = _
    rw [gS0 (by omega), gS1 (by omega), gS2 (by omega), gS3 (by omega)]
  unfold lessP
  rw [hset, hg]
  simp only
  generalize hx : (a + 5) / 67108864 = x
  generalize hy : (b + x) / 67108864 = y
  generalize hz : (c + y) / 67108864 = z
  generalize ht : (d + z) / 67108864 = t
  have hg4 : gw [(a + 5) % 67108864, (b + x) % 67108864, (c + y) % 67108864, (d + z) % 67108864, e + t] 4 = e + t := rfl
  rw [hg4]
  by_cases hc : 0 < (e + t) / 67108864
  · rw [if_pos hc, if_pos (by rw [lv5]; omega)]
    have hs : [(a + 5) % 67108864, (b + x) % 67108864, (c + y) % 67108864, (d + z) % 67108864, e + t].set 4 ((e + t) % 67108864) = [(a + 5) % 67108864, (b + x) % 67108864, (c + y) % 67108864, (d + z) % 67108864, (e + t) % 67108864] := rfl
    rw [hs]
    refine ⟨⟨_, _, _, _, _, rfl, ?_, ?_, ?_, ?_, ?_, ?_, ?_, ?_, ?_, ?_⟩, ?_⟩
    all_goals first | omega | (rw [lv5, lv5]; omega)
  · rw [if_neg hc, if_neg (by rw [lv5]; omega)]
    exact ⟨⟨a, b, c, d, e, rfl, a0, a1, b0, b1, c0, c1, d0, d1, e0, e1⟩, rfl⟩
theorem lohi {h : List Int} (hn : Norm h) : 0 ≤ loE h ∧ loE h < 18446744073709551616 ∧ 0 ≤ hiE h ∧ hiE h < 18446744073709551616 ∧ loE h + 18446744073709551616 * hiE h = lv h % 340282366920938463463374607431768211456 := by
  obtain ⟨a, b, c, d, e, rfl, a0, a1, b0, b1, c0, c1, d0, d1, e0, e1⟩ := hn
  have t1 := shl64 (x := b) (j := 26) (by omega)
  have t2 := shl64 (x := c) (j := 52) (by omega)
  have t3 := shl64 (x := d) (j := 14) (by omega)
  have t4 := shl64 (x := e) (j := 40) (by omega)
  rw [show ((26 : Nat) : Int) = 26 from rfl, show (2 : Int) ^ 26 = 67108864 from rfl] at t1
  rw [show ((52 : Nat) : Int) = 52 from rfl, show (2 : Int) ^ 52 = 4503599627370496 from rfl] at t2
  rw [show ((14 : Nat) : Int) = 14 from rfl, show (2 : Int) ^ 14 = 16384 from rfl] at t3
  rw [show ((40 : Nat) : Int) = 40 from rfl, show (2 : Int) ^ 40 = 1099511627776 from rfl] at t4
  have t2' : (c * 4503599627370496) % 18446744073709551616 = c % 4096 * 4503599627370496 := by omega
  have t4' : (e * 1099511627776) % 18446744073709551616 = e % 16777216 * 1099511627776 := by omega
  rw [t2'] at t2
  rw [t4'] at t4
  rw [Int.emod_eq_of_lt (by omega) (by omega)] at t1 t3
  have hlo : loE [a, b, c, d, e] = a + b * 67108864 + c % 4096 * 4503599627370496 := by
    show bitsK .or .u64 (bitsK .or .u64 a (shiftK .shl .u64 b 26)) (shiftK .shl .u64 c 52) = _
    rw [t1, t2, or_add 26 67108864 rfl (x := a) (y := b * 67108864) (by omega) (by omega) (by omega) (by omega) (by omega)]
    rw [or_add 52 4503599627370496 rfl (x := a + b * 67108864) (y := c % 4096 * 4503599627370496) (by omega) (by omega) (by omega) (by omega) (by omega)]
  have hhi : hiE [a, b, c, d, e] = c / 4096 + d * 16384 + e % 16777216 * 1099511627776 := by
    show bitsK .or .u64 (bitsK .or .u64 (c / 4096) (shiftK .shl .u64 d 14)) (shiftK .shl .u64 e 40) = _
    rw [t3, t4, or_add 14 16384 rfl (x := c / 4096) (y := d * 16384) (by omega) (by omega) (by omega) (by omega) (by omega)]
    rw [or_add 40 1099511627776 rfl (x := c / 4096 + d * 16384) (y := e % 16777216 * 1099511627776) (by omega) (by omega) (by omega) (by omega) (by omega)]
  rw [hlo, hhi, lv5]
  refine ⟨by omega, by omega, by omega, by omega, by omega⟩
theorem xE_val {s : List UInt8} {i : Nat} : xE (tx s) i = wordAt (tx s) i + 4294967296 * wordAt (tx s) (i + 4) := by
  have r0 := wordAt_range (tx s) i
  have r4 := wordAt_range (tx s) (i + 4)
  have t1 := shl64 (x := wordAt (tx s) (i + 4)) (j := 32) (by omega)
  rw [show ((32 : Nat) : Int) = 32 from rfl, show (2 : Int) ^ 32 = 4294967296 from rfl, Int.emod_eq_of_lt (by omega) (by omega)] at t1
  unfold xE
  rw [t1, or_add 32 4294967296 rfl (by omega) (by omega) (by omega) (by omega) (by omega)]
  omega
theorem val16 {p : List UInt8} (h : p.length = 16) : val (dgs p) = by_ p 0 + 256 * by_ p 1 + 65536 * by_ p 2 + 16777216 * by_ p 3 + 4294967296 * by_ p 4 + 1099511627776 * by_ p 5 + 281474976710656 * by_ p 6 + 72057594037927936 * by_ p 7 + 18446744073709551616 * by_ p 8 + 4722366482869645213696 * by_ p 9 + 1208925819614629174706176 * by_ p 10 + 309485009821345068724781056 * by_ p 11 + 79228162514264337593543950336 * by_ p 12 + 20282409603651670423947251286016 * by_ p 13 + 5192296858534827628530496329220096 * by_ p 14 + 1329227995784915872903807060280344576 * by_ p 15 := by
  have e : dgs p = (List.range 16).map (by_ p) := by
    have := dgs_take (k := p) (n := 16) (by omega)
    rw [List.take_of_length_le (by omega)] at this
    exact this
  rw [e]
  have : (List.range 16).map (by_ p) = [by_ p 0, by_ p 1, by_ p 2, by_ p 3, by_ p 4, by_ p 5, by_ p 6, by_ p 7, by_ p 8, by_ p 9, by_ p 10, by_ p 11, by_ p 12, by_ p 13, by_ p 14, by_ p 15] := rfl
  rw [this]
  simp only [val]
  omega
theorem x_val {s : List UInt8} (h : s.length = 16) : xE (tx s) 0 + 18446744073709551616 * xE (tx s) 8 = val (dgs s) := by
  rw [xE_val, xE_val, word_by, word_by, word_by, word_by, val16 h]
  simp only [Nat.reduceAdd]
  omega
theorem cl8 {lo hi : Int} : cl lo hi 8 = [b8 (lo / 2 ^ (8 * 0)), b8 (lo / 2 ^ (8 * 1)), b8 (lo / 2 ^ (8 * 2)), b8 (lo / 2 ^ (8 * 3)), b8 (lo / 2 ^ (8 * 4)), b8 (lo / 2 ^ (8 * 5)), b8 (lo / 2 ^ (8 * 6)), b8 (lo / 2 ^ (8 * 7)),
    b8 (hi / 2 ^ (8 * 0)), b8 (hi / 2 ^ (8 * 1)), b8 (hi / 2 ^ (8 * 2)), b8 (hi / 2 ^ (8 * 3)), b8 (hi / 2 ^ (8 * 4)), b8 (hi / 2 ^ (8 * 5)), b8 (hi / 2 ^ (8 * 6)), b8 (hi / 2 ^ (8 * 7))] := by
  have hz : cl lo hi 0 = [0, 0, 0, 0, 0, 0, 0, 0, 0, 0, 0, 0, 0, 0, 0, 0] := rfl
  simp only [cl] at hz ⊢
  rw [hz]
  rfl
theorem cl_val {lo hi : Int} (h0 : 0 ≤ lo ∧ lo < 18446744073709551616) (h1 : 0 ≤ hi ∧ hi < 18446744073709551616) : val (dgs (cl lo hi 8)) = lo + 18446744073709551616 * hi := by
  rw [cl8]
  simp only [dgs, List.map_cons, List.map_nil, b8_val, val]
  rw [show (2 : Int) ^ (8 * 0) = 1 from rfl, show (2 : Int) ^ (8 * 1) = 256 from rfl, show (2 : Int) ^ (8 * 2) = 65536 from rfl, show (2 : Int) ^ (8 * 3) = 16777216 from rfl, show (2 : Int) ^ (8 * 4) = 4294967296 from rfl, show (2 : Int) ^ (8 * 5) = 1099511627776 from rfl, show (2 : Int) ^ (8 * 6) = 281474976710656 from rfl, show (2 : Int) ^ (8 * 7) = 72057594037927936 from rfl]
  omega
theorem close_val {h : List Int} (hn : Near h) {s : List UInt8} (hs : s.length = 16) : val (dgs (closeC h s)) = (lv h % 1361129467683753853853498429727072845819 + val (dgs s)) % 340282366920938463463374607431768211456 := by
  obtain ⟨n1, n2⟩ := norm_car hn
  obtain ⟨n3, n4⟩ := norm_car (norm_near n1)
  obtain ⟨n5, n6⟩ := less_lv n3
  obtain ⟨l0, l1, g0, g1, g2⟩ := lohi n5
  have hx := x_val hs
  have x0 := xE_val (s := s) (i := 0)
  have x8 := xE_val (s := s) (i := 8)
  have r0 := wordAt_range (tx s) 0
  have r4 := wordAt_range (tx s) (0 + 4)
  have r8 := wordAt_range (tx s) 8
  have r12 := wordAt_range (tx s) (8 + 4)
  unfold closeC
  rw [cl_val (by omega) (by omega)]
  rw [n4, n2] at n6
  rw [← n6, ← hx]
  generalize loE (lessP (carN (carN h 5) 5)) = A at *
  generalize hiE (lessP (carN (carN h 5) 5)) = B at *
  generalize xE (tx s) 0 = X at *
  generalize xE (tx s) 8 = Y at *
  omega
theorem val_inj : ∀ {a b : List Int}, Dig a → Dig b → a.length = b.length → val a = val b → a = b := by
  intro a
  induction a with
  | nil =>
    intro b _ _ hl _
    exact (List.eq_nil_of_length_eq_zero hl.symm).symm
  | cons x a ih =>
    intro b ha hb hl hv
    cases b with
    | nil => simp at hl
    | cons y b =>
      have hx := ha 0
      have hy := hb 0
      rw [dig_cons_zero] at hx hy
      simp only [val] at hv
      have hxy : x = y := by omega
      have : val a = val b := by omega
      rw [hxy, ih ha.tail hb.tail (by simpa using hl) this]
theorem dgs_inj {a b : List UInt8} (hl : a.length = b.length) (hv : val (dgs a) = val (dgs b)) : a = b := by
  have h := val_inj dgs_Dig dgs_Dig (by rw [dgs_len, dgs_len, hl]) hv
  have hm : ∀ {l r : List UInt8}, dgs l = dgs r → l = r := by
    intro l
    induction l with
    | nil => intro r h; cases r with
      | nil => rfl
      | cons y r => simp [dgs] at h
    | cons x l ih => intro r h; cases r with
      | nil => simp [dgs] at h
      | cons y r =>
        simp only [dgs, List.map_cons, List.cons.injEq] at h
        rw [ih h.2]
        have : x.toNat = y.toNat := by omega
        rw [UInt8.toNat_inj.1 this]
  exact hm h
/-- A tag is what the reference says. -/
theorem tag_law {k m R : List UInt8} (hk : k.length = 32) (hR : R.length = 16) (hv : val (dgs R) = (accV k m (blkN 16 m.length) + val (dgs (k.drop 16))) % 340282366920938463463374607431768211456) : R = tagL k m := by
  apply dgs_inj (by rw [hR, tagL_len])
  rw [hv]
  obtain ⟨a1, a2⟩ := acc_lv (k := k) (m := m) (by omega) ((m.length + 15) / 16)
  have hc := close_val a1 (s := k.drop 16) (by rw [List.length_drop]; omega)
  have hr := accV_range (k := k) (m := m) ((m.length + 15) / 16)
  unfold tagL
  rw [hc, a2, Int.emod_eq_of_lt hr.1 hr.2]
  rfl
theorem v30t {tbl : Tbl} [hT : TMono tbl] (h30 : tbl 30 = some (.code m30)) (h64 : tbl 64 = some (.code m64)) (h65 : tbl 65 = some (.code m65)) (h66 : tbl 66 = some (.code m66)) (h67 : tbl 67 = some (.code m67)) (h68 : tbl 68 = some (.code m68)) (k m : List UInt8) (hk : k.length = 32) (hm : m.length ≤ 100000000) (H : AH) :
    Val tbl 30 [.string (tx k), .string (tx m)] H (.string (tx (tagL k m))) H := by
  obtain ⟨R, h1, h2, h3⟩ := v30 h30 h64 h65 h66 h67 h68 k m hk hm H
  rw [← tag_law hk h1 h2]
  exact h3
end Go.Proofs.Ytildhljhbbhmmaa.AM
namespace Go.Proofs.Ytildhljhbbhmmaa.AM
open Go
set_option linter.all false
set_option maxRecDepth 10000

/-- What the reference's blocks and the laws' words need. -/
structure RefT (tbl : Tbl) : Prop where
  h94 : tbl 94 = some (.code m94)
  h93 : tbl 93 = some (.code m93)
  h91 : tbl 91 = some (.code m91)
  h92 : tbl 92 = some (.code m92)
  h59 : tbl 59 = some (.code m59)
  h65 : tbl 65 = some (.code m65)
  h69 : tbl 69 = some (.code m69)
  h31 : tbl 31 = some (.code m31)
  h30 : tbl 30 = some (.code m30)
  h64 : tbl 64 = some (.code m64)
  h66 : tbl 66 = some (.code m66)
  h67 : tbl 67 = some (.code m67)
  h68 : tbl 68 = some (.code m68)
  h60 : tbl 60 = some (.code m60)
  h61 : tbl 61 = some (.code m61)
  h25 : tbl 25 = some (.code m25)
  h19 : tbl 19 = some (.code m19)
  h20 : tbl 20 = some (.code m20)
  h21 : tbl 21 = some (.code m21)
  h22 : tbl 22 = some (.code m22)
  h23 : tbl 23 = some (.code m23)
variable {tbl : Tbl} [hT : TMono tbl]

theorem v19 (h19 : tbl 19 = some (.code m19)) (H : AH) (v : Value) (l : List Int) (hs : Sl H 1 v l.length (l.map I64)) (hl : l.length < 1000000000) : Val tbl 19 [v] H (.int .i64 (firstL l)) H := by
  refine Val.of_all fun Q hQ => ?_
  obtain ⟨a, c, hv⟩ := hs.shape
  subst hv
  rw [rn_fun h19, k19]
  simp only [go_sem, Nat.reduceEqDiff, Nat.reduceAdd, Nat.reduceLeDiff, Int.reduceEq, Int.reduceLT, Int.reduceLE, Int.reduceAdd, Int.reduceSub, Int.reduceMul, Int.reduceNeg, Int.reduceToNat, Nat.reduceMul]
  refine rn_loop (fun m f H' => H' = H.enter ∧ ∃ i : Nat, i ≤ l.length ∧ m = l.length - i ∧ f 5 = .slice a l.length c ∧ f 6 = .int .i64 l.length ∧ f 7 = .int .i64 i ∧ firstL (l.drop i) = firstL l) ?_ (n := l.length) ⟨rfl, 0, by omega, by omega, by simp only [go_sem, Nat.reduceEqDiff, Nat.reduceAdd, Nat.reduceLeDiff, Int.reduceEq, Int.reduceLT, Int.reduceLE, Int.reduceAdd, Int.reduceSub, Int.reduceMul, Int.reduceNeg, Int.reduceToNat, Nat.reduceMul], by simp only [go_sem, Nat.reduceEqDiff, Nat.reduceAdd, Nat.reduceLeDiff, Int.reduceEq, Int.reduceLT, Int.reduceLE, Int.reduceAdd, Int.reduceSub, Int.reduceMul, Int.reduceNeg, Int.reduceToNat, Nat.reduceMul], by simp only [go_sem, Nat.reduceEqDiff, Nat.reduceAdd, Nat.reduceLeDiff, Int.reduceEq, Int.reduceLT, Int.reduceLE, Int.reduceAdd, Int.reduceSub, Int.reduceMul, Int.reduceNeg, Int.reduceToNat, Nat.reduceMul] <;> rfl, rfl⟩
  rintro m f H' ⟨rfl, i, hi, rfl, h5, h6, h7, hf⟩
  simp only [h5, h6, h7, go_sem, Nat.reduceEqDiff, Nat.reduceAdd, Nat.reduceLeDiff, Int.reduceEq, Int.reduceLT, Int.reduceLE, Int.reduceAdd, Int.reduceSub, Int.reduceMul, Int.reduceNeg, Int.reduceToNat, Nat.reduceMul]
  refine iteP_intro ?_ ?_ <;> intro hlt
  · simp only [h5, h6, h7, go_sem, Nat.reduceEqDiff, Nat.reduceAdd, Nat.reduceLeDiff, Int.reduceEq, Int.reduceLT, Int.reduceLE, Int.reduceAdd, Int.reduceSub, Int.reduceMul, Int.reduceNeg, Int.reduceToNat, Nat.reduceMul]
    have hi : i < l.length := by omega
    rw [List.drop_eq_getElem_cons hi] at hf
    refine hs.int hi fun p hpl hp => ?_
    simp only [h5, h6, h7, hp, go_sem, Nat.reduceEqDiff, Nat.reduceAdd, Nat.reduceLeDiff, Int.reduceEq, Int.reduceLT, Int.reduceLE, Int.reduceAdd, Int.reduceSub, Int.reduceMul, Int.reduceNeg, Int.reduceToNat, Nat.reduceMul]
    refine iteP_intro ?_ ?_ <;> intro hz
    · simp only [hz, firstL, if_true] at hf
      simp only [h5, h6, h7, hp, go_sem, Nat.reduceEqDiff, Nat.reduceAdd, Nat.reduceLeDiff, Int.reduceEq, Int.reduceLT, Int.reduceLE, Int.reduceAdd, Int.reduceSub, Int.reduceMul, Int.reduceNeg, Int.reduceToNat, Nat.reduceMul]
      rw [w64 (by omega) (by omega)]
      exact ⟨l.length - (i + 1), by omega, rfl, i + 1, by omega, rfl, by simp only [h5, go_sem, Nat.reduceEqDiff, Nat.reduceAdd, Nat.reduceLeDiff, Int.reduceEq, Int.reduceLT, Int.reduceLE, Int.reduceAdd, Int.reduceSub, Int.reduceMul, Int.reduceNeg, Int.reduceToNat, Nat.reduceMul], by simp only [h6, go_sem, Nat.reduceEqDiff, Nat.reduceAdd, Nat.reduceLeDiff, Int.reduceEq, Int.reduceLT, Int.reduceLE, Int.reduceAdd, Int.reduceSub, Int.reduceMul, Int.reduceNeg, Int.reduceToNat, Nat.reduceMul], by simp only [go_sem, Nat.reduceEqDiff, Nat.reduceAdd, Nat.reduceLeDiff, Int.reduceEq, Int.reduceLT, Int.reduceLE, Int.reduceAdd, Int.reduceSub, Int.reduceMul, Int.reduceNeg, Int.reduceToNat, Nat.reduceMul] <;> rfl, hf⟩
    · simp only [firstL, if_neg hz] at hf
      simp only [h5, h6, h7, hp, go_sem, Nat.reduceEqDiff, Nat.reduceAdd, Nat.reduceLeDiff, Int.reduceEq, Int.reduceLT, Int.reduceLE, Int.reduceAdd, Int.reduceSub, Int.reduceMul, Int.reduceNeg, Int.reduceToNat, Nat.reduceMul]
      rw [hf]
      exact hQ
  · have hi : i = l.length := by omega
    subst hi
    rw [List.drop_length] at hf
    rw [← hf] at hQ
    simp only [h5, h6, h7, go_sem, Nat.reduceEqDiff, Nat.reduceAdd, Nat.reduceLeDiff, Int.reduceEq, Int.reduceLT, Int.reduceLE, Int.reduceAdd, Int.reduceSub, Int.reduceMul, Int.reduceNeg, Int.reduceToNat, Nat.reduceMul]
    exact hQ
theorem v21 (h21 : tbl 21 = some (.code m21)) (p : Prop) [Decidable p] (e : Int) (H : AH) : Val tbl 21 [.bool (decide p), .int .i64 e] H (.int .i64 (if p then e else 0)) H := by
  refine Val.of_all fun Q hQ => ?_
  rw [rn_fun h21, k21]
  by_cases hp : p
  · rw [if_pos hp] at hQ
    simp only [hp, go_sem, Nat.reduceEqDiff, Nat.reduceAdd, Nat.reduceLeDiff, Int.reduceEq, Int.reduceLT, Int.reduceLE, Int.reduceAdd, Int.reduceSub, Int.reduceMul, Int.reduceNeg, Int.reduceToNat, Nat.reduceMul]
    exact hQ
  · rw [if_neg hp] at hQ
    simp only [hp, go_sem, Nat.reduceEqDiff, Nat.reduceAdd, Nat.reduceLeDiff, Int.reduceEq, Int.reduceLT, Int.reduceLE, Int.reduceAdd, Int.reduceSub, Int.reduceMul, Int.reduceNeg, Int.reduceToNat, Nat.reduceMul]
    exact hQ
theorem v20 (h21 : tbl 21 = some (.code m21)) (h20 : tbl 20 = some (.code m20)) (k n : List UInt8) (H : AH) : Val tbl 20 [.string (tx k), .string (tx n)] H (.int .i64 (if k.length = 32 ∧ n.length = 12 then 0 else 6)) H := by
  refine Val.of_all fun Q hQ => ?_
  rw [rn_fun h20, k20]
  have hv := fun p => v21 (tbl := tbl) h21 (p = true) 6
  have e32 : ((k.length : Int) = 32) ↔ k.length = 32 := by omega
  have e12 : ((n.length : Int) = 12) ↔ n.length = 12 := by omega
  have hT2 := v21 (tbl := tbl) h21 True 6
  have hF2 := v21 (tbl := tbl) h21 False 6
  rw [decide_true, if_pos trivial] at hT2
  rw [decide_false, if_neg (fun h => h)] at hF2
  simp only [tx_size, e32, go_sem, Nat.reduceEqDiff, Nat.reduceAdd, Nat.reduceLeDiff, Int.reduceEq, Int.reduceLT, Int.reduceLE, Int.reduceAdd, Int.reduceSub, Int.reduceMul, Int.reduceNeg, Int.reduceToNat, Nat.reduceMul]
  by_cases h1 : k.length = 32
  · by_cases h2 : n.length = 12
    · rw [if_pos ⟨h1, h2⟩] at hQ
      simp only [h1, h2, tx_size, e12, ↓(hF2 _).run, go_sem, Nat.reduceEqDiff, Nat.reduceAdd, Nat.reduceLeDiff, Int.reduceEq, Int.reduceLT, Int.reduceLE, Int.reduceAdd, Int.reduceSub, Int.reduceMul, Int.reduceNeg, Int.reduceToNat, Nat.reduceMul]
      exact hQ
    · rw [if_neg fun h => h2 h.2] at hQ
      simp only [h1, h2, tx_size, e12, ↓(hT2 _).run, go_sem, Nat.reduceEqDiff, Nat.reduceAdd, Nat.reduceLeDiff, Int.reduceEq, Int.reduceLT, Int.reduceLE, Int.reduceAdd, Int.reduceSub, Int.reduceMul, Int.reduceNeg, Int.reduceToNat, Nat.reduceMul]
      exact hQ
  · rw [if_neg fun h => h1 h.1] at hQ
    simp only [h1, ↓(hT2 _).run, go_sem, Nat.reduceEqDiff, Nat.reduceAdd, Nat.reduceLeDiff, Int.reduceEq, Int.reduceLT, Int.reduceLE, Int.reduceAdd, Int.reduceSub, Int.reduceMul, Int.reduceNeg, Int.reduceToNat, Nat.reduceMul]
    exact hQ
theorem v22 (h22 : tbl 22 = some (.code m22)) (l : List UInt8) (H : AH) : Val tbl 22 [.string (tx l)] H (.bool (decide (l.length ≤ 10000))) H := by
  refine Val.of_all fun Q hQ => ?_
  rw [rn_fun h22, k22]
  have e : ((l.length : Int) ≤ 10000) ↔ l.length ≤ 10000 := by omega
  simp only [tx_size, e, go_sem, Nat.reduceEqDiff, Nat.reduceAdd, Nat.reduceLeDiff, Int.reduceEq, Int.reduceLT, Int.reduceLE, Int.reduceAdd, Int.reduceSub, Int.reduceMul, Int.reduceNeg, Int.reduceToNat, Nat.reduceMul]
  exact hQ
theorem tx_nil : (⟨#[]⟩ : ByteArray) = tx [] := rfl
theorem v23 (h23 : tbl 23 = some (.code m23)) (s t : List UInt8) (e w : Int) (H : AH) : Val tbl 23 [.string (tx s), .int .i64 e, .string (tx t), .int .i64 w] H (.bool (if w = 0 then decide (s = t ∧ e = 0) else decide (s = [] ∧ e = w))) H := by
  refine Val.of_all fun Q hQ => ?_
  rw [rn_fun h23, k23]
  by_cases hw : w = 0
  · subst hw
    rw [if_pos rfl] at hQ
    by_cases hs : s = t
    · subst hs
      simp only [tx_inj, go_sem, Nat.reduceEqDiff, Nat.reduceAdd, Nat.reduceLeDiff, Int.reduceEq, Int.reduceLT, Int.reduceLE, Int.reduceAdd, Int.reduceSub, Int.reduceMul, Int.reduceNeg, Int.reduceToNat, Nat.reduceMul]
      exact leaf hQ (by simp) rfl
    · simp only [tx_inj, hs, go_sem, Nat.reduceEqDiff, Nat.reduceAdd, Nat.reduceLeDiff, Int.reduceEq, Int.reduceLT, Int.reduceLE, Int.reduceAdd, Int.reduceSub, Int.reduceMul, Int.reduceNeg, Int.reduceToNat, Nat.reduceMul]
      exact leaf hQ (by simp [hs]) rfl
  · rw [if_neg hw] at hQ
    by_cases hs : s = []
    · subst hs
      simp only [hw, tx_nil, tx_inj, go_sem, Nat.reduceEqDiff, Nat.reduceAdd, Nat.reduceLeDiff, Int.reduceEq, Int.reduceLT, Int.reduceLE, Int.reduceAdd, Int.reduceSub, Int.reduceMul, Int.reduceNeg, Int.reduceToNat, Nat.reduceMul]
      exact leaf hQ (by simp) rfl
    · simp only [hw, tx_nil, tx_inj, hs, go_sem, Nat.reduceEqDiff, Nat.reduceAdd, Nat.reduceLeDiff, Int.reduceEq, Int.reduceLT, Int.reduceLE, Int.reduceAdd, Int.reduceSub, Int.reduceMul, Int.reduceNeg, Int.reduceToNat, Nat.reduceMul]
      exact leaf hQ (by simp [hs]) rfl
end Go.Proofs.Ytildhljhbbhmmaa.AM
namespace Go.Proofs.Ytildhljhbbhmmaa.AM
open Go
set_option linter.all false
set_option maxRecDepth 10000
variable {tbl : Tbl} [hT : TMono tbl]

theorem zb_len {n : Nat} : (zb n).length = n := by simp [zb]
theorem zb_succ {n : Nat} : zb n ++ [0] = zb (n + 1) := by simp [zb, List.replicate_succ']
theorem v60 (h60 : tbl 60 = some (.code m60)) (l : List UInt8) (hl : l.length ≤ 4611686018427387) (H : AH) : Val tbl 60 [.string (tx l)] H (.string (tx (l ++ fillL l))) H := by
  refine Val.of_all fun Q hQ => ?_
  rw [rn_fun h60, k60]
  simp only [go_sem, Nat.reduceEqDiff, Nat.reduceAdd, Nat.reduceLeDiff, Int.reduceEq, Int.reduceLT, Int.reduceLE, Int.reduceAdd, Int.reduceSub, Int.reduceMul, Int.reduceNeg, Int.reduceToNat, Nat.reduceMul]
  refine rn_loop (fun m f H' => ∃ j : Nat, j ≤ (16 - l.length % 16) % 16 ∧ m = (16 - l.length % 16) % 16 - j ∧ f 0 = .string (tx (l ++ zb j)) ∧ H' = H.enter) ?_ (n := (16 - l.length % 16) % 16)
    ⟨0, by omega, by omega, by simp only [zb, List.replicate_zero, List.append_nil, go_sem, Nat.reduceEqDiff, Nat.reduceAdd, Nat.reduceLeDiff, Int.reduceEq, Int.reduceLT, Int.reduceLE, Int.reduceAdd, Int.reduceSub, Int.reduceMul, Int.reduceNeg, Int.reduceToNat, Nat.reduceMul], rfl⟩
  rintro m f H' ⟨j, hj, rfl, f0, rfl⟩
  have hlen : (l ++ zb j).length = l.length + j := by rw [List.length_append, zb_len]
  have e1 : ((l.length + j : Nat) : Int).tmod 16 = (((l.length + j) % 16 : Nat) : Int) := by rw [Int.tmod_eq_emod_of_nonneg (by omega)]; omega
  have e2 : ((((l.length + j) % 16 : Nat) : Int) = 0) ↔ (l.length + j) % 16 = 0 := by omega
  have hone : (⟨#[0]⟩ : ByteArray) = tx [0] := rfl
  have hsz : (tx (l ++ zb j)).size + (tx [0]).size ≤ 9223372036854775807 := by
    rw [tx_size, tx_size, hlen]
    have : [(0 : UInt8)].length = 1 := rfl
    omega
  by_cases h : (l.length + j) % 16 = 0
  · have hje : j = (16 - l.length % 16) % 16 := by omega
    simp only [f0, tx_size, hlen, e1, e2, h, go_sem, Nat.reduceEqDiff, Nat.reduceAdd, Nat.reduceLeDiff, Int.reduceEq, Int.reduceLT, Int.reduceLE, Int.reduceAdd, Int.reduceSub, Int.reduceMul, Int.reduceNeg, Int.reduceToNat, Nat.reduceMul]
    rw [hje]
    exact hQ
  · simp only [f0, tx_size, hlen, e1, e2, h, hone, hsz, tx_cat, go_sem, Nat.reduceEqDiff, Nat.reduceAdd, Nat.reduceLeDiff, Int.reduceEq, Int.reduceLT, Int.reduceLE, Int.reduceAdd, Int.reduceSub, Int.reduceMul, Int.reduceNeg, Int.reduceToNat, Nat.reduceMul]
    rw [if_pos (by omega)]
    refine ⟨(16 - l.length % 16) % 16 - (j + 1), by omega, j + 1, by omega, rfl, by simp only [tx_cat, List.append_assoc, zb_succ, go_sem, Nat.reduceEqDiff, Nat.reduceAdd, Nat.reduceLeDiff, Int.reduceEq, Int.reduceLT, Int.reduceLE, Int.reduceAdd, Int.reduceSub, Int.reduceMul, Int.reduceNeg, Int.reduceToNat, Nat.reduceMul], rfl⟩
theorem b8_congr {x y : Int} (h : x % 256 = y % 256) : b8 x = b8 y := by
  unfold b8; rw [h]
theorem shr63 {n : Int} {j : Nat} (hj : j ≤ 63) : shiftK .shr .i64 n (j : Int) = n / 2 ^ j := by
  simp only [shiftK, Int.toNat_natCast]
  rw [show IntKind.i64.bits = 64 from rfl, show Nat.min j 64 = j from Nat.min_eq_left (by omega), Int.fdiv_eq_ediv_of_nonneg _ (by
    have : (0 : Int) ≤ ((2 ^ j : Nat) : Int) := Int.natCast_nonneg _
    simpa using this)]
theorem le8_eq {n : Int} : le8 n = little (IntKind.wrap .u32 n) ++ little (IntKind.wrap .u32 (shiftK .shr .i64 n 32)) := by
  have h := fun j (hj : j ≤ 63) => shr63 (n := n) (j := j) hj
  have g1 := fun c => shr32 c 8 (by omega)
  have g2 := fun c => shr32 c 16 (by omega)
  have g3 := fun c => shr32 c 24 (by omega)
  have e : le8 n = [b8 (shiftK .shr .i64 n ((8 * 0 : Nat) : Int)), b8 (shiftK .shr .i64 n ((8 * 1 : Nat) : Int)), b8 (shiftK .shr .i64 n ((8 * 2 : Nat) : Int)), b8 (shiftK .shr .i64 n ((8 * 3 : Nat) : Int)), b8 (shiftK .shr .i64 n ((8 * 4 : Nat) : Int)), b8 (shiftK .shr .i64 n ((8 * 5 : Nat) : Int)), b8 (shiftK .shr .i64 n ((8 * 6 : Nat) : Int)), b8 (shiftK .shr .i64 n ((8 * 7 : Nat) : Int))] := rfl
  rw [e, h _ (by omega), h _ (by omega), h _ (by omega), h _ (by omega), h _ (by omega), h _ (by omega), h _ (by omega), h _ (by omega)]
  have h32 := h 32 (by omega)
  rw [show ((32 : Nat) : Int) = 32 from rfl] at h32
  rw [h32]
  simp only [little]
  rw [show (8 : Int) = ((8 : Nat) : Int) from rfl, show (16 : Int) = ((16 : Nat) : Int) from rfl, show (24 : Int) = ((24 : Nat) : Int) from rfl, g1, g2, g3, g1, g2, g3, IntKind.wrap_u32, IntKind.wrap_u32]
  simp only [List.cons_append, List.nil_append]
  rw [show (2 : Int) ^ (8 * 0) = 1 from rfl, show (2 : Int) ^ (8 * 1) = 256 from rfl, show (2 : Int) ^ (8 * 2) = 65536 from rfl, show (2 : Int) ^ (8 * 3) = 16777216 from rfl, show (2 : Int) ^ (8 * 4) = 4294967296 from rfl, show (2 : Int) ^ (8 * 5) = 1099511627776 from rfl, show (2 : Int) ^ (8 * 6) = 281474976710656 from rfl, show (2 : Int) ^ (8 * 7) = 72057594037927936 from rfl]
  rw [b8_congr (x := n / 1) (y := n % 4294967296) (by omega), b8_congr (x := n / 256) (y := n % 4294967296 / 256) (by omega), b8_congr (x := n / 65536) (y := n % 4294967296 / 65536) (by omega), b8_congr (x := n / 16777216) (y := n % 4294967296 / 16777216) (by omega),
    b8_congr (x := n / 4294967296) (y := n / 4294967296 % 4294967296) (by omega), b8_congr (x := n / 1099511627776) (y := n / 4294967296 % 4294967296 / 256) (by omega), b8_congr (x := n / 281474976710656) (y := n / 4294967296 % 4294967296 / 65536) (by omega), b8_congr (x := n / 72057594037927936) (y := n / 4294967296 % 4294967296 / 16777216) (by omega)]
theorem v61 (h91 : tbl 91 = some (.code m91)) (h61 : tbl 61 = some (.code m61)) (n : Int) (H : AH) : Val tbl 61 [.int .i64 n] H (.string (tx (le8 n))) H := by
  refine Val.of_all fun Q hQ => ?_
  rw [rn_fun h61, k61]
  have a1 := v91 (tbl := tbl) h91 (IntKind.wrap .u32 n)
  have a2 := v91 (tbl := tbl) h91 (IntKind.wrap .u32 (shiftK .shr .i64 n 32))
  have hsz : (tx (little (IntKind.wrap .u32 n))).size + (tx (little (IntKind.wrap .u32 (shiftK .shr .i64 n 32)))).size ≤ 9223372036854775807 := by
    rw [tx_size, tx_size, little_len, little_len]; omega
  simp only [↓(a1 _).run, ↓(a2 _).run, hsz, tx_cat, ← le8_eq, go_sem, Nat.reduceEqDiff, Nat.reduceAdd, Nat.reduceLeDiff, Int.reduceEq, Int.reduceLT, Int.reduceLE, Int.reduceAdd, Int.reduceSub, Int.reduceMul, Int.reduceNeg, Int.reduceToNat, Nat.reduceMul]
  exact hQ
theorem v25 (R : RefT tbl) (k n e t : List UInt8) (hk : k.length = 32) (hn : n.length = 12) (he : e.length ≤ 1048576) (ht : t.length ≤ 1048576) (H : AH) :
    Val tbl 25 [.string (tx k), .string (tx n), .string (tx e), .string (tx t)] H (.string (tx (sealL k n e t))) H := by
  refine Val.of_all fun Q hQ => ?_
  rw [rn_fun R.h25, k25]
  have hst := v31 (tbl := tbl) R.h94 R.h93 R.h91 R.h92 R.h59 R.h65 R.h69 R.h31 k n 1 hk hn (by omega) t (by omega)
  have hsl : (streamL k n 1 t).length = t.length := streamL_len
  have hch := v59 (tbl := tbl) R.h94 R.h93 R.h91 R.h92 R.h59 k n 0 hk hn (by omega)
  have hs32 : 32 ≤ (tx (chacha k n 0)).size := by rw [tx_size, chacha_len]; omega
  have hx : (tx (chacha k n 0)).extract 0 32 = tx ((chacha k n 0).take 32) := by rw [tx_extract]; rfl
  have f1 := v60 (tbl := tbl) R.h60 e (by omega)
  have f2 := v60 (tbl := tbl) R.h60 (streamL k n 1 t) (by omega)
  have l1 := fillL_len (l := e)
  have l2 := fillL_len (l := streamL k n 1 t)
  have g1 := v61 (tbl := tbl) R.h91 R.h61 (e.length : Int)
  have g2 := v61 (tbl := tbl) R.h91 R.h61 ((streamL k n 1 t).length : Int)
  have hm := msgL_len (e := e) (s := streamL k n 1 t)
  have hmsg : e ++ fillL e ++ (streamL k n 1 t ++ fillL (streamL k n 1 t)) ++ le8 e.length ++ le8 (streamL k n 1 t).length = msgL e (streamL k n 1 t) := by simp [msgL]
  have htag := v30t (tbl := tbl) R.h30 R.h64 R.h65 R.h66 R.h67 R.h68 ((chacha k n 0).take 32) (msgL e (streamL k n 1 t)) (by rw [List.length_take, chacha_len]; rfl) (by omega)
  have s1 : (tx (e ++ fillL e)).size + (tx (streamL k n 1 t ++ fillL (streamL k n 1 t))).size ≤ 9223372036854775807 := by
    rw [tx_size, tx_size, List.length_append, List.length_append]; omega
  have s2 : (tx (e ++ fillL e ++ (streamL k n 1 t ++ fillL (streamL k n 1 t)))).size + (tx (le8 e.length)).size ≤ 9223372036854775807 := by
    rw [tx_size, tx_size, List.length_append, List.length_append, List.length_append, le8_len]; omega
  have s3 : (tx (e ++ fillL e ++ (streamL k n 1 t ++ fillL (streamL k n 1 t)) ++ le8 e.length)).size + (tx (le8 (streamL k n 1 t).length)).size ≤ 9223372036854775807 := by
    rw [tx_size, tx_size, List.length_append, List.length_append, List.length_append, List.length_append, le8_len, le8_len]; omega
  have s4 : (tx (streamL k n 1 t)).size + (tx (tagL ((chacha k n 0).take 32) (msgL e (streamL k n 1 t)))).size ≤ 9223372036854775807 := by
    rw [tx_size, tx_size, tagL_len]; omega
  simp only [↓(hst _).run, ↓(hch _).run, hs32, hx, ↓(f1 _).run, ↓(f2 _).run, s1, tx_cat, go_sem, Nat.reduceEqDiff, Nat.reduceAdd, Nat.reduceLeDiff, Int.reduceEq, Int.reduceLT, Int.reduceLE, Int.reduceAdd, Int.reduceSub, Int.reduceMul, Int.reduceNeg, Int.reduceToNat, Nat.reduceMul]
  rw [tx_size, tx_size] at s2 s3 s4
  simp only [tx_size, ↓(g1 _).run, ↓(g2 _).run, s2, s3, hx, tx_cat, hmsg, ↓(htag _).run, s4, go_sem, Nat.reduceEqDiff, Nat.reduceAdd, Nat.reduceLeDiff, Int.reduceEq, Int.reduceLT, Int.reduceLE, Int.reduceAdd, Int.reduceSub, Int.reduceMul, Int.reduceNeg, Int.reduceToNat, Nat.reduceMul]
  exact hQ
end Go.Proofs.Ytildhljhbbhmmaa.AM
namespace Go.Proofs.Ytildhljhbbhmmaa.AM
open Go
set_option linter.all false
set_option maxRecDepth 10000
variable {tbl : Tbl} [hT : TMono tbl]

theorem streamL_at {k n : List UInt8} {c : Int} {t : List UInt8} {j : Nat} (h : j < t.length) : gb (streamL k n c t) j = sx k n c t j := by
  simp [streamL, gb, h]
/-- The stream twice is nothing. -/
theorem streamL_twice {k n : List UInt8} {c : Int} {t : List UInt8} : streamL k n c (streamL k n c t) = t := by
  apply List.ext_getElem
  · simp [streamL]
  · intro j h1 h2
    have hl : j < t.length := h2
    have e1 : (streamL k n c (streamL k n c t))[j] = sx k n c (streamL k n c t) j := by simp [streamL]
    rw [e1, sx, streamL_at hl, sx, UInt8.xor_assoc, UInt8.xor_self, UInt8.xor_zero]
    simp [gb, hl]
/-- What is opened of a sealed block. -/
def tagOk (k n e t : List UInt8) : Prop := 16 ≤ t.length ∧ btag k n e (t.take (t.length - 16)) = t.drop (t.length - 16)
instance {k n e t : List UInt8} : Decidable (tagOk k n e t) := by unfold tagOk; infer_instance
def bodyL (k n t : List UInt8) : List UInt8 := streamL k n 1 (t.take (t.length - 16))
theorem tagOk_seal {k n e t : List UInt8} : tagOk k n e (sealL k n e t) ∧ bodyL k n (sealL k n e t) = t := by
  have hl := sealL_len (k := k) (n := n) (e := e) (t := t)
  have hs : (streamL k n 1 t).length = t.length := streamL_len
  have e1 : (sealL k n e t).take ((sealL k n e t).length - 16) = streamL k n 1 t := by
    rw [hl, sealL, List.take_append_of_le_length (by omega), List.take_of_length_le (by omega)]
  have e2 : (sealL k n e t).drop ((sealL k n e t).length - 16) = btag k n e (streamL k n 1 t) := by
    rw [hl, sealL, List.drop_append_of_le_length (by omega), List.drop_of_length_le (by omega), List.nil_append]
  refine ⟨⟨by omega, by rw [e1, e2]⟩, ?_⟩
  unfold bodyL
  rw [e1, streamL_twice]
/-- The reference's test is the tag's. -/
theorem seal_body {k n e t : List UInt8} (h : 16 ≤ t.length) : sealL k n e (bodyL k n t) = t ↔ tagOk k n e t := by
  unfold sealL bodyL tagOk
  rw [streamL_twice]
  constructor
  · intro he
    refine ⟨h, ?_⟩
    have hd := congrArg (List.drop (t.length - 16)) he
    rw [List.drop_append_of_le_length (by simp), List.drop_of_length_le (by simp), List.nil_append] at hd
    exact hd
  · intro he
    rw [he.2]
    exact List.take_append_drop _ _
theorem eqAt_bc {X Y : List UInt8} : ∀ l : List Nat, (∀ i ∈ l, i < X.length ∧ i < Y.length) → eqAt (bc X) (bc Y) (l.map fun i => (i, TK.int)) = some (l.all fun i => gb X i == gb Y i) := by
  intro l
  induction l with
  | nil => intro _; rfl
  | cons i l ih =>
    intro h
    obtain ⟨h1, h2⟩ := h i (by simp)
    have e1 : (bc X)[i]? = some (.int .u8 ((gb X i).toNat : Int)) := by simp [bc, U8, gb, h1]
    have e2 : (bc Y)[i]? = some (.int .u8 ((gb Y i).toNat : Int)) := by simp [bc, U8, gb, h2]
    simp only [List.map_cons, eqAt, e1, e2, cellEq, if_true, ih fun j hj => h j (by simp [hj]), List.all_cons]
    congr 2
    have : (((gb X i).toNat : Int) = (gb Y i).toNat) ↔ gb X i = gb Y i := by
      constructor
      · intro h; exact UInt8.toNat_inj.1 (by omega)
      · intro h; rw [h]
    by_cases hg : gb X i = gb Y i
    · simp [hg]
    · have : ¬ (((gb X i).toNat : Int) = (gb Y i).toNat) := fun h => hg (this.1 h)
      simp [hg, this]
theorem eqAt16 {X Y : List UInt8} (hX : X.length = 16) (hY : Y.length = 16) : eqAt (bc X) (bc Y) [(0, .int), (1, .int), (2, .int), (3, .int), (4, .int), (5, .int), (6, .int), (7, .int), (8, .int), (9, .int), (10, .int), (11, .int), (12, .int), (13, .int), (14, .int), (15, .int)] = some (decide (X = Y)) := by
  have h := eqAt_bc (X := X) (Y := Y) (List.range 16) (fun i hi => by rw [List.mem_range] at hi; omega)
  have e : (List.range 16).map (fun i => (i, TK.int)) = [(0, .int), (1, .int), (2, .int), (3, .int), (4, .int), (5, .int), (6, .int), (7, .int), (8, .int), (9, .int), (10, .int), (11, .int), (12, .int), (13, .int), (14, .int), (15, .int)] := rfl
  rw [e] at h
  rw [h]
  congr 1
  by_cases hXY : X = Y
  · subst hXY; simp
  · have : ¬ (∀ i, i < 16 → gb X i = gb Y i) := by
      intro hall
      apply hXY
      apply List.ext_getElem (by omega)
      intro i h1 h2
      have := hall i (by omega)
      simpa [gb, h1, h2] using this
    rw [decide_eq_false hXY]
    rw [Bool.eq_false_iff]
    intro h
    apply this
    intro i hi
    rw [List.all_eq_true] at h
    have := h i (List.mem_range.2 hi)
    simpa using this
theorem str_p1 {s : ByteArray} : p1 (.string s) = true := rfl
theorem v58 (T : SealT tbl) (h58 : tbl 58 = some (.code m58)) (k n e t : List UInt8) (hk : k.length = 32) (hn : n.length = 12) (he : e.length ≤ 1048576) (ht : t.length ≤ 1048592) (H : AH) :
    Val tbl 58 [.string (tx k), .string (tx n), .string (tx e), .string (tx t)] H (if tagOk k n e t then .tuple #[.string (tx (bodyL k n t)), .bool true] else .tuple #[.string ⟨#[]⟩, .bool false]) H := by
  refine Val.of_all fun Q hQ => ?_
  rw [rn_fun h58, k58]
  have w1 := w64 (x := (t.length : Int) - 16) (by omega) (by omega)
  by_cases h16 : (t.length : Int) - 16 < 0
  · rw [if_neg fun h => by have := h.1; omega] at hQ
    simp only [tx_size, w1, h16, go_sem, Nat.reduceEqDiff, Nat.reduceAdd, Nat.reduceLeDiff, Int.reduceEq, Int.reduceLT, Int.reduceLE, Int.reduceAdd, Int.reduceSub, Int.reduceMul, Int.reduceNeg, Int.reduceToNat, Nat.reduceMul]
    exact hQ
  · have h0 : (0 : Int) ≤ (t.length : Int) - 16 := by omega
    have hnat : ((t.length : Int) - 16).toNat = t.length - 16 := by omega
    have hle : t.length - 16 ≤ t.length := by omega
    have x1 : (tx t).extract 0 (t.length - 16) = tx (t.take (t.length - 16)) := by rw [tx_extract]; rfl
    have x2 : (tx t).extract (t.length - 16) t.length = tx (t.drop (t.length - 16)) := by rw [tx_extract, List.take_length]
    have hv := v90 T k n e (t.take (t.length - 16)) hk hn he (by rw [List.length_take]; omega) AH.lone
    have hdl : (t.drop (t.length - 16)).length = 16 := by rw [List.length_drop]; omega
    have hlim : (t.drop (t.length - 16)).length ≤ 140737488355328 := by omega
    have hu8 : (⟨bc (t.drop (t.length - 16)), 1, false⟩ : Blk) = u8r (t.drop (t.length - 16)) := rfl
    have htk : List.take 16 (u8r (t.drop (t.length - 16))).cells = bc (t.drop (t.length - 16)) := List.take_of_length_le (by rw [u8r_len]; omega)
    have h1616 : 16 ≤ 16 := Nat.le_refl _
    have heq := eqAt16 (X := btag k n e (t.take (t.length - 16))) (Y := t.drop (t.length - 16)) btag_len hdl
    simp only [tx_size, w1, h16, h0, hnat, hle, x1, x2, byteCells_eq, tx_data, hdl, hlim, hu8, loneP_some, str_p1, ↓hv.run, agg_bc, htk, h1616, u8r_len, go_sem, Nat.reduceEqDiff, Nat.reduceAdd, Nat.reduceLeDiff, Int.reduceEq, Int.reduceLT, Int.reduceLE, Int.reduceAdd, Int.reduceSub, Int.reduceMul, Int.reduceNeg, Int.reduceToNat, Nat.reduceMul]
    have hagg : aggV true [(0, .int), (1, .int), (2, .int), (3, .int), (4, .int), (5, .int), (6, .int), (7, .int), (8, .int), (9, .int), (10, .int), (11, .int), (12, .int), (13, .int), (14, .int), (15, .int)] (.agg (bc (btag k n e (t.take (t.length - 16)))).toArray) (.agg (bc (t.drop (t.length - 16))).toArray) = some (.bool (!decide (btag k n e (t.take (t.length - 16)) = t.drop (t.length - 16)))) := by
      simp only [aggV, List.toList_toArray, heq, if_true]
    simp only [hagg, go_sem, Nat.reduceEqDiff, Nat.reduceAdd, Nat.reduceLeDiff, Int.reduceEq, Int.reduceLT, Int.reduceLE, Int.reduceAdd, Int.reduceSub, Int.reduceMul, Int.reduceNeg, Int.reduceToNat, Nat.reduceMul]
    by_cases hg : btag k n e (t.take (t.length - 16)) = t.drop (t.length - 16)
    · rw [if_pos (show tagOk k n e t from ⟨by omega, hg⟩)] at hQ
      have hst := v62 (tbl := tbl) T.h121 T.h114 T.h96 T.h95 T.h62 k n 1 hk hn (by omega) (t.take (t.length - 16)) (by rw [List.length_take]; omega) (by rw [List.length_take]; omega)
      simp only [hg, tx_size, h0, hnat, hle, x1, ↓(hst _).run, go_sem, Nat.reduceEqDiff, Nat.reduceAdd, Nat.reduceLeDiff, Int.reduceEq, Int.reduceLT, Int.reduceLE, Int.reduceAdd, Int.reduceSub, Int.reduceMul, Int.reduceNeg, Int.reduceToNat, Nat.reduceMul]
      exact hQ
    · rw [if_neg (show ¬ tagOk k n e t from fun h => hg h.2)] at hQ
      simp only [hg, go_sem, Nat.reduceEqDiff, Nat.reduceAdd, Nat.reduceLeDiff, Int.reduceEq, Int.reduceLT, Int.reduceLE, Int.reduceAdd, Int.reduceSub, Int.reduceMul, Int.reduceNeg, Int.reduceToNat, Nat.reduceMul]
      exact hQ
theorem v24 (T : SealT tbl) (h58 : tbl 58 = some (.code m58)) (h24 : tbl 24 = some (.code m24)) (k n e t : List UInt8) (hk : k.length = 32) (hn : n.length = 12) (he : e.length ≤ 1048576) (ht : t.length ≤ 1048592) (H : AH) :
    Val tbl 24 [.string (tx k), .string (tx n), .string (tx e), .string (tx t)] H (if tagOk k n e t then .tuple #[.string (tx (bodyL k n t)), .int .i64 0] else .tuple #[.string ⟨#[]⟩, .int .i64 19]) H := by
  refine Val.of_all fun Q hQ => ?_
  rw [rn_fun h24, k24]
  have h5 := v56 T k n H.enter
  have hkn : k.length = 32 ∧ n.length = 12 := ⟨hk, hn⟩
  rw [if_pos hkn] at h5
  have e1 : ((1048576 : Int) < e.length) ↔ False := ⟨fun h => by omega, fun h => h.elim⟩
  have e2 : ((1048592 : Int) < t.length) ↔ False := ⟨fun h => by omega, fun h => h.elim⟩
  have hv := v58 T h58 k n e t hk hn he ht
  simp only [↓h5.run, tx_size, e1, e2, go_sem, Nat.reduceEqDiff, Nat.reduceAdd, Nat.reduceLeDiff, Int.reduceEq, Int.reduceLT, Int.reduceLE, Int.reduceAdd, Int.reduceSub, Int.reduceMul, Int.reduceNeg, Int.reduceToNat, Nat.reduceMul]
  by_cases hg : tagOk k n e t
  · rw [if_pos hg] at hQ
    simp only [hg, if_true] at hv
    simp only [↓(hv _).run, go_sem, Nat.reduceEqDiff, Nat.reduceAdd, Nat.reduceLeDiff, Int.reduceEq, Int.reduceLT, Int.reduceLE, Int.reduceAdd, Int.reduceSub, Int.reduceMul, Int.reduceNeg, Int.reduceToNat, Nat.reduceMul]
    exact hQ
  · rw [if_neg hg] at hQ
    simp only [hg, if_false] at hv
    simp only [↓(hv _).run, go_sem, Nat.reduceEqDiff, Nat.reduceAdd, Nat.reduceLeDiff, Int.reduceEq, Int.reduceLT, Int.reduceLE, Int.reduceAdd, Int.reduceSub, Int.reduceMul, Int.reduceNeg, Int.reduceToNat, Nat.reduceMul]
    exact hQ
theorem v26 (R : RefT tbl) (h26 : tbl 26 = some (.code m26)) (k n e t : List UInt8) (hk : k.length = 32) (hn : n.length = 12) (he : e.length ≤ 1048576) (ht : t.length ≤ 1048592) (H : AH) :
    Val tbl 26 [.string (tx k), .string (tx n), .string (tx e), .string (tx t)] H (.tuple #[.string (tx (if 16 ≤ t.length then bodyL k n t else [])), .bool (decide (tagOk k n e t))]) H := by
  refine Val.of_all fun Q hQ => ?_
  rw [rn_fun h26, k26]
  have w1 := w64 (x := (t.length : Int) - 16) (by omega) (by omega)
  by_cases h16 : (t.length : Int) - 16 < 0
  · have hno : ¬ tagOk k n e t := fun h => by have := h.1; omega
    rw [decide_eq_false hno, if_neg (by omega)] at hQ
    simp only [tx_size, w1, h16, go_sem, Nat.reduceEqDiff, Nat.reduceAdd, Nat.reduceLeDiff, Int.reduceEq, Int.reduceLT, Int.reduceLE, Int.reduceAdd, Int.reduceSub, Int.reduceMul, Int.reduceNeg, Int.reduceToNat, Nat.reduceMul]
    exact hQ
  · have h0 : (0 : Int) ≤ (t.length : Int) - 16 := by omega
    have hnat : ((t.length : Int) - 16).toNat = t.length - 16 := by omega
    have hle : t.length - 16 ≤ t.length := by omega
    have x1 : (tx t).extract 0 (t.length - 16) = tx (t.take (t.length - 16)) := by rw [tx_extract]; rfl
    have hst := v31 (tbl := tbl) R.h94 R.h93 R.h91 R.h92 R.h59 R.h65 R.h69 R.h31 k n 1 hk hn (by omega) (t.take (t.length - 16)) (by rw [List.length_take]; omega)
    have hb : streamL k n 1 (t.take (t.length - 16)) = bodyL k n t := rfl
    rw [hb] at hst
    have hbl : (bodyL k n t).length = t.length - 16 := by rw [bodyL, streamL_len, List.length_take]; omega
    have hv := v25 R k n e (bodyL k n t) hk hn he (by omega)
    have hiff := seal_body (k := k) (n := n) (e := e) (t := t) (by omega)
    have hd : decide (sealL k n e (bodyL k n t) = t) = decide (tagOk k n e t) := decide_eq_decide.2 hiff
    rw [if_pos (show 16 ≤ t.length by omega)] at hQ
    simp only [tx_size, w1, h16, h0, hnat, hle, x1, ↓(hst _).run, ↓(hv _).run, tx_inj, hd, go_sem, Nat.reduceEqDiff, Nat.reduceAdd, Nat.reduceLeDiff, Int.reduceEq, Int.reduceLT, Int.reduceLE, Int.reduceAdd, Int.reduceSub, Int.reduceMul, Int.reduceNeg, Int.reduceToNat, Nat.reduceMul]
    exact hQ
theorem v27 (h27 : tbl 27 = some (.code m27)) (s w : List UInt8) (e : Int) (b : Bool) (H : AH) : Val tbl 27 [.string (tx s), .int .i64 e, .string (tx w), .bool b] H (.bool (if b = true then decide (s = w ∧ e = 0) else decide (s = [] ∧ e = 19))) H := by
  refine Val.of_all fun Q hQ => ?_
  rw [rn_fun h27, k27]
  cases b with
  | false =>
    rw [if_neg (by simp)] at hQ
    by_cases hs : s = []
    · subst hs
      simp only [tx_nil, tx_inj, go_sem, Nat.reduceEqDiff, Nat.reduceAdd, Nat.reduceLeDiff, Int.reduceEq, Int.reduceLT, Int.reduceLE, Int.reduceAdd, Int.reduceSub, Int.reduceMul, Int.reduceNeg, Int.reduceToNat, Nat.reduceMul]
      exact leaf hQ (by simp) rfl
    · simp only [tx_nil, tx_inj, hs, go_sem, Nat.reduceEqDiff, Nat.reduceAdd, Nat.reduceLeDiff, Int.reduceEq, Int.reduceLT, Int.reduceLE, Int.reduceAdd, Int.reduceSub, Int.reduceMul, Int.reduceNeg, Int.reduceToNat, Nat.reduceMul]
      exact leaf hQ (by simp [hs]) rfl
  | true =>
    rw [if_pos rfl] at hQ
    by_cases hs : s = w
    · subst hs
      simp only [tx_inj, go_sem, Nat.reduceEqDiff, Nat.reduceAdd, Nat.reduceLeDiff, Int.reduceEq, Int.reduceLT, Int.reduceLE, Int.reduceAdd, Int.reduceSub, Int.reduceMul, Int.reduceNeg, Int.reduceToNat, Nat.reduceMul]
      exact leaf hQ (by simp) rfl
    · simp only [tx_inj, hs, go_sem, Nat.reduceEqDiff, Nat.reduceAdd, Nat.reduceLeDiff, Int.reduceEq, Int.reduceLT, Int.reduceLE, Int.reduceAdd, Int.reduceSub, Int.reduceMul, Int.reduceNeg, Int.reduceToNat, Nat.reduceMul]
      exact leaf hQ (by simp [hs]) rfl
/-- What is opened answers as the reference says. -/
theorem v27o (h27 : tbl 27 = some (.code m27)) (k n e t : List UInt8) (H : AH) : ∀ s c, (if tagOk k n e t then Value.tuple #[.string (tx (bodyL k n t)), .int .i64 0] else .tuple #[.string ⟨#[]⟩, .int .i64 19]) = .tuple #[.string (tx s), .int .i64 c] → Val tbl 27 [.string (tx s), .int .i64 c, .string (tx (if 16 ≤ t.length then bodyL k n t else [])), .bool (decide (tagOk k n e t))] H (.bool true) H := by
  intro s c h
  have hv := v27 (tbl := tbl) h27 s (if 16 ≤ t.length then bodyL k n t else []) c (decide (tagOk k n e t)) H
  by_cases hg : tagOk k n e t
  · rw [if_pos hg] at h
    simp only [Value.tuple.injEq, Array.mk.injEq, List.cons.injEq, Value.string.injEq, tx_inj, Value.int.injEq, true_and, and_true] at h
    obtain ⟨h1, h2⟩ := h
    rw [decide_eq_true hg] at hv ⊢
    rw [if_pos hg.1, ← h1, ← h2, if_pos rfl] at hv
    rw [if_pos hg.1, ← h1, ← h2]
    simpa using hv
  · rw [if_neg hg, tx_nil] at h
    simp only [Value.tuple.injEq, Array.mk.injEq, List.cons.injEq, Value.string.injEq, tx_inj, Value.int.injEq, true_and, and_true] at h
    obtain ⟨h1, h2⟩ := h
    rw [decide_eq_false hg] at hv ⊢
    rw [← h1, ← h2] at hv ⊢
    simpa using hv
end Go.Proofs.Ytildhljhbbhmmaa.AM
namespace Go.Proofs.Ytildhljhbbhmmaa.AM
open Go
set_option linter.all false
set_option maxRecDepth 10000
variable {tbl : Tbl} [hT : TMono tbl]

theorem v21b (h21 : tbl 21 = some (.code m21)) (b : Bool) (e : Int) (H : AH) : Val tbl 21 [.bool b, .int .i64 e] H (.int .i64 (if b = true then e else 0)) H := by
  have := v21 (tbl := tbl) h21 (b = true) e H
  rw [show decide (b = true) = b by cases b <;> rfl] at this
  exact this
theorem v19_2 (h19 : tbl 19 = some (.code m19)) (X : AH) (a b : Int) : Val tbl 19 [.slice (some ⟨X.next, 0, none⟩) 2 2] (X.push ⟨[.int .i64 a, .int .i64 b], 1, false⟩) (.int .i64 (firstL [a, b])) (X.push ⟨[.int .i64 a, .int .i64 b], 1, false⟩) :=
  v19 h19 _ _ [a, b] (rowS (X := X) (l := [a, b]) (by show 0 < 2; omega)) (by show 2 < 1000000000; omega)
end Go.Proofs.Ytildhljhbbhmmaa.AM
namespace Go.Proofs.Ytildhljhbbhmmaa.AM
open Go
set_option linter.all false
set_option maxRecDepth 10000
variable {tbl : Tbl} [hT : TMono tbl]

theorem v4 (T : SealT tbl) (R : RefT tbl) (h58 : tbl 58 = some (.code m58)) (h24 : tbl 24 = some (.code m24)) (h4 : tbl 4 = some (.code m4)) (k n e t : List UInt8) (H : AH) :
    Val tbl 4 [.string (tx k), .string (tx n), .string (tx e), .string (tx t)] H (.bool true) H := by
  refine Val.of_all fun Q hQ => ?_
  rw [rn_fun h4, k4]
  have a18 := v18 T k n e t
  have a17 := v17 T
  have a20 := v20 (tbl := tbl) R.h21 R.h20 k n
  have a21 := v21b (tbl := tbl) R.h21
  have a23 := fun s u x w => v23 (tbl := tbl) R.h23 s u x w
  have a22e := v22 (tbl := tbl) R.h22 e
  have a22t := v22 (tbl := tbl) R.h22 t
  have b192 := fun a b => v19_2 (tbl := tbl) R.h19 H.enter a b
  simp only [nx_enter] at b192
  have e1 : ((1048576 : Int) < e.length) ↔ ¬ e.length ≤ 1048576 := by omega
  have e2 : ((1048576 : Int) < t.length) ↔ ¬ t.length ≤ 1048576 := by omega
  have o8 := a23 [] [] 8 8
  have o6 := a23 [] [] 6 6
  have n80 : ¬ (8 : Int) = 0 := by decide
  have n60 : ¬ (6 : Int) = 0 := by decide
  by_cases hkn : k.length = 32 ∧ n.length = 12
  · rw [if_pos hkn] at a18
    simp only [if_pos hkn] at a20
    by_cases he : e.length ≤ 1048576
    · by_cases ht : t.length ≤ 1048576
      · rw [if_pos ⟨he, ht⟩] at a18
        obtain ⟨s, hs⟩ : ∃ s, s = sealL k n e t := ⟨_, rfl⟩
        rw [← hs] at a18
        have oo := a23 s s 0 0
        simp only [↓(a18 _).run, ↓(a20 _).run, tx_size, e1, he, go_sem, Nat.reduceEqDiff, Nat.reduceAdd, Nat.reduceLeDiff, Int.reduceEq, Int.reduceLT, Int.reduceLE, Int.reduceAdd, Int.reduceSub, Int.reduceMul, Int.reduceNeg, Int.reduceToNat, Nat.reduceMul]
        simp only [tx_size, e2, ht, ↓(a21 _ _ _).run, ↓(b192 _ _).run, go_sem, Nat.reduceEqDiff, Nat.reduceAdd, Nat.reduceLeDiff, Int.reduceEq, Int.reduceLT, Int.reduceLE, Int.reduceAdd, Int.reduceSub, Int.reduceMul, Int.reduceNeg, Int.reduceToNat, Nat.reduceMul]
        by_cases hbe : e.length ≤ 10000
        · by_cases hbt : t.length ≤ 10000
          · have hsl : s.length = t.length + 16 := by rw [hs, sealL_len]
            have a24 := v24 T h58 h24 k n e s hkn.1 hkn.2 he (by omega)
            obtain ⟨g1, g2⟩ := tagOk_seal (k := k) (n := n) (e := e) (t := t)
            rw [← hs] at g1 g2
            rw [if_pos g1, g2] at a24
            have a25 := v25 R k n e t hkn.1 hkn.2 he ht
            rw [← hs] at a25
            simp only [firstL, if_true, ↓(a22e _).run, ↓(a22t _).run, hbe, hbt, ↓(a24 _).run, ↓(a17 _).run, ↓(a25 _).run, ↓(oo _).run, tx_inj, go_sem, Nat.reduceEqDiff, Nat.reduceAdd, Nat.reduceLeDiff, Int.reduceEq, Int.reduceLT, Int.reduceLE, Int.reduceAdd, Int.reduceSub, Int.reduceMul, Int.reduceNeg, Int.reduceToNat, Nat.reduceMul]
            exact hQ
          · simp only [firstL, if_true, ↓(a22e _).run, ↓(a22t _).run, hbe, hbt, ↓(a17 _).run, ↓(oo _).run, tx_inj, go_sem, Nat.reduceEqDiff, Nat.reduceAdd, Nat.reduceLeDiff, Int.reduceEq, Int.reduceLT, Int.reduceLE, Int.reduceAdd, Int.reduceSub, Int.reduceMul, Int.reduceNeg, Int.reduceToNat, Nat.reduceMul]
            exact hQ
        · simp only [firstL, if_true, ↓(a22e _).run, ↓(a22t _).run, hbe, ↓(a17 _).run, ↓(oo _).run, tx_inj, go_sem, Nat.reduceEqDiff, Nat.reduceAdd, Nat.reduceLeDiff, Int.reduceEq, Int.reduceLT, Int.reduceLE, Int.reduceAdd, Int.reduceSub, Int.reduceMul, Int.reduceNeg, Int.reduceToNat, Nat.reduceMul]
          exact hQ
      · rw [if_neg fun h => ht h.2, tx_nil] at a18
        simp only [↓(a18 _).run, ↓(a20 _).run, tx_size, e1, he, go_sem, Nat.reduceEqDiff, Nat.reduceAdd, Nat.reduceLeDiff, Int.reduceEq, Int.reduceLT, Int.reduceLE, Int.reduceAdd, Int.reduceSub, Int.reduceMul, Int.reduceNeg, Int.reduceToNat, Nat.reduceMul]
        simp only [tx_size, e2, ht, ↓(a21 _ _ _).run, ↓(b192 _ _).run, go_sem, Nat.reduceEqDiff, Nat.reduceAdd, Nat.reduceLeDiff, Int.reduceEq, Int.reduceLT, Int.reduceLE, Int.reduceAdd, Int.reduceSub, Int.reduceMul, Int.reduceNeg, Int.reduceToNat, Nat.reduceMul]
        simp only [firstL, if_true, n80, if_false, ↓(a17 _).run, ↓(o8 _).run, go_sem, Nat.reduceEqDiff, Nat.reduceAdd, Nat.reduceLeDiff, Int.reduceEq, Int.reduceLT, Int.reduceLE, Int.reduceAdd, Int.reduceSub, Int.reduceMul, Int.reduceNeg, Int.reduceToNat, Nat.reduceMul]
        exact hQ
    · rw [if_neg fun h => he h.1, tx_nil] at a18
      simp only [↓(a18 _).run, ↓(a20 _).run, tx_size, e1, he, go_sem, Nat.reduceEqDiff, Nat.reduceAdd, Nat.reduceLeDiff, Int.reduceEq, Int.reduceLT, Int.reduceLE, Int.reduceAdd, Int.reduceSub, Int.reduceMul, Int.reduceNeg, Int.reduceToNat, Nat.reduceMul]
      simp only [↓(a21 _ _ _).run, ↓(b192 _ _).run, go_sem, Nat.reduceEqDiff, Nat.reduceAdd, Nat.reduceLeDiff, Int.reduceEq, Int.reduceLT, Int.reduceLE, Int.reduceAdd, Int.reduceSub, Int.reduceMul, Int.reduceNeg, Int.reduceToNat, Nat.reduceMul]
      simp only [firstL, if_true, n80, if_false, ↓(a17 _).run, ↓(o8 _).run, go_sem, Nat.reduceEqDiff, Nat.reduceAdd, Nat.reduceLeDiff, Int.reduceEq, Int.reduceLT, Int.reduceLE, Int.reduceAdd, Int.reduceSub, Int.reduceMul, Int.reduceNeg, Int.reduceToNat, Nat.reduceMul]
      exact hQ
  · rw [if_neg hkn, tx_nil] at a18
    simp only [if_neg hkn] at a20
    simp only [↓(a18 _).run, ↓(a20 _).run, tx_size, e1, go_sem, Nat.reduceEqDiff, Nat.reduceAdd, Nat.reduceLeDiff, Int.reduceEq, Int.reduceLT, Int.reduceLE, Int.reduceAdd, Int.reduceSub, Int.reduceMul, Int.reduceNeg, Int.reduceToNat, Nat.reduceMul]
    by_cases he : e.length ≤ 1048576
    · simp only [tx_size, e1, e2, he, ↓(a21 _ _ _).run, ↓(b192 _ _).run, go_sem, Nat.reduceEqDiff, Nat.reduceAdd, Nat.reduceLeDiff, Int.reduceEq, Int.reduceLT, Int.reduceLE, Int.reduceAdd, Int.reduceSub, Int.reduceMul, Int.reduceNeg, Int.reduceToNat, Nat.reduceMul]
      simp only [firstL, if_true, n60, if_false, ↓(a17 _).run, ↓(o6 _).run, go_sem, Nat.reduceEqDiff, Nat.reduceAdd, Nat.reduceLeDiff, Int.reduceEq, Int.reduceLT, Int.reduceLE, Int.reduceAdd, Int.reduceSub, Int.reduceMul, Int.reduceNeg, Int.reduceToNat, Nat.reduceMul]
      exact hQ
    · simp only [tx_size, e1, e2, he, ↓(a21 _ _ _).run, ↓(b192 _ _).run, go_sem, Nat.reduceEqDiff, Nat.reduceAdd, Nat.reduceLeDiff, Int.reduceEq, Int.reduceLT, Int.reduceLE, Int.reduceAdd, Int.reduceSub, Int.reduceMul, Int.reduceNeg, Int.reduceToNat, Nat.reduceMul]
      simp only [firstL, if_true, n60, if_false, ↓(a17 _).run, ↓(o6 _).run, go_sem, Nat.reduceEqDiff, Nat.reduceAdd, Nat.reduceLeDiff, Int.reduceEq, Int.reduceLT, Int.reduceLE, Int.reduceAdd, Int.reduceSub, Int.reduceMul, Int.reduceNeg, Int.reduceToNat, Nat.reduceMul]
      exact hQ
end Go.Proofs.Ytildhljhbbhmmaa.AM
/- Arguments of laws that are texts, bytes, truths. -/
namespace Go.Proofs.Ytildhljhbbhmmaa.AM
open Go Go.RowKit Go.ChangeShapes Go.WideShapes Go.ChangeAt
set_option linter.all false

theorem cell_str {P : Program} {w : World} {r : Reach} {b : Nat} {u : TypeId} {v : Value} (hu : P.underlying u = some .string) (h : Cell.okWide P w r b u v) : ∃ s, v = .string s ∧ s.size ≤ 9223372036854775807 := by
  unfold Cell.okWide at h
  rw [hu] at h
  cases v <;> simp only [Cell.ok, hu] at h
  refine ⟨_, rfl, ?_⟩
  have e : IntKind.i64.max = 9223372036854775807 := rfl
  rw [e] at h
  omega
theorem val_str {P : Program} {w : World} {r : Reach} {b : Nat} {u : TypeId} {v : Value} (hu : P.underlying u = some .string) (h : Value.okWide P w r b u v) : ∃ s, v = .string s ∧ s.size ≤ 9223372036854775807 := by
  unfold Value.okWide at h
  rw [hu] at h
  exact cell_str hu h
theorem has_i64 {n : Int} (h : IntKind.i64.has n) : -9223372036854775808 ≤ n ∧ n ≤ 9223372036854775807 := h
end Go.Proofs.Ytildhljhbbhmmaa.AM
namespace Go.Proofs.Ytildhljhbbhmmaa.AM
open Go
set_option linter.all false
set_option maxRecDepth 10000
variable {tbl : Tbl} [hT : TMono tbl]

/-- A place in a row of L cells, out of any number. -/
theorem place_eq {a : Int} {L : Nat} (hL : 0 < L) (hL2 : L ≤ 1000000000) (ha : -9223372036854775808 ≤ a ∧ a ≤ 9223372036854775807) : ∃ p : Nat, p < L ∧ IntKind.wrap .i64 (a.tmod L + L) = a.tmod L + L ∧ (a.tmod L + L).tmod L = p := by
  have h1 := Int.emod_add_mul_ediv a L
  have hpos : (0 : Int) < L := by omega
  have e : a.tmod L = if 0 ≤ a then a % L else -((-a) % L) := by
    split
    · exact Int.tmod_eq_emod_of_nonneg (by omega)
    · have : a = -(-a) := by omega
      rw [this, Int.neg_tmod, Int.tmod_eq_emod_of_nonneg (by omega), Int.neg_neg]
  have b1 := Int.emod_nonneg a (show (L : Int) ≠ 0 by omega)
  have b2 := Int.emod_lt_of_pos a hpos
  have b3 := Int.emod_nonneg (-a) (show (L : Int) ≠ 0 by omega)
  have b4 := Int.emod_lt_of_pos (-a) hpos
  have r : 0 < a.tmod L + L ∧ a.tmod L + L < 2 * L := by rw [e]; split <;> omega
  have w := w64 (x := a.tmod L + L) (by omega) (by omega)
  have r2 := Int.emod_nonneg (a.tmod L + L) (show (L : Int) ≠ 0 by omega)
  have r3 := Int.emod_lt_of_pos (a.tmod L + L) hpos
  exact ⟨((a.tmod L + L) % L).toNat, by omega, w, by rw [Int.tmod_eq_emod_of_nonneg (by omega)]; omega⟩
theorem slcAt_pre {H : AH} {k n c h : Nat} {l : List UInt8} (hk : H.get k = some (u8r l)) (hc : h ≤ c) : slcAt H 1 (.slice (some ⟨k, 0, none⟩) n c) 0 h = some (.slice (some ⟨k, 0, none⟩) h c) := by
  simp only [slcAt, hk, u8r_es, if_true]
  rw [if_pos hc]
theorem v5 (T : SealT tbl) (R : RefT tbl) (h58 : tbl 58 = some (.code m58)) (h24 : tbl 24 = some (.code m24)) (h26 : tbl 26 = some (.code m26)) (h27 : tbl 27 = some (.code m27)) (h5 : tbl 5 = some (.code m5)) (k n e t : List UInt8) (a b : Int) (ha : -9223372036854775808 ≤ a ∧ a ≤ 9223372036854775807) (hb : 0 ≤ b ∧ b ≤ 255) (cut : Bool) (H : AH) :
    Val tbl 5 [.string (tx k), .string (tx n), .string (tx e), .string (tx t), .int .i64 a, .int .u8 b, .bool cut] H (.bool true) H := by
  refine Val.of_all fun Q hQ => ?_
  rw [rn_fun h5, k5]
  have a18 := v18 T k n e t
  have a17 := v17 T
  have a22e := v22 (tbl := tbl) R.h22 e
  have a22t := v22 (tbl := tbl) R.h22 t
  by_cases hok : (k.length = 32 ∧ n.length = 12) ∧ e.length ≤ 1048576 ∧ t.length ≤ 1048576
  · obtain ⟨hkn, he, ht⟩ := hok
    rw [if_pos hkn, if_pos ⟨he, ht⟩] at a18
    obtain ⟨s, hs⟩ : ∃ s, s = sealL k n e t := ⟨_, rfl⟩
    rw [← hs] at a18
    by_cases hb0 : b = 0
    · simp only [↓(a18 _).run, ↓(a17 _).run, hb0, go_sem, Nat.reduceEqDiff, Nat.reduceAdd, Nat.reduceLeDiff, Int.reduceEq, Int.reduceLT, Int.reduceLE, Int.reduceAdd, Int.reduceSub, Int.reduceMul, Int.reduceNeg, Int.reduceToNat, Nat.reduceMul]
      exact hQ
    · by_cases hbt : t.length ≤ 10000
      · by_cases hbe : e.length ≤ 10000
        · have hsl : s.length = t.length + 16 := by rw [hs, sealL_len]
          obtain ⟨p, hp, hw, hm⟩ := place_eq (a := a) (L := s.length) (by omega) (by omega) ha
          have hL0 : ¬ (s.length : Int) = 0 := by omega
          have hlim : s.length ≤ 140737488355328 := by omega
          have hu : (⟨bc s, 1, false⟩ : Blk) = u8r s := rfl
          simp only [↓(a18 _).run, ↓(a17 _).run, ↓(a22t _).run, ↓(a22e _).run, hb0, hbt, hbe, tx_size, byteCells_eq, tx_data, hlim, hu, hL0, hw, hm, go_sem, Nat.reduceEqDiff, Nat.reduceAdd, Nat.reduceLeDiff, Int.reduceEq, Int.reduceLT, Int.reduceLE, Int.reduceAdd, Int.reduceSub, Int.reduceMul, Int.reduceNeg, Int.reduceToNat, Nat.reduceMul]
          have hxs : (⟨#[120]⟩ : ByteArray) = tx [120] := rfl
          have z1 : e.length + 1 ≤ 9223372036854775807 := by omega
          have z2 : e.length ≤ 9223372036854775806 := by omega
          have z3 : e.length + [(120 : UInt8)].length ≤ 9223372036854775807 := z1
          have hxl : (e ++ [120]).length ≤ 1048576 := by rw [List.length_append]; show e.length + 1 ≤ 1048576; omega
          have x24 := v24 T h58 h24 k n (e ++ [120]) s hkn.1 hkn.2 hxl (by omega)
          have x26 := v26 R h26 k n (e ++ [120]) s hkn.1 hkn.2 hxl (by omega)
          obtain ⟨s2, c2, hr2⟩ : ∃ s2 c2, (if tagOk k n (e ++ [120]) s then Value.tuple #[.string (tx (bodyL k n s)), .int .i64 0] else .tuple #[.string ⟨#[]⟩, .int .i64 19]) = .tuple #[.string (tx s2), .int .i64 c2] := by
            by_cases h : tagOk k n (e ++ [120]) s
            · exact ⟨_, _, by rw [if_pos h]⟩
            · exact ⟨[], 19, by rw [if_neg h]; rfl⟩
          have x27 := fun X => v27o (tbl := tbl) h27 k n (e ++ [120]) s X s2 c2 hr2
          rw [hr2] at x24
          have p0 : (0 : Int) ≤ p := by omega
          cases cut with
          | true =>
            have hg : (H.enter.push (u8r s)).get H.next = some (u8r s) := AH.get_push_eq H.enter _
            have hsl2 := slcAt_pre (n := s.length) (c := s.length) (h := p) hg (by omega)
            have hsb := slcBytes_take (n := p) (c := s.length) hg (by omega)
            have tbl1 : (s.take p).length ≤ 1048592 := by rw [List.length_take]; omega
            have y24 := v24 T h58 h24 k n e (s.take p) hkn.1 hkn.2 he tbl1
            have y26 := v26 R h26 k n e (s.take p) hkn.1 hkn.2 he tbl1
            obtain ⟨s1, c1, hr1⟩ : ∃ s1 c1, (if tagOk k n e (s.take p) then Value.tuple #[.string (tx (bodyL k n (s.take p))), .int .i64 0] else .tuple #[.string ⟨#[]⟩, .int .i64 19]) = .tuple #[.string (tx s1), .int .i64 c1] := by
              by_cases h : tagOk k n e (s.take p)
              · exact ⟨_, _, by rw [if_pos h]⟩
              · exact ⟨[], 19, by rw [if_neg h]; rfl⟩
            have y27 := fun X => v27o (tbl := tbl) h27 k n e (s.take p) X s1 c1 hr1
            rw [hr1] at y24
            have hps : p ≤ s.length := by omega
            simp only [byteCells_eq, tx_data, hu, p0, hps, Int.toNat_natCast, hsl2, hsb, hxs, tx_size, tx_cat, z1, z2, z3, ↓(y24 _).run, ↓(x24 _).run, ↓(y26 _).run, ↓(x26 _).run, ↓(y27 _).run, ↓(x27 _).run, go_sem, Nat.reduceEqDiff, Nat.reduceAdd, Nat.reduceLeDiff, Int.reduceEq, Int.reduceLT, Int.reduceLE, Int.reduceAdd, Int.reduceSub, Int.reduceMul, Int.reduceNeg, Int.reduceToNat, Nat.reduceMul]
            exact hQ
          | false =>
            obtain ⟨u, rfl⟩ : ∃ u : UInt8, b = (u.toNat : Int) := ⟨UInt8.ofNat b.toNat, by
              have : (UInt8.ofNat b.toNat).toNat = b.toNat := by rw [UInt8.toNat_ofNat']; omega
              omega⟩
            have hg : (H.enter.push (u8r s)).get H.next = some (u8r s) := AH.get_push_eq H.enter _
            have hgs : ∀ X : Option Blk, ((H.enter.push (u8r s)).set H.next X).get H.next = X := fun X => AH.get_set_eq _ _ (by rw [AH.next_push, nx_enter]; omega)
            obtain ⟨sb', hsb'⟩ : ∃ sb', sb' = s.set p (gb s p ^^^ u) := ⟨_, rfl⟩
            have hsbl : sb'.length = s.length := by rw [hsb', List.length_set]
            have hat := u8r_at (l := s) (i := p) hp
            have hx8 := xor8 (gb s p) u
            have hsb := slcBytes_row (n := s.length) (c := s.length) (hgs (some (u8r sb'))) hsbl.symm
            have tbl1 : sb'.length ≤ 1048592 := by omega
            have y24 := v24 T h58 h24 k n e sb' hkn.1 hkn.2 he tbl1
            have y26 := v26 R h26 k n e sb' hkn.1 hkn.2 he tbl1
            obtain ⟨s1, c1, hr1⟩ : ∃ s1 c1, (if tagOk k n e sb' then Value.tuple #[.string (tx (bodyL k n sb')), .int .i64 0] else .tuple #[.string ⟨#[]⟩, .int .i64 19]) = .tuple #[.string (tx s1), .int .i64 c1] := by
              by_cases h : tagOk k n e sb'
              · exact ⟨_, _, by rw [if_pos h]⟩
              · exact ⟨[], 19, by rw [if_neg h]; rfl⟩
            have y27 := fun X => v27o (tbl := tbl) h27 k n e sb' X s1 c1 hr1
            rw [hr1] at y24
            have hps : (p : Int) < s.length := by omega
            have hp1 : p + 1 ≤ s.length := by omega
            have hlt : H.next < H.next + 1 := by omega
            simp only [byteCells_eq, tx_data, hu, p0, hps, hp1, hlt, Int.toNat_natCast, hg, hat, hx8, u8r_len, u8r_ro, u8r_es, u8r_set, ← hsb', hgs, hsb, idxSP_slc, stc_eq, stB_some, splice_one, addA, Nat.zero_add, hxs, tx_size, tx_cat, z1, z2, z3, ↓(y24 _).run, ↓(x24 _).run, ↓(y26 _).run, ↓(x26 _).run, ↓(y27 _).run, ↓(x27 _).run, go_sem, Nat.reduceEqDiff, Nat.reduceAdd, Nat.reduceLeDiff, Int.reduceEq, Int.reduceLT, Int.reduceLE, Int.reduceAdd, Int.reduceSub, Int.reduceMul, Int.reduceNeg, Int.reduceToNat, Nat.reduceMul]
            rw [back_p3 (by rw [lw_set, lw_push, lw_enter]; omega) rfl]
            exact hQ
        · simp only [↓(a18 _).run, ↓(a17 _).run, ↓(a22t _).run, ↓(a22e _).run, hb0, hbt, hbe, go_sem, Nat.reduceEqDiff, Nat.reduceAdd, Nat.reduceLeDiff, Int.reduceEq, Int.reduceLT, Int.reduceLE, Int.reduceAdd, Int.reduceSub, Int.reduceMul, Int.reduceNeg, Int.reduceToNat, Nat.reduceMul]
          exact hQ
      · simp only [↓(a18 _).run, ↓(a17 _).run, ↓(a22t _).run, hb0, hbt, go_sem, Nat.reduceEqDiff, Nat.reduceAdd, Nat.reduceLeDiff, Int.reduceEq, Int.reduceLT, Int.reduceLE, Int.reduceAdd, Int.reduceSub, Int.reduceMul, Int.reduceNeg, Int.reduceToNat, Nat.reduceMul]
        exact hQ
  · obtain ⟨w, hw, hres⟩ : ∃ w : Int, w ≠ 0 ∧ (if k.length = 32 ∧ n.length = 12 then (if e.length ≤ 1048576 ∧ t.length ≤ 1048576 then Value.tuple #[.string (tx (sealL k n e t)), .int .i64 0] else .tuple #[.string ⟨#[]⟩, .int .i64 8]) else .tuple #[.string ⟨#[]⟩, .int .i64 6]) = .tuple #[.string ⟨#[]⟩, .int .i64 w] := by
      by_cases h1 : k.length = 32 ∧ n.length = 12
      · by_cases h2 : e.length ≤ 1048576 ∧ t.length ≤ 1048576
        · exact absurd ⟨h1, h2⟩ hok
        · exact ⟨8, by decide, by rw [if_pos h1, if_neg h2]⟩
      · exact ⟨6, by decide, by rw [if_neg h1]⟩
    rw [hres] at a18
    simp only [↓(a18 _).run, ↓(a17 _).run, hw, go_sem, Nat.reduceEqDiff, Nat.reduceAdd, Nat.reduceLeDiff, Int.reduceEq, Int.reduceLT, Int.reduceLE, Int.reduceAdd, Int.reduceSub, Int.reduceMul, Int.reduceNeg, Int.reduceToNat, Nat.reduceMul]
    exact hQ
end Go.Proofs.Ytildhljhbbhmmaa.AM
/- Compiled functions. WRITTEN BY A PROGRAM (mk.py). -/
namespace Go.Proofs.Ytildhljhbbhmmaa.AM
open Go
set_option maxRecDepth 100000
set_option linter.all false
def k120 : MCode := (.seq (.ops [⟨(some 4), none, false, (.mov (.const (.string ⟨#[]⟩)))⟩]) (.seq (.ops [⟨(some 7), none, false, (.mov (.tmp 1))⟩, ⟨(some 8), none, false, (.mkSlice [(.int .u8 0)] 1 1 (.tmp 7) (.tmp 7))⟩, ⟨(some 5), none, false, (.mov (.tmp 8))⟩]) (.seq (.seq (.ops [⟨(some 9), none, false, (.mov (.tmp 1))⟩, ⟨(some 10), none, false, (.bin .int .sub (.tmp 9) (.const (.int .i64 1)))⟩, ⟨(some 6), none, false, (.mov (.tmp 10))⟩]) (.block 0 (.loop (.seq (.seq (.ops [⟨(some 11), none, false, (.mov (.tmp 6))⟩, ⟨(some 12), none, false, (.bin .int .geq (.tmp 11) (.const (.int .i64 0)))⟩]) (.cond (.tmp 12) .skip (.exit 0))) (.seq (.block 1 (.seq (.ops [⟨(some 15), none, false, (.mov (.tmp 5))⟩, ⟨(some 16), none, false, (.mov (.tmp 6))⟩, ⟨(some 17), none, false, (.mov (.tmp 0))⟩, ⟨(some 18), none, false, (.conv .u8 (.tmp 17))⟩, ⟨(some 19), none, false, (.idxS 1 (.tmp 15) (.tmp 16))⟩, ⟨none, none, false, (.store 1 (.tmp 19) (.tmp 18))⟩]) (.ops [⟨(some 20), none, false, (.mov (.tmp 0))⟩, ⟨(some 21), none, false, (.bin .int .shr (.tmp 20) (.const (.int .u64 8)))⟩, ⟨(some 0), none, false, (.mov (.tmp 21))⟩]))) (.ops [⟨(some 13), none, false, (.mov (.tmp 6))⟩, ⟨(some 14), none, false, (.bin .int .sub (.tmp 13) (.const (.int .i64 1)))⟩, ⟨(some 6), none, false, (.mov (.tmp 14))⟩])))))) (.seq (.ops [⟨(some 22), none, false, (.mov (.tmp 5))⟩, ⟨(some 23), none, false, (.toStr (.tmp 22))⟩, ⟨(some 4), none, false, (.mov (.tmp 23))⟩]) .ret))))
def m120 : MFun := ⟨k120, [(.tmp 4)]⟩
theorem c120 : compFn Try.prog Try.f120 = some m120 := by kernel_rfl
def k107 : MCode := (.seq (.ops [⟨(some 6), none, false, (.mov (.const (.string ⟨#[]⟩)))⟩, ⟨(some 7), none, false, (.mov (.const (.string ⟨#[]⟩)))⟩]) (.seq (.ops [⟨(some 12), none, false, (.mov (.tmp 0))⟩, ⟨(some 13), none, false, (.sliceStr (.tmp 12) (some (.const (.int .i64 8))) none)⟩, ⟨(some 8), none, false, (.mov (.tmp 13))⟩]) (.seq (.ops [⟨(some 9), none, false, (.mov (.const (.int .i64 0)))⟩]) (.seq (.seq (.ops [⟨(some 10), none, false, (.mov (.const (.int .i64 8)))⟩]) (.block 0 (.loop (.seq (.seq (.ops [⟨(some 14), none, false, (.mov (.tmp 10))⟩, ⟨(some 15), none, false, (.bin .int .lss (.tmp 14) (.const (.int .i64 12)))⟩]) (.cond (.tmp 15) .skip (.exit 0))) (.seq (.block 1 (.ops [⟨(some 18), none, false, (.mov (.tmp 9))⟩, ⟨(some 19), none, false, (.bin .int .shl (.tmp 18) (.const (.int .u64 8)))⟩, ⟨(some 20), none, false, (.mov (.tmp 8))⟩, ⟨(some 21), none, false, (.mov (.tmp 10))⟩, ⟨(some 22), none, false, (.strIdx (.tmp 20) (.tmp 21))⟩, ⟨(some 23), none, false, (.conv .i64 (.tmp 22))⟩, ⟨(some 24), none, false, (.bin .int .or (.tmp 19) (.tmp 23))⟩, ⟨(some 9), none, false, (.mov (.tmp 24))⟩])) (.ops [⟨(some 16), none, false, (.mov (.tmp 10))⟩, ⟨(some 17), none, false, (.bin .int .add (.tmp 16) (.const (.int .i64 1)))⟩, ⟨(some 10), none, false, (.mov (.tmp 17))⟩])))))) (.seq (.ops [⟨(some 11), none, false, (.mov (.const (.string ⟨#[0]⟩)))⟩]) (.seq (.seq (.ops [⟨(some 25), none, false, (.mov (.tmp 2))⟩]) (.cond (.tmp 25) (.ops [⟨(some 11), none, false, (.mov (.const (.string ⟨#[1]⟩)))⟩]) .skip)) (.seq (.opsD [⟨(some 26), none, false, (.mov (.tmp 8))⟩, ⟨(some 27), none, false, (.sliceStr (.tmp 26) none (some (.const (.int .i64 8))))⟩, ⟨(some 28), none, false, (.mov (.tmp 9))⟩, ⟨(some 29), none, false, (.mov (.tmp 1))⟩, ⟨(some 30), none, false, (.bin .int .add (.tmp 28) (.tmp 29))⟩, ⟨(some 31), none, false, (.call false (.func 120) [(.tmp 30), (.const (.int .i64 4))])⟩, ⟨(some 32), none, false, (.bin .str .add (.tmp 27) (.tmp 31))⟩, ⟨(some 33), none, false, (.mov (.tmp 0))⟩, ⟨(some 34), none, false, (.mov (.tmp 1))⟩, ⟨(some 35), none, false, (.call false (.func 120) [(.tmp 34), (.const (.int .i64 8))])⟩, ⟨(some 36), none, false, (.mov (.tmp 11))⟩, ⟨(some 37), none, false, (.buildSlice [(.string ⟨#[]⟩), (.string ⟨#[]⟩), (.string ⟨#[]⟩)] 1 3 [(0, (1, (.tmp 33))), (1, (1, (.tmp 35))), (2, (1, (.tmp 36)))])⟩, ⟨(some 38), none, false, (.call false (.func 113) [(.tmp 37)])⟩, ⟨(some 6), none, false, (.mov (.tmp 32))⟩, ⟨(some 7), none, false, (.mov (.tmp 38))⟩]) .ret)))))))
def m107 : MFun := ⟨k107, [(.tmp 6), (.tmp 7)]⟩
theorem c107 : compFn Try.prog Try.f107 = some m107 := by kernel_rfl
def k104 : MCode := (.seq (.ops [⟨(some 5), none, false, (.box 1 (.tmp 0))⟩, ⟨(some 10), none, false, (.mov (.const (.string ⟨#[]⟩)))⟩, ⟨(some 11), none, false, (.mov (.const (.bool false)))⟩]) (.seq (.ops [⟨(some 15), none, false, (.mov (.tmp 1))⟩, ⟨(some 16), none, false, (.mov (.tmp 2))⟩, ⟨(some 17), none, false, (.mov (.tmp 3))⟩, ⟨(some 18), none, false, (.call false (.func 107) [(.tmp 15), (.tmp 16), (.tmp 17)])⟩, ⟨(some 14), none, false, (.mov (.tmp 18))⟩, ⟨(some 19), none, false, (.extract (.tmp 14) 0)⟩, ⟨(some 20), none, false, (.extract (.tmp 14) 1)⟩, ⟨(some 12), none, false, (.mov (.tmp 19))⟩, ⟨(some 13), none, false, (.mov (.tmp 20))⟩]) (.seq (.ops [⟨(some 21), none, false, (.addOff 0 (.tmp 5))⟩, ⟨(some 22), none, false, (.load false 1 (.tmp 21))⟩, ⟨(some 23), none, false, (.mov (.tmp 12))⟩, ⟨(some 24), none, false, (.mov (.tmp 13))⟩, ⟨(some 25), none, false, (.mov (.tmp 4))⟩, ⟨(some 26), none, false, (.call false (.func 58) [(.tmp 22), (.tmp 23), (.tmp 24), (.tmp 25)])⟩, ⟨(some 27), none, false, (.extract (.tmp 26) 0)⟩, ⟨(some 28), none, false, (.extract (.tmp 26) 1)⟩, ⟨(some 10), none, false, (.mov (.tmp 27))⟩, ⟨(some 11), none, false, (.mov (.tmp 28))⟩]) .ret)))
def m104 : MFun := ⟨k104, [(.tmp 10), (.tmp 11)]⟩
theorem c104 : compFn Try.prog Try.f104 = some m104 := by kernel_rfl
def k85 : MCode := (.seq (.ops [⟨(some 5), none, false, (.box 1 (.tmp 0))⟩, ⟨(some 10), none, false, (.mov (.const (.string ⟨#[]⟩)))⟩]) (.seq (.ops [⟨(some 14), none, false, (.mov (.tmp 1))⟩, ⟨(some 15), none, false, (.mov (.tmp 2))⟩, ⟨(some 16), none, false, (.mov (.tmp 3))⟩, ⟨(some 17), none, false, (.call false (.func 107) [(.tmp 14), (.tmp 15), (.tmp 16)])⟩, ⟨(some 13), none, false, (.mov (.tmp 17))⟩, ⟨(some 18), none, false, (.extract (.tmp 13) 0)⟩, ⟨(some 19), none, false, (.extract (.tmp 13) 1)⟩, ⟨(some 11), none, false, (.mov (.tmp 18))⟩, ⟨(some 12), none, false, (.mov (.tmp 19))⟩]) (.seq (.ops [⟨(some 20), none, false, (.addOff 0 (.tmp 5))⟩, ⟨(some 21), none, false, (.load false 1 (.tmp 20))⟩, ⟨(some 22), none, false, (.mov (.tmp 11))⟩, ⟨(some 23), none, false, (.mov (.tmp 12))⟩, ⟨(some 24), none, false, (.mov (.tmp 4))⟩, ⟨(some 25), none, false, (.call false (.func 57) [(.tmp 21), (.tmp 22), (.tmp 23), (.tmp 24)])⟩, ⟨(some 10), none, false, (.mov (.tmp 25))⟩]) .ret)))
def m85 : MFun := ⟨k85, [(.tmp 10)]⟩
theorem c85 : compFn Try.prog Try.f85 = some m85 := by kernel_rfl
def k78 : MCode := (.seq (.ops [⟨(some 1), none, false, (.box 1 (.tmp 0))⟩, ⟨(some 2), none, false, (.mov (.const (.int .i64 0)))⟩]) (.seq (.seq (.ops [⟨(some 3), none, false, (.addOff 0 (.tmp 1))⟩, ⟨(some 4), none, false, (.load false 1 (.tmp 3))⟩, ⟨(some 5), none, false, (.lenStr (.tmp 4))⟩, ⟨(some 6), none, false, (.bin .int .neq (.tmp 5) (.const (.int .i64 32)))⟩, ⟨(some 7), none, false, (.mov (.tmp 6))⟩, ⟨(some 8), (some (7, false)), false, (.addOff 1 (.tmp 1))⟩, ⟨(some 9), (some (7, false)), false, (.load false 1 (.tmp 8))⟩, ⟨(some 10), (some (7, false)), false, (.lenStr (.tmp 9))⟩, ⟨(some 11), (some (7, false)), false, (.bin .int .neq (.tmp 10) (.const (.int .i64 32)))⟩, ⟨(some 12), none, false, (.pick (.tmp 7) (.const (.bool true)) (.tmp 11))⟩, ⟨(some 13), none, false, (.mov (.tmp 12))⟩, ⟨(some 14), (some (13, false)), false, (.addOff 2 (.tmp 1))⟩, ⟨(some 15), (some (13, false)), false, (.load false 1 (.tmp 14))⟩, ⟨(some 16), (some (13, false)), false, (.lenStr (.tmp 15))⟩, ⟨(some 17), (some (13, false)), false, (.bin .int .neq (.tmp 16) (.const (.int .i64 16)))⟩, ⟨(some 18), none, false, (.pick (.tmp 13) (.const (.bool true)) (.tmp 17))⟩]) (.cond (.tmp 18) (.seq (.ops [⟨(some 2), none, false, (.mov (.const (.int .i64 6)))⟩]) .ret) .skip)) (.seq (.ops [⟨(some 2), none, false, (.mov (.const (.int .i64 0)))⟩]) .ret)))
def m78 : MFun := ⟨k78, [(.tmp 2)]⟩
theorem c78 : compFn Try.prog Try.f78 = some m78 := by kernel_rfl
def k40 : MCode := (.seq (.ops [⟨(some 1), none, false, (.box 1 (.tmp 0))⟩, ⟨(some 2), none, false, (.mov (.const (.int .i64 0)))⟩]) (.seq (.seq (.ops [⟨(some 3), none, false, (.addOff 0 (.tmp 1))⟩, ⟨(some 4), none, false, (.load false 1 (.tmp 3))⟩, ⟨(some 5), none, false, (.lenStr (.tmp 4))⟩, ⟨(some 6), none, false, (.bin .int .neq (.tmp 5) (.const (.int .i64 32)))⟩, ⟨(some 7), none, false, (.mov (.tmp 6))⟩, ⟨(some 8), (some (7, false)), false, (.addOff 1 (.tmp 1))⟩, ⟨(some 9), (some (7, false)), false, (.load false 1 (.tmp 8))⟩, ⟨(some 10), (some (7, false)), false, (.lenStr (.tmp 9))⟩, ⟨(some 11), (some (7, false)), false, (.bin .int .neq (.tmp 10) (.const (.int .i64 32)))⟩, ⟨(some 12), none, false, (.pick (.tmp 7) (.const (.bool true)) (.tmp 11))⟩, ⟨(some 13), none, false, (.mov (.tmp 12))⟩, ⟨(some 14), (some (13, false)), false, (.addOff 2 (.tmp 1))⟩, ⟨(some 15), (some (13, false)), false, (.load false 1 (.tmp 14))⟩, ⟨(some 16), (some (13, false)), false, (.lenStr (.tmp 15))⟩, ⟨(some 17), (some (13, false)), false, (.bin .int .neq (.tmp 16) (.const (.int .i64 16)))⟩, ⟨(some 18), none, false, (.pick (.tmp 13) (.const (.bool true)) (.tmp 17))⟩]) (.cond (.tmp 18) (.seq (.ops [⟨(some 2), none, false, (.mov (.const (.int .i64 6)))⟩]) .ret) .skip)) (.seq (.ops [⟨(some 2), none, false, (.mov (.const (.int .i64 0)))⟩]) .ret)))
def m40 : MFun := ⟨k40, [(.tmp 2)]⟩
theorem c40 : compFn Try.prog Try.f40 = some m40 := by kernel_rfl
def k102 : MCode := (.seq (.ops [⟨(some 2), none, false, (.mov (.const (.string ⟨#[]⟩)))⟩]) (.seq (.ops [⟨(some 3), none, false, (.mov (.tmp 0))⟩, ⟨(some 4), none, false, (.bin .int .shr (.tmp 3) (.const (.int .u64 24)))⟩, ⟨(some 5), none, false, (.conv .u8 (.tmp 4))⟩, ⟨(some 6), none, false, (.mov (.tmp 0))⟩, ⟨(some 7), none, false, (.bin .int .shr (.tmp 6) (.const (.int .u64 16)))⟩, ⟨(some 8), none, false, (.conv .u8 (.tmp 7))⟩, ⟨(some 9), none, false, (.mov (.tmp 0))⟩, ⟨(some 10), none, false, (.bin .int .shr (.tmp 9) (.const (.int .u64 8)))⟩, ⟨(some 11), none, false, (.conv .u8 (.tmp 10))⟩, ⟨(some 12), none, false, (.mov (.tmp 0))⟩, ⟨(some 13), none, false, (.conv .u8 (.tmp 12))⟩, ⟨(some 14), none, false, (.buildSlice [(.int .u8 0), (.int .u8 0), (.int .u8 0), (.int .u8 0)] 1 4 [(0, (1, (.tmp 5))), (1, (1, (.tmp 8))), (2, (1, (.tmp 11))), (3, (1, (.tmp 13)))])⟩, ⟨(some 15), none, false, (.toStr (.tmp 14))⟩, ⟨(some 2), none, false, (.mov (.tmp 15))⟩]) .ret))
def m102 : MFun := ⟨k102, [(.tmp 2)]⟩
theorem c102 : compFn Try.prog Try.f102 = some m102 := by kernel_rfl
def k77 : MCode := (.seq (.ops [⟨(some 2), none, false, (.mov (.const (.string ⟨#[]⟩)))⟩]) (.seq (.ops [⟨(some 3), none, false, (.mov (.tmp 0))⟩, ⟨(some 4), none, false, (.bin .int .shr (.tmp 3) (.const (.int .u64 32)))⟩, ⟨(some 5), none, false, (.conv .u32 (.tmp 4))⟩, ⟨(some 6), none, false, (.call false (.func 102) [(.tmp 5)])⟩, ⟨(some 7), none, false, (.mov (.tmp 0))⟩, ⟨(some 8), none, false, (.conv .u32 (.tmp 7))⟩, ⟨(some 9), none, false, (.call false (.func 102) [(.tmp 8)])⟩, ⟨(some 10), none, false, (.bin .str .add (.tmp 6) (.tmp 9))⟩, ⟨(some 2), none, false, (.mov (.tmp 10))⟩]) .ret))
def m77 : MFun := ⟨k77, [(.tmp 2)]⟩
theorem c77 : compFn Try.prog Try.f77 = some m77 := by kernel_rfl
def k103 : MCode := (.seq (.ops [⟨(some 4), none, false, (.mov (.const (.int .u32 0)))⟩]) (.seq (.opsD [⟨(some 5), none, false, (.mov (.tmp 0))⟩, ⟨(some 6), none, false, (.mov (.tmp 1))⟩, ⟨(some 7), none, false, (.strIdx (.tmp 5) (.tmp 6))⟩, ⟨(some 8), none, false, (.conv .u32 (.tmp 7))⟩, ⟨(some 9), none, false, (.bin .int .shl (.tmp 8) (.const (.int .u64 24)))⟩, ⟨(some 10), none, false, (.mov (.tmp 0))⟩, ⟨(some 11), none, false, (.mov (.tmp 1))⟩, ⟨(some 12), none, false, (.bin .int .add (.tmp 11) (.const (.int .i64 1)))⟩, ⟨(some 13), none, false, (.strIdx (.tmp 10) (.tmp 12))⟩, ⟨(some 14), none, false, (.conv .u32 (.tmp 13))⟩, ⟨(some 15), none, false, (.bin .int .shl (.tmp 14) (.const (.int .u64 16)))⟩, ⟨(some 16), none, false, (.bin .int .or (.tmp 9) (.tmp 15))⟩, ⟨(some 17), none, false, (.mov (.tmp 0))⟩, ⟨(some 18), none, false, (.mov (.tmp 1))⟩, ⟨(some 19), none, false, (.bin .int .add (.tmp 18) (.const (.int .i64 2)))⟩, ⟨(some 20), none, false, (.strIdx (.tmp 17) (.tmp 19))⟩, ⟨(some 21), none, false, (.conv .u32 (.tmp 20))⟩, ⟨(some 22), none, false, (.bin .int .shl (.tmp 21) (.const (.int .u64 8)))⟩, ⟨(some 23), none, false, (.bin .int .or (.tmp 16) (.tmp 22))⟩, ⟨(some 24), none, false, (.mov (.tmp 0))⟩, ⟨(some 25), none, false, (.mov (.tmp 1))⟩, ⟨(some 26), none, false, (.bin .int .add (.tmp 25) (.const (.int .i64 3)))⟩, ⟨(some 27), none, false, (.strIdx (.tmp 24) (.tmp 26))⟩, ⟨(some 28), none, false, (.conv .u32 (.tmp 27))⟩, ⟨(some 29), none, false, (.bin .int .or (.tmp 23) (.tmp 28))⟩, ⟨(some 4), none, false, (.mov (.tmp 29))⟩]) .ret))
def m103 : MFun := ⟨k103, [(.tmp 4)]⟩
theorem c103 : compFn Try.prog Try.f103 = some m103 := by kernel_rfl
def k76 : MCode := (.seq (.ops [⟨(some 4), none, false, (.mov (.const (.string ⟨#[]⟩)))⟩]) (.seq (.opsD [⟨(some 5), none, false, (.mov (.tmp 0))⟩, ⟨(some 6), none, false, (.sliceStr (.tmp 5) none (some (.const (.int .i64 8))))⟩, ⟨(some 7), none, false, (.mov (.tmp 0))⟩, ⟨(some 8), none, false, (.call false (.func 103) [(.tmp 7), (.const (.int .i64 8))])⟩, ⟨(some 9), none, false, (.mov (.tmp 1))⟩, ⟨(some 10), none, false, (.conv .u32 (.tmp 9))⟩, ⟨(some 11), none, false, (.bin .int .add (.tmp 8) (.tmp 10))⟩, ⟨(some 12), none, false, (.call false (.func 102) [(.tmp 11)])⟩, ⟨(some 13), none, false, (.bin .str .add (.tmp 6) (.tmp 12))⟩, ⟨(some 4), none, false, (.mov (.tmp 13))⟩]) .ret))
def m76 : MFun := ⟨k76, [(.tmp 4)]⟩
theorem c76 : compFn Try.prog Try.f76 = some m76 := by kernel_rfl
def k50 : MCode := (.seq (.ops [⟨(some 2), none, false, (.box 1 (.tmp 0))⟩, ⟨(some 4), none, false, (.mov (.const (.pointer none)))⟩, ⟨(some 5), none, false, (.mov (.const (.int .i64 0)))⟩]) (.seq (.seq (.ops [⟨(some 7), none, false, (.load true 3 (.tmp 2))⟩, ⟨(some 8), none, false, (.call false (.func 78) [(.tmp 7)])⟩, ⟨(some 6), none, false, (.mov (.tmp 8))⟩]) (.seq (.ops [⟨(some 9), none, false, (.mov (.tmp 6))⟩, ⟨(some 10), none, false, (.bin .int .neq (.tmp 9) (.const (.int .i64 0)))⟩]) (.cond (.tmp 10) (.seq (.ops [⟨(some 11), none, false, (.mov (.tmp 6))⟩, ⟨(some 4), none, false, (.mov (.const (.pointer none)))⟩, ⟨(some 5), none, false, (.mov (.tmp 11))⟩]) .ret) .skip))) (.seq (.seq (.ops [⟨(some 12), none, false, (.mov (.tmp 1))⟩, ⟨(some 13), none, false, (.lenStr (.tmp 12))⟩, ⟨(some 14), none, false, (.bin .int .neq (.tmp 13) (.const (.int .i64 12)))⟩]) (.cond (.tmp 14) (.seq (.ops [⟨(some 4), none, false, (.mov (.const (.pointer none)))⟩, ⟨(some 5), none, false, (.mov (.const (.int .i64 6)))⟩]) .ret) .skip)) (.seq (.ops [⟨(some 15), none, false, (.load true 3 (.tmp 2))⟩, ⟨(some 16), none, false, (.mov (.tmp 1))⟩, ⟨(some 17), none, false, (.bin .str .add (.const (.string ⟨#[87, 72, 83, 69, 65, 76, 48, 49]⟩)) (.tmp 16))⟩, ⟨(some 18), none, false, (.build [(.string ⟨#[]⟩), (.string ⟨#[]⟩), (.string ⟨#[]⟩), (.string ⟨#[]⟩), (.bool false), (.bool false), (.string ⟨#[]⟩), (.int .i64 0), (.int .i64 0)] [(0, (3, (.tmp 15))), (3, (1, (.tmp 17)))])⟩, ⟨(some 19), none, false, (.box 1 (.tmp 18))⟩, ⟨(some 4), none, false, (.mov (.tmp 19))⟩, ⟨(some 5), none, false, (.mov (.const (.int .i64 0)))⟩]) .ret))))
def m50 : MFun := ⟨k50, [(.tmp 4), (.tmp 5)]⟩
theorem c50 : compFn Try.prog Try.f50 = some m50 := by kernel_rfl
def k44 : MCode := (.seq (.ops [⟨(some 3), none, false, (.box 1 (.tmp 0))⟩, ⟨(some 6), none, false, (.mov (.const (.string ⟨#[]⟩)))⟩, ⟨(some 7), none, false, (.mov (.const (.int .i64 0)))⟩]) (.seq (.ops [⟨(some 15), none, false, (.load true 3 (.tmp 3))⟩, ⟨(some 16), none, false, (.mov (.tmp 1))⟩, ⟨(some 17), none, false, (.call false (.func 50) [(.tmp 15), (.tmp 16)])⟩, ⟨(some 14), none, false, (.mov (.tmp 17))⟩, ⟨(some 18), none, false, (.extract (.tmp 14) 0)⟩, ⟨(some 19), none, false, (.extract (.tmp 14) 1)⟩, ⟨(some 8), none, false, (.mov (.tmp 18))⟩, ⟨(some 9), none, false, (.mov (.tmp 19))⟩]) (.seq (.seq (.ops [⟨(some 20), none, false, (.mov (.tmp 9))⟩, ⟨(some 21), none, false, (.bin .int .neq (.tmp 20) (.const (.int .i64 0)))⟩]) (.cond (.tmp 21) (.seq (.ops [⟨(some 22), none, false, (.mov (.tmp 9))⟩, ⟨(some 6), none, false, (.mov (.const (.string ⟨#[]⟩)))⟩, ⟨(some 7), none, false, (.mov (.tmp 22))⟩]) .ret) .skip)) (.seq (.seq (.ops [⟨(some 23), none, false, (.mov (.tmp 2))⟩, ⟨(some 24), none, false, (.lenStr (.tmp 23))⟩, ⟨(some 25), none, false, (.bin .int .gtr (.tmp 24) (.const (.int .i64 1048576)))⟩]) (.cond (.tmp 25) (.seq (.ops [⟨(some 6), none, false, (.mov (.const (.string ⟨#[]⟩)))⟩, ⟨(some 7), none, false, (.mov (.const (.int .i64 8)))⟩]) .ret) .skip)) (.seq (.ops [⟨(some 27), none, false, (.mov (.tmp 8))⟩, ⟨(some 28), none, false, (.mov (.tmp 2))⟩, ⟨(some 29), none, false, (.call false (.func 51) [(.tmp 27), (.tmp 28)])⟩, ⟨(some 26), none, false, (.mov (.tmp 29))⟩, ⟨(some 30), none, false, (.extract (.tmp 26) 0)⟩, ⟨(some 31), none, false, (.extract (.tmp 26) 1)⟩, ⟨(some 10), none, false, (.mov (.tmp 30))⟩, ⟨(some 11), none, false, (.mov (.tmp 31))⟩]) (.seq (.ops [⟨(some 33), none, false, (.mov (.tmp 8))⟩, ⟨(some 34), none, false, (.call false (.func 52) [(.tmp 33)])⟩, ⟨(some 32), none, false, (.mov (.tmp 34))⟩, ⟨(some 35), none, false, (.extract (.tmp 32) 0)⟩, ⟨(some 36), none, false, (.extract (.tmp 32) 1)⟩, ⟨(some 12), none, false, (.mov (.tmp 35))⟩, ⟨(some 13), none, false, (.mov (.tmp 36))⟩]) (.seq (.ops [⟨(some 37), none, false, (.mov (.tmp 10))⟩, ⟨(some 38), none, false, (.mov (.tmp 12))⟩, ⟨(some 39), none, false, (.bin .str .add (.tmp 37) (.tmp 38))⟩, ⟨(some 6), none, false, (.mov (.tmp 39))⟩, ⟨(some 7), none, false, (.mov (.const (.int .i64 0)))⟩]) .ret)))))))
def m44 : MFun := ⟨k44, [(.tmp 6), (.tmp 7)]⟩
theorem c44 : compFn Try.prog Try.f44 = some m44 := by kernel_rfl
def k48 : MCode := (.seq (.ops [⟨(some 2), none, false, (.box 1 (.tmp 0))⟩, ⟨(some 4), none, false, (.mov (.const (.string ⟨#[]⟩)))⟩, ⟨(some 5), none, false, (.mov (.const (.int .i64 0)))⟩]) (.seq (.seq (.ops [⟨(some 11), none, false, (.load true 3 (.tmp 2))⟩, ⟨(some 12), none, false, (.call false (.func 78) [(.tmp 11)])⟩, ⟨(some 6), none, false, (.mov (.tmp 12))⟩]) (.seq (.ops [⟨(some 13), none, false, (.mov (.tmp 6))⟩, ⟨(some 14), none, false, (.bin .int .neq (.tmp 13) (.const (.int .i64 0)))⟩]) (.cond (.tmp 14) (.seq (.ops [⟨(some 15), none, false, (.mov (.tmp 6))⟩, ⟨(some 4), none, false, (.mov (.const (.string ⟨#[]⟩)))⟩, ⟨(some 5), none, false, (.mov (.tmp 15))⟩]) .ret) .skip))) (.seq (.ops [⟨(some 17), none, false, (.mov (.tmp 1))⟩, ⟨(some 18), none, false, (.lenStr (.tmp 17))⟩, ⟨(some 19), none, false, (.call false (.func 16) [(.tmp 18)])⟩, ⟨(some 16), none, false, (.mov (.tmp 19))⟩, ⟨(some 20), none, false, (.extract (.tmp 16) 0)⟩, ⟨(some 21), none, false, (.extract (.tmp 16) 1)⟩, ⟨(some 7), none, false, (.mov (.tmp 20))⟩, ⟨(some 8), none, false, (.mov (.tmp 21))⟩]) (.seq (.seq (.ops [⟨(some 22), none, false, (.mov (.tmp 8))⟩, ⟨(some 23), none, false, (.bin .int .neq (.tmp 22) (.const (.int .i64 0)))⟩]) (.cond (.tmp 23) (.seq (.ops [⟨(some 4), none, false, (.mov (.const (.string ⟨#[]⟩)))⟩, ⟨(some 5), none, false, (.mov (.const (.int .i64 19)))⟩]) .ret) .skip)) (.seq (.opsD [⟨(some 25), none, false, (.load true 3 (.tmp 2))⟩, ⟨(some 26), none, false, (.mov (.tmp 1))⟩, ⟨(some 27), none, false, (.sliceStr (.tmp 26) none (some (.const (.int .i64 20))))⟩, ⟨(some 28), none, false, (.mov (.tmp 1))⟩, ⟨(some 29), none, false, (.sliceStr (.tmp 28) (some (.const (.int .i64 20))) none)⟩, ⟨(some 30), none, false, (.mov (.tmp 7))⟩, ⟨(some 31), none, false, (.call false (.func 79) [(.tmp 25), (.tmp 27), (.tmp 29), (.tmp 30), (.const (.int .i64 0))])⟩, ⟨(some 24), none, false, (.mov (.tmp 31))⟩, ⟨(some 32), none, false, (.extract (.tmp 24) 0)⟩, ⟨(some 33), none, false, (.extract (.tmp 24) 1)⟩, ⟨(some 9), none, false, (.mov (.tmp 32))⟩, ⟨(some 10), none, false, (.mov (.tmp 33))⟩]) (.seq (.seq (.ops [⟨(some 34), none, false, (.mov (.tmp 10))⟩, ⟨(some 35), none, false, (.un .not (.tmp 34))⟩]) (.cond (.tmp 35) (.seq (.ops [⟨(some 4), none, false, (.mov (.const (.string ⟨#[]⟩)))⟩, ⟨(some 5), none, false, (.mov (.const (.int .i64 19)))⟩]) .ret) .skip)) (.seq (.ops [⟨(some 36), none, false, (.mov (.tmp 9))⟩, ⟨(some 4), none, false, (.mov (.tmp 36))⟩, ⟨(some 5), none, false, (.mov (.const (.int .i64 0)))⟩]) .ret)))))))
def m48 : MFun := ⟨k48, [(.tmp 4), (.tmp 5)]⟩
theorem c48 : compFn Try.prog Try.f48 = some m48 := by kernel_rfl
def k42 : MCode := (.seq (.ops [⟨(some 4), none, false, (.box 1 (.tmp 0))⟩, ⟨(some 5), none, false, (.box 1 (.tmp 1))⟩, ⟨(some 8), none, false, (.mov (.const (.string ⟨#[]⟩)))⟩, ⟨(some 9), none, false, (.mov (.const (.int .i64 0)))⟩]) (.seq (.ops [⟨(some 13), none, false, (.load true 3 (.tmp 4))⟩, ⟨(some 14), none, false, (.mov (.tmp 3))⟩, ⟨(some 15), none, false, (.call false (.func 48) [(.tmp 13), (.tmp 14)])⟩, ⟨(some 12), none, false, (.mov (.tmp 15))⟩, ⟨(some 16), none, false, (.extract (.tmp 12) 0)⟩, ⟨(some 17), none, false, (.extract (.tmp 12) 1)⟩, ⟨(some 10), none, false, (.mov (.tmp 16))⟩, ⟨(some 11), none, false, (.mov (.tmp 17))⟩]) (.seq (.seq (.ops [⟨(some 18), none, false, (.mov (.tmp 11))⟩, ⟨(some 19), none, false, (.bin .int .neq (.tmp 18) (.const (.int .i64 0)))⟩]) (.cond (.tmp 19) (.seq (.ops [⟨(some 20), none, false, (.mov (.tmp 11))⟩, ⟨(some 8), none, false, (.mov (.const (.string ⟨#[]⟩)))⟩, ⟨(some 9), none, false, (.mov (.tmp 20))⟩]) .ret) .skip)) (.seq (.ops [⟨(some 21), none, false, (.load true 3 (.tmp 5))⟩, ⟨(some 22), none, false, (.mov (.tmp 2))⟩, ⟨(some 23), none, false, (.mov (.tmp 10))⟩, ⟨(some 24), none, false, (.call false (.func 44) [(.tmp 21), (.tmp 22), (.tmp 23)])⟩, ⟨(some 25), none, false, (.extract (.tmp 24) 0)⟩, ⟨(some 26), none, false, (.extract (.tmp 24) 1)⟩, ⟨(some 8), none, false, (.mov (.tmp 25))⟩, ⟨(some 9), none, false, (.mov (.tmp 26))⟩]) .ret))))
def m42 : MFun := ⟨k42, [(.tmp 8), (.tmp 9)]⟩
def k53 : MCode := (.seq (.ops [⟨(some 6), none, false, (.mov (.const (.int .i64 0)))⟩, ⟨(some 7), none, false, (.mov (.const (.int .i64 0)))⟩, ⟨(some 8), none, false, (.mov (.const (.int .i64 0)))⟩]) (.seq (.seq (.ops [⟨(some 13), none, false, (.mov (.tmp 0))⟩, ⟨(some 14), none, false, (.bin .int .lss (.tmp 13) (.const (.int .i64 0)))⟩, ⟨(some 15), none, false, (.mov (.tmp 14))⟩, ⟨(some 16), (some (15, false)), false, (.mov (.tmp 0))⟩, ⟨(some 17), (some (15, false)), false, (.bin .int .gtr (.tmp 16) (.const (.int .i64 1048576)))⟩, ⟨(some 18), none, false, (.pick (.tmp 15) (.const (.bool true)) (.tmp 17))⟩, ⟨(some 19), none, false, (.mov (.tmp 18))⟩, ⟨(some 20), (some (19, false)), false, (.mov (.tmp 1))⟩, ⟨(some 21), (some (19, false)), false, (.bin .int .lss (.tmp 20) (.const (.int .i64 0)))⟩, ⟨(some 22), none, false, (.pick (.tmp 19) (.const (.bool true)) (.tmp 21))⟩, ⟨(some 23), none, false, (.mov (.tmp 22))⟩, ⟨(some 24), (some (23, false)), false, (.mov (.tmp 2))⟩, ⟨(some 25), (some (23, false)), false, (.bin .int .lss (.tmp 24) (.const (.int .i64 0)))⟩, ⟨(some 26), none, false, (.pick (.tmp 23) (.const (.bool true)) (.tmp 25))⟩]) (.cond (.tmp 26) (.seq (.ops [⟨(some 6), none, false, (.mov (.const (.int .i64 0)))⟩, ⟨(some 7), none, false, (.mov (.const (.int .i64 0)))⟩, ⟨(some 8), none, false, (.mov (.const (.int .i64 7)))⟩]) .ret) .skip)) (.seq (.ops [⟨(some 27), none, false, (.mov (.tmp 2))⟩, ⟨(some 28), none, false, (.mov (.tmp 0))⟩, ⟨(some 29), none, false, (.mov (.tmp 1))⟩, ⟨(some 30), none, false, (.bin .int .sub (.tmp 28) (.tmp 29))⟩, ⟨(some 31), none, false, (.min (.tmp 27) [(.tmp 30)])⟩, ⟨(some 9), none, false, (.mov (.tmp 31))⟩]) (.seq (.seq (.ops [⟨(some 32), none, false, (.mov (.tmp 9))⟩, ⟨(some 33), none, false, (.bin .int .leq (.tmp 32) (.const (.int .i64 0)))⟩]) (.cond (.tmp 33) (.seq (.ops [⟨(some 6), none, false, (.mov (.const (.int .i64 0)))⟩, ⟨(some 7), none, false, (.mov (.const (.int .i64 0)))⟩, ⟨(some 8), none, false, (.mov (.const (.int .i64 0)))⟩]) .ret) .skip)) (.seq (.ops [⟨(some 34), none, false, (.mov (.tmp 1))⟩, ⟨(some 35), none, false, (.bin .int .quo (.tmp 34) (.const (.int .i64 1024)))⟩, ⟨(some 36), none, false, (.mov (.tmp 1))⟩, ⟨(some 37), none, false, (.mov (.tmp 9))⟩, ⟨(some 38), none, false, (.bin .int .add (.tmp 36) (.tmp 37))⟩, ⟨(some 39), none, false, (.bin .int .sub (.tmp 38) (.const (.int .i64 1)))⟩, ⟨(some 40), none, false, (.bin .int .quo (.tmp 39) (.const (.int .i64 1024)))⟩, ⟨(some 10), none, false, (.mov (.tmp 35))⟩, ⟨(some 11), none, false, (.mov (.tmp 40))⟩]) (.seq (.ops [⟨(some 41), none, false, (.mov (.tmp 10))⟩, ⟨(some 42), none, false, (.bin .int .mul (.tmp 41) (.const (.int .i64 1040)))⟩, ⟨(some 43), none, false, (.bin .int .add (.const (.int .i64 20)) (.tmp 42))⟩, ⟨(some 6), none, false, (.mov (.tmp 43))⟩]) (.seq (.ops [⟨(some 44), none, false, (.mov (.tmp 11))⟩, ⟨(some 45), none, false, (.bin .int .add (.tmp 44) (.const (.int .i64 1)))⟩, ⟨(some 46), none, false, (.bin .int .mul (.tmp 45) (.const (.int .i64 1040)))⟩, ⟨(some 47), none, false, (.bin .int .add (.const (.int .i64 20)) (.tmp 46))⟩, ⟨(some 48), none, false, (.mov (.tmp 0))⟩, ⟨(some 49), none, false, (.call false (.func 54) [(.tmp 48)])⟩, ⟨(some 50), none, false, (.min (.tmp 47) [(.tmp 49)])⟩, ⟨(some 12), none, false, (.mov (.tmp 50))⟩]) (.seq (.ops [⟨(some 51), none, false, (.mov (.tmp 6))⟩, ⟨(some 52), none, false, (.mov (.tmp 12))⟩, ⟨(some 53), none, false, (.mov (.tmp 6))⟩, ⟨(some 54), none, false, (.bin .int .sub (.tmp 52) (.tmp 53))⟩, ⟨(some 6), none, false, (.mov (.tmp 51))⟩, ⟨(some 7), none, false, (.mov (.tmp 54))⟩, ⟨(some 8), none, false, (.mov (.const (.int .i64 0)))⟩]) .ret))))))))
def m53 : MFun := ⟨k53, [(.tmp 6), (.tmp 7), (.tmp 8)]⟩
theorem c53 : compFn Try.prog Try.f53 = some m53 := by kernel_rfl
def k46 : MCode := (.seq (.ops [⟨(some 6), none, false, (.box 1 (.tmp 0))⟩, ⟨(some 12), none, false, (.mov (.const (.string ⟨#[]⟩)))⟩, ⟨(some 13), none, false, (.mov (.const (.int .i64 0)))⟩]) (.seq (.seq (.ops [⟨(some 21), none, false, (.load true 3 (.tmp 6))⟩, ⟨(some 22), none, false, (.call false (.func 78) [(.tmp 21)])⟩, ⟨(some 14), none, false, (.mov (.tmp 22))⟩]) (.seq (.ops [⟨(some 23), none, false, (.mov (.tmp 14))⟩, ⟨(some 24), none, false, (.bin .int .neq (.tmp 23) (.const (.int .i64 0)))⟩]) (.cond (.tmp 24) (.seq (.ops [⟨(some 25), none, false, (.mov (.tmp 14))⟩, ⟨(some 12), none, false, (.mov (.const (.string ⟨#[]⟩)))⟩, ⟨(some 13), none, false, (.mov (.tmp 25))⟩]) .ret) .skip))) (.seq (.ops [⟨(some 27), none, false, (.mov (.tmp 3))⟩, ⟨(some 28), none, false, (.mov (.tmp 4))⟩, ⟨(some 29), none, false, (.mov (.tmp 5))⟩, ⟨(some 30), none, false, (.call false (.func 53) [(.tmp 27), (.tmp 28), (.tmp 29)])⟩, ⟨(some 26), none, false, (.mov (.tmp 30))⟩, ⟨(some 31), none, false, (.extract (.tmp 26) 0)⟩, ⟨(some 32), none, false, (.extract (.tmp 26) 1)⟩, ⟨(some 33), none, false, (.extract (.tmp 26) 2)⟩, ⟨(some 15), none, false, (.mov (.tmp 31))⟩, ⟨(some 16), none, false, (.mov (.tmp 32))⟩, ⟨(some 17), none, false, (.mov (.tmp 33))⟩]) (.seq (.seq (.ops [⟨(some 34), none, false, (.mov (.tmp 17))⟩, ⟨(some 35), none, false, (.bin .int .neq (.tmp 34) (.const (.int .i64 0)))⟩]) (.cond (.tmp 35) (.seq (.ops [⟨(some 36), none, false, (.mov (.tmp 17))⟩, ⟨(some 12), none, false, (.mov (.const (.string ⟨#[]⟩)))⟩, ⟨(some 13), none, false, (.mov (.tmp 36))⟩]) .ret) .skip)) (.seq (.seq (.ops [⟨(some 37), none, false, (.mov (.tmp 2))⟩, ⟨(some 38), none, false, (.lenStr (.tmp 37))⟩, ⟨(some 39), none, false, (.mov (.tmp 16))⟩, ⟨(some 40), none, false, (.bin .int .neq (.tmp 38) (.tmp 39))⟩]) (.cond (.tmp 40) (.seq (.ops [⟨(some 12), none, false, (.mov (.const (.string ⟨#[]⟩)))⟩, ⟨(some 13), none, false, (.mov (.const (.int .i64 19)))⟩]) .ret) .skip)) (.seq (.ops [⟨(some 41), none, false, (.mov (.tmp 4))⟩, ⟨(some 42), none, false, (.bin .int .quo (.tmp 41) (.const (.int .i64 1024)))⟩, ⟨(some 18), none, false, (.mov (.tmp 42))⟩]) (.seq (.ops [⟨(some 44), none, false, (.load true 3 (.tmp 6))⟩, ⟨(some 45), none, false, (.mov (.tmp 1))⟩, ⟨(some 46), none, false, (.mov (.tmp 2))⟩, ⟨(some 47), none, false, (.mov (.tmp 3))⟩, ⟨(some 48), none, false, (.mov (.tmp 18))⟩, ⟨(some 49), none, false, (.call false (.func 79) [(.tmp 44), (.tmp 45), (.tmp 46), (.tmp 47), (.tmp 48)])⟩, ⟨(some 43), none, false, (.mov (.tmp 49))⟩, ⟨(some 50), none, false, (.extract (.tmp 43) 0)⟩, ⟨(some 51), none, false, (.extract (.tmp 43) 1)⟩, ⟨(some 19), none, false, (.mov (.tmp 50))⟩, ⟨(some 20), none, false, (.mov (.tmp 51))⟩]) (.seq (.seq (.ops [⟨(some 52), none, false, (.mov (.tmp 20))⟩, ⟨(some 53), none, false, (.un .not (.tmp 52))⟩]) (.cond (.tmp 53) (.seq (.ops [⟨(some 12), none, false, (.mov (.const (.string ⟨#[]⟩)))⟩, ⟨(some 13), none, false, (.mov (.const (.int .i64 19)))⟩]) .ret) .skip)) (.seq (.seq (.ops [⟨(some 54), none, false, (.mov (.tmp 19))⟩, ⟨(some 55), none, false, (.bin .str .eql (.tmp 54) (.const (.string ⟨#[]⟩)))⟩]) (.cond (.tmp 55) (.seq (.ops [⟨(some 12), none, false, (.mov (.const (.string ⟨#[]⟩)))⟩, ⟨(some 13), none, false, (.mov (.const (.int .i64 0)))⟩]) .ret) .skip)) (.seq (.ops [⟨(some 56), none, false, (.mov (.tmp 19))⟩, ⟨(some 57), none, false, (.mov (.tmp 4))⟩, ⟨(some 58), none, false, (.mov (.tmp 18))⟩, ⟨(some 59), none, false, (.bin .int .mul (.tmp 58) (.const (.int .i64 1024)))⟩, ⟨(some 60), none, false, (.bin .int .sub (.tmp 57) (.tmp 59))⟩, ⟨(some 61), none, false, (.sliceStr (.tmp 56) (some (.tmp 60)) none)⟩, ⟨(some 19), none, false, (.mov (.tmp 61))⟩]) (.seq (.ops [⟨(some 62), none, false, (.mov (.tmp 19))⟩, ⟨(some 63), none, false, (.mov (.tmp 5))⟩, ⟨(some 64), none, false, (.mov (.tmp 19))⟩, ⟨(some 65), none, false, (.lenStr (.tmp 64))⟩, ⟨(some 66), none, false, (.min (.tmp 63) [(.tmp 65)])⟩, ⟨(some 67), none, false, (.sliceStr (.tmp 62) none (some (.tmp 66)))⟩, ⟨(some 12), none, false, (.mov (.tmp 67))⟩, ⟨(some 13), none, false, (.mov (.const (.int .i64 0)))⟩]) .ret)))))))))))
def m46 : MFun := ⟨k46, [(.tmp 12), (.tmp 13)]⟩
theorem c46 : compFn Try.prog Try.f46 = some m46 := by kernel_rfl
def k41 : MCode := (.seq (.ops [⟨(some 3), none, false, (.box 1 (.tmp 0))⟩, ⟨(some 6), none, false, (.mov (.const (.string ⟨#[]⟩)))⟩]) (.seq (.ops [⟨(some 13), none, false, (.mov (.tmp 1))⟩, ⟨(some 14), none, false, (.bin .str .add (.const (.string ⟨#[87, 72, 83, 69, 65, 76, 48, 49]⟩)) (.tmp 13))⟩, ⟨(some 7), none, false, (.mov (.tmp 14))⟩]) (.seq (.ops [⟨(some 15), none, false, (.mov (.tmp 7))⟩, ⟨(some 8), none, false, (.mov (.tmp 15))⟩]) (.seq (.ops [⟨(some 16), none, false, (.mov (.tmp 2))⟩, ⟨(some 17), none, false, (.call false (.func 65) [(.tmp 16), (.const (.int .i64 1024))])⟩, ⟨(some 9), none, false, (.mov (.tmp 17))⟩]) (.seq (.seq (.ops [⟨(some 18), none, false, (.mov (.tmp 9))⟩, ⟨(some 19), none, false, (.len (.tmp 18))⟩, ⟨(some 20), none, false, (.bin .int .eql (.tmp 19) (.const (.int .i64 0)))⟩]) (.cond (.tmp 20) (.ops [⟨(some 21), none, false, (.buildSlice [(.string ⟨#[]⟩)] 1 1 [(0, (1, (.const (.string ⟨#[]⟩))))])⟩, ⟨(some 9), none, false, (.mov (.tmp 21))⟩]) .skip)) (.seq (.seq (.ops [⟨(some 22), none, false, (.mov (.tmp 9))⟩, ⟨(some 23), none, false, (.len (.tmp 22))⟩, ⟨(some 24), none, false, (.mov (.const (.int .i64 0)))⟩]) (.block 0 (.loop (.seq (.ops [⟨(some 25), none, false, (.bin .int .lss (.tmp 24) (.tmp 23))⟩]) (.seq (.cond (.tmp 25) .skip (.exit 0)) (.seq (.block 1 (.seq (.ops [⟨(some 26), none, false, (.mov (.tmp 24))⟩, ⟨(some 27), none, false, (.idxS 1 (.tmp 22) (.tmp 24))⟩, ⟨(some 28), none, false, (.load false 1 (.tmp 27))⟩, ⟨(some 10), none, false, (.mov (.tmp 26))⟩, ⟨(some 11), none, false, (.mov (.tmp 28))⟩]) (.seq (.ops [⟨(some 12), none, false, (.mov (.const (.string ⟨#[0]⟩)))⟩]) (.seq (.seq (.ops [⟨(some 29), none, false, (.mov (.tmp 10))⟩, ⟨(some 30), none, false, (.mov (.tmp 9))⟩, ⟨(some 31), none, false, (.len (.tmp 30))⟩, ⟨(some 32), none, false, (.bin .int .sub (.tmp 31) (.const (.int .i64 1)))⟩, ⟨(some 33), none, false, (.bin .int .eql (.tmp 29) (.tmp 32))⟩]) (.cond (.tmp 33) (.ops [⟨(some 12), none, false, (.mov (.const (.string ⟨#[1]⟩)))⟩]) .skip)) (.opsD [⟨(some 34), none, false, (.mov (.tmp 8))⟩, ⟨(some 35), none, false, (.addOff 0 (.tmp 3))⟩, ⟨(some 36), none, false, (.load false 1 (.tmp 35))⟩, ⟨(some 37), none, false, (.mov (.tmp 1))⟩, ⟨(some 38), none, false, (.mov (.tmp 10))⟩, ⟨(some 39), none, false, (.call true (.func 76) [(.tmp 37), (.tmp 38)])⟩, ⟨(some 40), none, false, (.mov (.tmp 7))⟩, ⟨(some 41), none, false, (.mov (.tmp 10))⟩, ⟨(some 42), none, false, (.call true (.func 77) [(.tmp 41)])⟩, ⟨(some 43), none, false, (.bin .str .add (.tmp 40) (.tmp 42))⟩, ⟨(some 44), none, false, (.mov (.tmp 12))⟩, ⟨(some 45), none, false, (.bin .str .add (.tmp 43) (.tmp 44))⟩, ⟨(some 46), none, false, (.mov (.tmp 11))⟩, ⟨(some 47), none, false, (.call false (.func 25) [(.tmp 36), (.tmp 39), (.tmp 45), (.tmp 46)])⟩, ⟨(some 48), none, false, (.bin .str .add (.tmp 34) (.tmp 47))⟩, ⟨(some 8), none, false, (.mov (.tmp 48))⟩]))))) (.ops [⟨(some 49), none, false, (.bin .int .add (.tmp 24) (.const (.int .i64 1)))⟩, ⟨(some 24), none, false, (.mov (.tmp 49))⟩]))))))) (.seq (.ops [⟨(some 50), none, false, (.mov (.tmp 8))⟩, ⟨(some 6), none, false, (.mov (.tmp 50))⟩]) .ret)))))))
def m41 : MFun := ⟨k41, [(.tmp 6)]⟩
theorem c41 : compFn Try.prog Try.f41 = some m41 := by kernel_rfl
def k43 : MCode := (.seq (.ops [⟨(some 2), none, false, (.box 1 (.tmp 0))⟩, ⟨(some 4), none, false, (.mov (.const (.string ⟨#[]⟩)))⟩, ⟨(some 5), none, false, (.mov (.const (.bool false)))⟩]) (.seq (.seq (.ops [⟨(some 14), none, false, (.mov (.tmp 1))⟩, ⟨(some 15), none, false, (.lenStr (.tmp 14))⟩, ⟨(some 16), none, false, (.bin .int .lss (.tmp 15) (.const (.int .i64 36)))⟩, ⟨(some 17), none, false, (.mov (.tmp 16))⟩, ⟨(some 18), (some (17, false)), false, (.mov (.tmp 1))⟩, ⟨(some 19), (some (17, false)), false, (.sliceStr (.tmp 18) none (some (.const (.int .i64 8))))⟩, ⟨(some 20), (some (17, false)), false, (.bin .str .neq (.tmp 19) (.const (.string ⟨#[87, 72, 83, 69, 65, 76, 48, 49]⟩)))⟩, ⟨(some 21), none, false, (.pick (.tmp 17) (.const (.bool true)) (.tmp 20))⟩]) (.cond (.tmp 21) (.seq (.ops [⟨(some 4), none, false, (.mov (.const (.string ⟨#[]⟩)))⟩, ⟨(some 5), none, false, (.mov (.const (.bool false)))⟩]) .ret) .skip)) (.seq (.ops [⟨(some 22), none, false, (.mov (.tmp 1))⟩, ⟨(some 23), none, false, (.sliceStr (.tmp 22) (some (.const (.int .i64 8))) (some (.const (.int .i64 20))))⟩, ⟨(some 6), none, false, (.mov (.tmp 23))⟩]) (.seq (.ops [⟨(some 7), none, false, (.mov (.const (.string ⟨#[]⟩)))⟩]) (.seq (.ops [⟨(some 24), none, false, (.mov (.tmp 1))⟩, ⟨(some 25), none, false, (.sliceStr (.tmp 24) (some (.const (.int .i64 20))) none)⟩, ⟨(some 8), none, false, (.mov (.tmp 25))⟩]) (.seq (.seq (.ops [⟨(some 9), none, false, (.mov (.const (.int .i64 0)))⟩]) (.block 0 (.loop (.seq (.seq (.ops [⟨(some 26), none, false, (.mov (.tmp 8))⟩, ⟨(some 27), none, false, (.bin .str .neq (.tmp 26) (.const (.string ⟨#[]⟩)))⟩, ⟨(some 28), none, false, (.mov (.tmp 27))⟩, ⟨(some 29), (some (28, false)), false, (.mov (.tmp 9))⟩, ⟨(some 30), (some (28, false)), false, (.bin .int .eql (.tmp 29) (.const (.int .i64 0)))⟩, ⟨(some 31), none, false, (.pick (.tmp 28) (.const (.bool true)) (.tmp 30))⟩]) (.cond (.tmp 31) .skip (.exit 0))) (.seq (.block 1 (.seq (.ops [⟨(some 34), none, false, (.mov (.tmp 8))⟩, ⟨(some 35), none, false, (.lenStr (.tmp 34))⟩, ⟨(some 36), none, false, (.min (.tmp 35) [(.const (.int .i64 1040))])⟩, ⟨(some 10), none, false, (.mov (.tmp 36))⟩]) (.seq (.ops [⟨(some 11), none, false, (.mov (.const (.string ⟨#[0]⟩)))⟩]) (.seq (.seq (.ops [⟨(some 37), none, false, (.mov (.tmp 10))⟩, ⟨(some 38), none, false, (.mov (.tmp 8))⟩, ⟨(some 39), none, false, (.lenStr (.tmp 38))⟩, ⟨(some 40), none, false, (.bin .int .eql (.tmp 37) (.tmp 39))⟩]) (.cond (.tmp 40) (.ops [⟨(some 11), none, false, (.mov (.const (.string ⟨#[1]⟩)))⟩]) .skip)) (.seq (.opsD [⟨(some 42), none, false, (.addOff 0 (.tmp 2))⟩, ⟨(some 43), none, false, (.load false 1 (.tmp 42))⟩, ⟨(some 44), none, false, (.mov (.tmp 6))⟩, ⟨(some 45), none, false, (.mov (.tmp 9))⟩, ⟨(some 46), none, false, (.call true (.func 76) [(.tmp 44), (.tmp 45)])⟩, ⟨(some 47), none, false, (.mov (.tmp 1))⟩, ⟨(some 48), none, false, (.sliceStr (.tmp 47) none (some (.const (.int .i64 20))))⟩, ⟨(some 49), none, false, (.mov (.tmp 9))⟩, ⟨(some 50), none, false, (.call true (.func 77) [(.tmp 49)])⟩, ⟨(some 51), none, false, (.bin .str .add (.tmp 48) (.tmp 50))⟩, ⟨(some 52), none, false, (.mov (.tmp 11))⟩, ⟨(some 53), none, false, (.bin .str .add (.tmp 51) (.tmp 52))⟩, ⟨(some 54), none, false, (.mov (.tmp 8))⟩, ⟨(some 55), none, false, (.mov (.tmp 10))⟩, ⟨(some 56), none, false, (.sliceStr (.tmp 54) none (some (.tmp 55)))⟩, ⟨(some 57), none, false, (.call false (.func 26) [(.tmp 43), (.tmp 46), (.tmp 53), (.tmp 56)])⟩, ⟨(some 41), none, false, (.mov (.tmp 57))⟩, ⟨(some 58), none, false, (.extract (.tmp 41) 0)⟩, ⟨(some 59), none, false, (.extract (.tmp 41) 1)⟩, ⟨(some 12), none, false, (.mov (.tmp 58))⟩, ⟨(some 13), none, false, (.mov (.tmp 59))⟩]) (.seq (.seq (.ops [⟨(some 60), none, false, (.mov (.tmp 13))⟩, ⟨(some 61), none, false, (.un .not (.tmp 60))⟩]) (.cond (.tmp 61) (.seq (.ops [⟨(some 4), none, false, (.mov (.const (.string ⟨#[]⟩)))⟩, ⟨(some 5), none, false, (.mov (.const (.bool false)))⟩]) .ret) .skip)) (.seq (.ops [⟨(some 62), none, false, (.mov (.tmp 7))⟩, ⟨(some 63), none, false, (.mov (.tmp 12))⟩, ⟨(some 64), none, false, (.bin .str .add (.tmp 62) (.tmp 63))⟩, ⟨(some 7), none, false, (.mov (.tmp 64))⟩]) (.ops [⟨(some 65), none, false, (.mov (.tmp 8))⟩, ⟨(some 66), none, false, (.mov (.tmp 10))⟩, ⟨(some 67), none, false, (.sliceStr (.tmp 65) (some (.tmp 66)) none)⟩, ⟨(some 8), none, false, (.mov (.tmp 67))⟩])))))))) (.ops [⟨(some 32), none, false, (.mov (.tmp 9))⟩, ⟨(some 33), none, false, (.bin .int .add (.tmp 32) (.const (.int .i64 1)))⟩, ⟨(some 9), none, false, (.mov (.tmp 33))⟩])))))) (.seq (.ops [⟨(some 68), none, false, (.mov (.tmp 7))⟩, ⟨(some 69), none, false, (.load true 3 (.tmp 2))⟩, ⟨(some 70), none, false, (.mov (.tmp 6))⟩, ⟨(some 71), none, false, (.mov (.tmp 7))⟩, ⟨(some 72), none, false, (.call false (.func 41) [(.tmp 69), (.tmp 70), (.tmp 71)])⟩, ⟨(some 73), none, false, (.mov (.tmp 1))⟩, ⟨(some 74), none, false, (.bin .str .eql (.tmp 72) (.tmp 73))⟩, ⟨(some 75), none, false, (.mov (.tmp 74))⟩, ⟨(some 76), (some (75, true)), false, (.mov (.tmp 7))⟩, ⟨(some 77), (some (75, true)), false, (.lenStr (.tmp 76))⟩, ⟨(some 78), (some (75, true)), false, (.bin .int .leq (.tmp 77) (.const (.int .i64 1048576)))⟩, ⟨(some 79), none, false, (.pick (.tmp 75) (.tmp 78) (.const (.bool false)))⟩, ⟨(some 4), none, false, (.mov (.tmp 68))⟩, ⟨(some 5), none, false, (.mov (.tmp 79))⟩]) .ret)))))))
def m43 : MFun := ⟨k43, [(.tmp 4), (.tmp 5)]⟩
theorem c43 : compFn Try.prog Try.f43 = some m43 := by kernel_rfl
def k45 : MCode := (.seq (.ops [⟨(some 6), none, false, (.mov (.const (.int .i64 0)))⟩, ⟨(some 7), none, false, (.mov (.const (.int .i64 0)))⟩]) (.seq (.ops [⟨(some 13), none, false, (.mov (.tmp 0))⟩, ⟨(some 8), none, false, (.mov (.tmp 13))⟩]) (.seq (.seq (.ops [⟨(some 14), none, false, (.mov (.tmp 2))⟩, ⟨(some 15), none, false, (.mov (.tmp 0))⟩, ⟨(some 16), none, false, (.mov (.tmp 1))⟩, ⟨(some 17), none, false, (.bin .int .sub (.tmp 15) (.tmp 16))⟩, ⟨(some 18), none, false, (.bin .int .lss (.tmp 14) (.tmp 17))⟩]) (.cond (.tmp 18) (.ops [⟨(some 19), none, false, (.mov (.tmp 1))⟩, ⟨(some 20), none, false, (.mov (.tmp 2))⟩, ⟨(some 21), none, false, (.bin .int .add (.tmp 19) (.tmp 20))⟩, ⟨(some 8), none, false, (.mov (.tmp 21))⟩]) .skip)) (.seq (.seq (.ops [⟨(some 22), none, false, (.mov (.tmp 1))⟩, ⟨(some 23), none, false, (.mov (.tmp 0))⟩, ⟨(some 24), none, false, (.bin .int .geq (.tmp 22) (.tmp 23))⟩, ⟨(some 25), none, false, (.mov (.tmp 24))⟩, ⟨(some 26), (some (25, false)), false, (.mov (.tmp 8))⟩, ⟨(some 27), (some (25, false)), false, (.mov (.tmp 1))⟩, ⟨(some 28), (some (25, false)), false, (.bin .int .leq (.tmp 26) (.tmp 27))⟩, ⟨(some 29), none, false, (.pick (.tmp 25) (.const (.bool true)) (.tmp 28))⟩]) (.cond (.tmp 29) (.seq (.ops [⟨(some 6), none, false, (.mov (.const (.int .i64 0)))⟩, ⟨(some 7), none, false, (.mov (.const (.int .i64 0)))⟩]) .ret) .skip)) (.seq (.ops [⟨(some 30), none, false, (.mov (.tmp 1))⟩, ⟨(some 31), none, false, (.bin .int .quo (.tmp 30) (.const (.int .i64 1024)))⟩, ⟨(some 32), none, false, (.mov (.tmp 8))⟩, ⟨(some 33), none, false, (.bin .int .sub (.tmp 32) (.const (.int .i64 1)))⟩, ⟨(some 34), none, false, (.bin .int .quo (.tmp 33) (.const (.int .i64 1024)))⟩, ⟨(some 9), none, false, (.mov (.tmp 31))⟩, ⟨(some 10), none, false, (.mov (.tmp 34))⟩]) (.seq (.ops [⟨(some 35), none, false, (.mov (.tmp 9))⟩, ⟨(some 36), none, false, (.bin .int .mul (.tmp 35) (.const (.int .i64 1040)))⟩, ⟨(some 37), none, false, (.bin .int .add (.const (.int .i64 20)) (.tmp 36))⟩, ⟨(some 11), none, false, (.mov (.tmp 37))⟩]) (.seq (.ops [⟨(some 38), none, false, (.mov (.tmp 0))⟩, ⟨(some 39), none, false, (.call false (.func 15) [(.tmp 38)])⟩, ⟨(some 40), none, false, (.mov (.tmp 10))⟩, ⟨(some 41), none, false, (.bin .int .add (.tmp 40) (.const (.int .i64 1)))⟩, ⟨(some 42), none, false, (.bin .int .mul (.tmp 41) (.const (.int .i64 1040)))⟩, ⟨(some 43), none, false, (.bin .int .add (.const (.int .i64 20)) (.tmp 42))⟩, ⟨(some 44), none, false, (.min (.tmp 39) [(.tmp 43)])⟩, ⟨(some 12), none, false, (.mov (.tmp 44))⟩]) (.seq (.ops [⟨(some 45), none, false, (.mov (.tmp 11))⟩, ⟨(some 46), none, false, (.mov (.tmp 12))⟩, ⟨(some 47), none, false, (.mov (.tmp 11))⟩, ⟨(some 48), none, false, (.bin .int .sub (.tmp 46) (.tmp 47))⟩, ⟨(some 6), none, false, (.mov (.tmp 45))⟩, ⟨(some 7), none, false, (.mov (.tmp 48))⟩]) .ret))))))))
def m45 : MFun := ⟨k45, [(.tmp 6), (.tmp 7)]⟩
theorem c45 : compFn Try.prog Try.f45 = some m45 := by kernel_rfl
def k88 : MCode := (.seq (.ops [⟨(some 4), none, false, (.mov (.const (.bool false)))⟩]) (.seq (.ops [⟨(some 5), none, false, (.mov (.tmp 0))⟩, ⟨(some 6), none, false, (.mov (.tmp 1))⟩, ⟨(some 7), none, false, (.call false (.func 110) [(.tmp 5), (.tmp 6)])⟩, ⟨(some 4), none, false, (.mov (.tmp 7))⟩]) .ret))
def m88 : MFun := ⟨k88, [(.tmp 4)]⟩
theorem c88 : compFn Try.prog Try.f88 = some m88 := by kernel_rfl
def k110 : MCode := (.seq (.ops [⟨(some 4), none, false, (.mov (.const (.bool false)))⟩]) (.seq (.ops [⟨(some 5), none, false, (.mov (.tmp 0))⟩, ⟨(some 6), none, false, (.lenStr (.tmp 5))⟩, ⟨(some 7), none, false, (.mov (.tmp 1))⟩, ⟨(some 8), none, false, (.lenStr (.tmp 7))⟩, ⟨(some 9), none, false, (.bin .int .geq (.tmp 6) (.tmp 8))⟩, ⟨(some 10), none, false, (.mov (.tmp 9))⟩, ⟨(some 11), (some (10, true)), false, (.mov (.tmp 0))⟩, ⟨(some 12), (some (10, true)), false, (.mov (.tmp 1))⟩, ⟨(some 13), (some (10, true)), false, (.lenStr (.tmp 12))⟩, ⟨(some 14), (some (10, true)), false, (.sliceStr (.tmp 11) none (some (.tmp 13)))⟩, ⟨(some 15), (some (10, true)), false, (.mov (.tmp 1))⟩, ⟨(some 16), (some (10, true)), false, (.bin .str .eql (.tmp 14) (.tmp 15))⟩, ⟨(some 17), none, false, (.pick (.tmp 10) (.tmp 16) (.const (.bool false)))⟩, ⟨(some 4), none, false, (.mov (.tmp 17))⟩]) .ret))
def m110 : MFun := ⟨k110, [(.tmp 4)]⟩
theorem c110 : compFn Try.prog Try.f110 = some m110 := by kernel_rfl
def k9 : MCode := (.seq (.ops [⟨(some 5), none, false, (.box 1 (.tmp 0))⟩, ⟨(some 6), none, false, (.box 1 (.tmp 1))⟩, ⟨(some 10), none, false, (.mov (.const (.bool false)))⟩]) (.seq (.seq (.ops [⟨(some 19), none, false, (.call false (.func 17) [])⟩, ⟨(some 20), none, false, (.un .not (.tmp 19))⟩, ⟨(some 21), none, false, (.mov (.tmp 20))⟩, ⟨(some 22), (some (21, false)), false, (.mov (.tmp 4))⟩, ⟨(some 23), (some (21, false)), false, (.call false (.func 22) [(.tmp 22)])⟩, ⟨(some 24), (some (21, false)), false, (.un .not (.tmp 23))⟩, ⟨(some 25), none, false, (.pick (.tmp 21) (.const (.bool true)) (.tmp 24))⟩, ⟨(some 26), none, false, (.mov (.tmp 25))⟩, ⟨(some 27), (some (26, false)), false, (.load true 3 (.tmp 5))⟩, ⟨(some 28), (some (26, false)), false, (.call false (.func 40) [(.tmp 27)])⟩, ⟨(some 29), (some (26, false)), false, (.bin .int .neq (.tmp 28) (.const (.int .i64 0)))⟩, ⟨(some 30), none, false, (.pick (.tmp 26) (.const (.bool true)) (.tmp 29))⟩, ⟨(some 31), none, false, (.mov (.tmp 30))⟩, ⟨(some 32), (some (31, false)), false, (.mov (.tmp 2))⟩, ⟨(some 33), (some (31, false)), false, (.lenStr (.tmp 32))⟩, ⟨(some 34), (some (31, false)), false, (.bin .int .neq (.tmp 33) (.const (.int .i64 12)))⟩, ⟨(some 35), none, false, (.pick (.tmp 31) (.const (.bool true)) (.tmp 34))⟩]) (.cond (.tmp 35) (.seq (.ops [⟨(some 36), none, false, (.call false (.func 17) [])⟩, ⟨(some 10), none, false, (.mov (.tmp 36))⟩]) .ret) .skip)) (.seq (.ops [⟨(some 37), none, false, (.load true 3 (.tmp 5))⟩, ⟨(some 38), none, false, (.mov (.tmp 2))⟩, ⟨(some 39), none, false, (.mov (.tmp 4))⟩, ⟨(some 40), none, false, (.call false (.func 41) [(.tmp 37), (.tmp 38), (.tmp 39)])⟩, ⟨(some 11), none, false, (.mov (.tmp 40))⟩]) (.seq (.ops [⟨(some 42), none, false, (.load true 3 (.tmp 5))⟩, ⟨(some 43), none, false, (.load true 3 (.tmp 6))⟩, ⟨(some 44), none, false, (.mov (.tmp 3))⟩, ⟨(some 45), none, false, (.mov (.tmp 11))⟩, ⟨(some 46), none, false, (.call false (.func 42) [(.tmp 42), (.tmp 43), (.tmp 44), (.tmp 45)])⟩, ⟨(some 41), none, false, (.mov (.tmp 46))⟩, ⟨(some 47), none, false, (.extract (.tmp 41) 0)⟩, ⟨(some 48), none, false, (.extract (.tmp 41) 1)⟩, ⟨(some 12), none, false, (.mov (.tmp 47))⟩, ⟨(some 13), none, false, (.mov (.tmp 48))⟩]) (.seq (.ops [⟨(some 49), none, false, (.load true 3 (.tmp 6))⟩, ⟨(some 50), none, false, (.call false (.func 40) [(.tmp 49)])⟩, ⟨(some 51), none, false, (.mov (.tmp 3))⟩, ⟨(some 52), none, false, (.lenStr (.tmp 51))⟩, ⟨(some 53), none, false, (.bin .int .neq (.tmp 52) (.const (.int .i64 12)))⟩, ⟨(some 54), none, false, (.call false (.func 21) [(.tmp 53), (.const (.int .i64 6))])⟩, ⟨(some 55), none, false, (.buildSlice [(.int .i64 0), (.int .i64 0)] 1 2 [(0, (1, (.tmp 50))), (1, (1, (.tmp 54)))])⟩, ⟨(some 56), none, false, (.call false (.func 19) [(.tmp 55)])⟩, ⟨(some 14), none, false, (.mov (.tmp 56))⟩]) (.seq (.seq (.ops [⟨(some 57), none, false, (.mov (.tmp 14))⟩, ⟨(some 58), none, false, (.bin .int .neq (.tmp 57) (.const (.int .i64 0)))⟩]) (.cond (.tmp 58) (.seq (.ops [⟨(some 59), none, false, (.mov (.tmp 12))⟩, ⟨(some 60), none, false, (.bin .str .eql (.tmp 59) (.const (.string ⟨#[]⟩)))⟩, ⟨(some 61), none, false, (.mov (.tmp 60))⟩, ⟨(some 62), (some (61, true)), false, (.mov (.tmp 13))⟩, ⟨(some 63), (some (61, true)), false, (.mov (.tmp 14))⟩, ⟨(some 64), (some (61, true)), false, (.bin .int .eql (.tmp 62) (.tmp 63))⟩, ⟨(some 65), none, false, (.pick (.tmp 61) (.tmp 64) (.const (.bool false)))⟩, ⟨(some 10), none, false, (.mov (.tmp 65))⟩]) .ret) .skip)) (.seq (.seq (.ops [⟨(some 66), none, false, (.mov (.tmp 12))⟩, ⟨(some 67), none, false, (.load true 3 (.tmp 6))⟩, ⟨(some 68), none, false, (.mov (.tmp 3))⟩, ⟨(some 69), none, false, (.mov (.tmp 4))⟩, ⟨(some 70), none, false, (.call false (.func 41) [(.tmp 67), (.tmp 68), (.tmp 69)])⟩, ⟨(some 71), none, false, (.bin .str .neq (.tmp 66) (.tmp 70))⟩, ⟨(some 72), none, false, (.mov (.tmp 71))⟩, ⟨(some 73), (some (72, false)), false, (.mov (.tmp 13))⟩, ⟨(some 74), (some (72, false)), false, (.bin .int .neq (.tmp 73) (.const (.int .i64 0)))⟩, ⟨(some 75), none, false, (.pick (.tmp 72) (.const (.bool true)) (.tmp 74))⟩]) (.cond (.tmp 75) (.seq (.ops [⟨(some 10), none, false, (.mov (.const (.bool false)))⟩]) .ret) .skip)) (.seq (.ops [⟨(some 77), none, false, (.load true 3 (.tmp 6))⟩, ⟨(some 78), none, false, (.load true 3 (.tmp 5))⟩, ⟨(some 79), none, false, (.mov (.tmp 2))⟩, ⟨(some 80), none, false, (.mov (.tmp 11))⟩, ⟨(some 81), none, false, (.call false (.func 42) [(.tmp 77), (.tmp 78), (.tmp 79), (.tmp 80)])⟩, ⟨(some 76), none, false, (.mov (.tmp 81))⟩, ⟨(some 82), none, false, (.extract (.tmp 76) 0)⟩, ⟨(some 83), none, false, (.extract (.tmp 76) 1)⟩, ⟨(some 15), none, false, (.mov (.tmp 82))⟩, ⟨(some 16), none, false, (.mov (.tmp 83))⟩]) (.seq (.ops [⟨(some 85), none, false, (.load true 3 (.tmp 6))⟩, ⟨(some 86), none, false, (.mov (.tmp 11))⟩, ⟨(some 87), none, false, (.call false (.func 43) [(.tmp 85), (.tmp 86)])⟩, ⟨(some 84), none, false, (.mov (.tmp 87))⟩, ⟨(some 88), none, false, (.extract (.tmp 84) 0)⟩, ⟨(some 89), none, false, (.extract (.tmp 84) 1)⟩, ⟨(some 17), none, false, (.mov (.tmp 88))⟩, ⟨(some 18), none, false, (.mov (.tmp 89))⟩]) (.seq (.ops [⟨(some 90), none, false, (.mov (.tmp 15))⟩, ⟨(some 91), none, false, (.mov (.tmp 16))⟩, ⟨(some 92), none, false, (.load true 3 (.tmp 5))⟩, ⟨(some 93), none, false, (.mov (.tmp 2))⟩, ⟨(some 94), none, false, (.mov (.tmp 17))⟩, ⟨(some 95), none, false, (.call false (.func 41) [(.tmp 92), (.tmp 93), (.tmp 94)])⟩, ⟨(some 96), none, false, (.mov (.tmp 18))⟩, ⟨(some 97), none, false, (.call false (.func 27) [(.tmp 90), (.tmp 91), (.tmp 95), (.tmp 96)])⟩, ⟨(some 10), none, false, (.mov (.tmp 97))⟩]) .ret))))))))))
def m9 : MFun := ⟨k9, [(.tmp 10)]⟩
theorem c9 : compFn Try.prog Try.f9 = some m9 := by kernel_rfl
def k10 : MCode := (.seq (.ops [⟨(some 7), none, false, (.box 1 (.tmp 0))⟩, ⟨(some 14), none, false, (.mov (.const (.bool false)))⟩]) (.seq (.ops [⟨(some 31), none, false, (.load true 3 (.tmp 7))⟩, ⟨(some 32), none, false, (.mov (.tmp 1))⟩, ⟨(some 33), none, false, (.mov (.tmp 2))⟩, ⟨(some 34), none, false, (.call false (.func 44) [(.tmp 31), (.tmp 32), (.tmp 33)])⟩, ⟨(some 30), none, false, (.mov (.tmp 34))⟩, ⟨(some 35), none, false, (.extract (.tmp 30) 0)⟩, ⟨(some 36), none, false, (.extract (.tmp 30) 1)⟩, ⟨(some 15), none, false, (.mov (.tmp 35))⟩, ⟨(some 16), none, false, (.mov (.tmp 36))⟩]) (.seq (.seq (.ops [⟨(some 37), none, false, (.call false (.func 17) [])⟩, ⟨(some 38), none, false, (.un .not (.tmp 37))⟩, ⟨(some 39), none, false, (.mov (.tmp 38))⟩, ⟨(some 40), (some (39, false)), false, (.mov (.tmp 16))⟩, ⟨(some 41), (some (39, false)), false, (.bin .int .neq (.tmp 40) (.const (.int .i64 0)))⟩, ⟨(some 42), none, false, (.pick (.tmp 39) (.const (.bool true)) (.tmp 41))⟩, ⟨(some 43), none, false, (.mov (.tmp 42))⟩, ⟨(some 44), (some (43, false)), false, (.mov (.tmp 2))⟩, ⟨(some 45), (some (43, false)), false, (.call false (.func 22) [(.tmp 44)])⟩, ⟨(some 46), (some (43, false)), false, (.un .not (.tmp 45))⟩, ⟨(some 47), none, false, (.pick (.tmp 43) (.const (.bool true)) (.tmp 46))⟩, ⟨(some 48), none, false, (.mov (.tmp 47))⟩, ⟨(some 49), (some (48, false)), false, (.mov (.tmp 6))⟩, ⟨(some 50), (some (48, false)), false, (.bin .int .eql (.tmp 49) (.const (.int .u8 0)))⟩, ⟨(some 51), none, false, (.pick (.tmp 48) (.const (.bool true)) (.tmp 50))⟩, ⟨(some 52), none, false, (.mov (.tmp 51))⟩, ⟨(some 53), (some (52, false)), false, (.mov (.tmp 3))⟩, ⟨(some 54), (some (52, false)), false, (.bin .int .lss (.tmp 53) (.const (.int .i64 0)))⟩, ⟨(some 55), none, false, (.pick (.tmp 52) (.const (.bool true)) (.tmp 54))⟩, ⟨(some 56), none, false, (.mov (.tmp 55))⟩, ⟨(some 57), (some (56, false)), false, (.mov (.tmp 4))⟩, ⟨(some 58), (some (56, false)), false, (.bin .int .lss (.tmp 57) (.const (.int .i64 0)))⟩, ⟨(some 59), none, false, (.pick (.tmp 56) (.const (.bool true)) (.tmp 58))⟩]) (.cond (.tmp 59) (.seq (.ops [⟨(some 60), none, false, (.call false (.func 17) [])⟩, ⟨(some 14), none, false, (.mov (.tmp 60))⟩]) .ret) .skip)) (.seq (.ops [⟨(some 62), none, false, (.mov (.tmp 2))⟩, ⟨(some 63), none, false, (.lenStr (.tmp 62))⟩, ⟨(some 64), none, false, (.mov (.tmp 3))⟩, ⟨(some 65), none, false, (.mov (.tmp 4))⟩, ⟨(some 66), none, false, (.call false (.func 45) [(.tmp 63), (.tmp 64), (.tmp 65)])⟩, ⟨(some 61), none, false, (.mov (.tmp 66))⟩, ⟨(some 67), none, false, (.extract (.tmp 61) 0)⟩, ⟨(some 68), none, false, (.extract (.tmp 61) 1)⟩, ⟨(some 17), none, false, (.mov (.tmp 67))⟩, ⟨(some 18), none, false, (.mov (.tmp 68))⟩]) (.seq (.seq (.ops [⟨(some 69), none, false, (.mov (.tmp 18))⟩, ⟨(some 70), none, false, (.bin .int .eql (.tmp 69) (.const (.int .i64 0)))⟩]) (.cond (.tmp 70) (.seq (.opsD [⟨(some 72), none, false, (.load true 3 (.tmp 7))⟩, ⟨(some 73), none, false, (.mov (.tmp 15))⟩, ⟨(some 74), none, false, (.sliceStr (.tmp 73) none (some (.const (.int .i64 20))))⟩, ⟨(some 75), none, false, (.mov (.tmp 2))⟩, ⟨(some 76), none, false, (.lenStr (.tmp 75))⟩, ⟨(some 77), none, false, (.mov (.tmp 3))⟩, ⟨(some 78), none, false, (.mov (.tmp 4))⟩, ⟨(some 79), none, false, (.call false (.func 46) [(.tmp 72), (.tmp 74), (.const (.string ⟨#[120]⟩)), (.tmp 76), (.tmp 77), (.tmp 78)])⟩, ⟨(some 71), none, false, (.mov (.tmp 79))⟩, ⟨(some 80), none, false, (.extract (.tmp 71) 0)⟩, ⟨(some 81), none, false, (.extract (.tmp 71) 1)⟩, ⟨(some 19), none, false, (.mov (.tmp 80))⟩, ⟨(some 20), none, false, (.mov (.tmp 81))⟩]) (.seq (.ops [⟨(some 82), none, false, (.mov (.tmp 19))⟩, ⟨(some 83), none, false, (.bin .str .eql (.tmp 82) (.const (.string ⟨#[]⟩)))⟩, ⟨(some 84), none, false, (.mov (.tmp 83))⟩, ⟨(some 85), (some (84, true)), false, (.mov (.tmp 20))⟩, ⟨(some 86), (some (84, true)), false, (.bin .int .eql (.tmp 85) (.const (.int .i64 19)))⟩, ⟨(some 87), none, false, (.pick (.tmp 84) (.tmp 86) (.const (.bool false)))⟩, ⟨(some 14), none, false, (.mov (.tmp 87))⟩]) .ret)) .skip)) (.seq (.ops [⟨(some 88), none, false, (.mov (.tmp 15))⟩, ⟨(some 89), none, false, (.mov (.tmp 17))⟩, ⟨(some 90), none, false, (.mov (.tmp 17))⟩, ⟨(some 91), none, false, (.mov (.tmp 18))⟩, ⟨(some 92), none, false, (.bin .int .add (.tmp 90) (.tmp 91))⟩, ⟨(some 93), none, false, (.sliceStr (.tmp 88) (some (.tmp 89)) (some (.tmp 92)))⟩, ⟨(some 94), none, false, (.toBytes (.tmp 93))⟩, ⟨(some 21), none, false, (.mov (.tmp 94))⟩]) (.seq (.ops [⟨(some 95), none, false, (.mov (.tmp 5))⟩, ⟨(some 96), none, false, (.mov (.tmp 18))⟩, ⟨(some 97), none, false, (.bin .int .rem (.tmp 95) (.tmp 96))⟩, ⟨(some 98), none, false, (.mov (.tmp 18))⟩, ⟨(some 99), none, false, (.bin .int .add (.tmp 97) (.tmp 98))⟩, ⟨(some 100), none, false, (.mov (.tmp 18))⟩, ⟨(some 101), none, false, (.bin .int .rem (.tmp 99) (.tmp 100))⟩, ⟨(some 5), none, false, (.mov (.tmp 101))⟩]) (.seq (.ops [⟨(some 102), none, false, (.mov (.tmp 21))⟩, ⟨(some 103), none, false, (.mov (.tmp 5))⟩, ⟨(some 104), none, false, (.idxS 1 (.tmp 102) (.tmp 103))⟩, ⟨(some 105), none, false, (.load false 1 (.tmp 104))⟩, ⟨(some 106), none, false, (.mov (.tmp 6))⟩, ⟨(some 107), none, false, (.bin .int .xor (.tmp 105) (.tmp 106))⟩, ⟨(some 108), none, false, (.idxS 1 (.tmp 102) (.tmp 103))⟩, ⟨none, none, false, (.store 1 (.tmp 108) (.tmp 107))⟩]) (.seq (.opsD [⟨(some 110), none, false, (.load true 3 (.tmp 7))⟩, ⟨(some 111), none, false, (.mov (.tmp 15))⟩, ⟨(some 112), none, false, (.sliceStr (.tmp 111) none (some (.const (.int .i64 20))))⟩, ⟨(some 113), none, false, (.mov (.tmp 21))⟩, ⟨(some 114), none, false, (.toStr (.tmp 113))⟩, ⟨(some 115), none, false, (.mov (.tmp 2))⟩, ⟨(some 116), none, false, (.lenStr (.tmp 115))⟩, ⟨(some 117), none, false, (.mov (.tmp 3))⟩, ⟨(some 118), none, false, (.mov (.tmp 4))⟩, ⟨(some 119), none, false, (.call false (.func 46) [(.tmp 110), (.tmp 112), (.tmp 114), (.tmp 116), (.tmp 117), (.tmp 118)])⟩, ⟨(some 109), none, false, (.mov (.tmp 119))⟩, ⟨(some 120), none, false, (.extract (.tmp 109) 0)⟩, ⟨(some 121), none, false, (.extract (.tmp 109) 1)⟩, ⟨(some 22), none, false, (.mov (.tmp 120))⟩, ⟨(some 23), none, false, (.mov (.tmp 121))⟩]) (.seq (.opsD [⟨(some 123), none, false, (.load true 3 (.tmp 7))⟩, ⟨(some 124), none, false, (.mov (.tmp 15))⟩, ⟨(some 125), none, false, (.sliceStr (.tmp 124) none (some (.const (.int .i64 20))))⟩, ⟨(some 126), none, false, (.mov (.tmp 15))⟩, ⟨(some 127), none, false, (.mov (.tmp 17))⟩, ⟨(some 128), none, false, (.mov (.tmp 17))⟩, ⟨(some 129), none, false, (.mov (.tmp 18))⟩, ⟨(some 130), none, false, (.bin .int .add (.tmp 128) (.tmp 129))⟩, ⟨(some 131), none, false, (.bin .int .sub (.tmp 130) (.const (.int .i64 1)))⟩, ⟨(some 132), none, false, (.sliceStr (.tmp 126) (some (.tmp 127)) (some (.tmp 131)))⟩, ⟨(some 133), none, false, (.mov (.tmp 2))⟩, ⟨(some 134), none, false, (.lenStr (.tmp 133))⟩, ⟨(some 135), none, false, (.mov (.tmp 3))⟩, ⟨(some 136), none, false, (.mov (.tmp 4))⟩, ⟨(some 137), none, false, (.call false (.func 46) [(.tmp 123), (.tmp 125), (.tmp 132), (.tmp 134), (.tmp 135), (.tmp 136)])⟩, ⟨(some 122), none, false, (.mov (.tmp 137))⟩, ⟨(some 138), none, false, (.extract (.tmp 122) 0)⟩, ⟨(some 139), none, false, (.extract (.tmp 122) 1)⟩, ⟨(some 24), none, false, (.mov (.tmp 138))⟩, ⟨(some 25), none, false, (.mov (.tmp 139))⟩]) (.seq (.opsD [⟨(some 141), none, false, (.load true 3 (.tmp 7))⟩, ⟨(some 142), none, false, (.mov (.tmp 15))⟩, ⟨(some 143), none, false, (.sliceStr (.tmp 142) (some (.const (.int .i64 1))) (some (.const (.int .i64 20))))⟩, ⟨(some 144), none, false, (.bin .str .add (.const (.string ⟨#[120]⟩)) (.tmp 143))⟩, ⟨(some 145), none, false, (.mov (.tmp 15))⟩, ⟨(some 146), none, false, (.mov (.tmp 17))⟩, ⟨(some 147), none, false, (.mov (.tmp 17))⟩, ⟨(some 148), none, false, (.mov (.tmp 18))⟩, ⟨(some 149), none, false, (.bin .int .add (.tmp 147) (.tmp 148))⟩, ⟨(some 150), none, false, (.sliceStr (.tmp 145) (some (.tmp 146)) (some (.tmp 149)))⟩, ⟨(some 151), none, false, (.mov (.tmp 2))⟩, ⟨(some 152), none, false, (.lenStr (.tmp 151))⟩, ⟨(some 153), none, false, (.mov (.tmp 3))⟩, ⟨(some 154), none, false, (.mov (.tmp 4))⟩, ⟨(some 155), none, false, (.call false (.func 46) [(.tmp 141), (.tmp 144), (.tmp 150), (.tmp 152), (.tmp 153), (.tmp 154)])⟩, ⟨(some 140), none, false, (.mov (.tmp 155))⟩, ⟨(some 156), none, false, (.extract (.tmp 140) 0)⟩, ⟨(some 157), none, false, (.extract (.tmp 140) 1)⟩, ⟨(some 26), none, false, (.mov (.tmp 156))⟩, ⟨(some 27), none, false, (.mov (.tmp 157))⟩]) (.seq (.opsD [⟨(some 159), none, false, (.load true 3 (.tmp 7))⟩, ⟨(some 160), none, false, (.mov (.tmp 15))⟩, ⟨(some 161), none, false, (.mov (.tmp 17))⟩, ⟨(some 162), none, false, (.sliceStr (.tmp 160) none (some (.tmp 161)))⟩, ⟨(some 163), none, false, (.mov (.tmp 21))⟩, ⟨(some 164), none, false, (.toStr (.tmp 163))⟩, ⟨(some 165), none, false, (.bin .str .add (.tmp 162) (.tmp 164))⟩, ⟨(some 166), none, false, (.mov (.tmp 15))⟩, ⟨(some 167), none, false, (.mov (.tmp 17))⟩, ⟨(some 168), none, false, (.mov (.tmp 18))⟩, ⟨(some 169), none, false, (.bin .int .add (.tmp 167) (.tmp 168))⟩, ⟨(some 170), none, false, (.sliceStr (.tmp 166) (some (.tmp 169)) none)⟩, ⟨(some 171), none, false, (.bin .str .add (.tmp 165) (.tmp 170))⟩, ⟨(some 172), none, false, (.call false (.func 43) [(.tmp 159), (.tmp 171)])⟩, ⟨(some 158), none, false, (.mov (.tmp 172))⟩, ⟨(some 173), none, false, (.extract (.tmp 158) 0)⟩, ⟨(some 174), none, false, (.extract (.tmp 158) 1)⟩, ⟨(some 28), none, false, (.mov (.tmp 173))⟩, ⟨(some 29), none, false, (.mov (.tmp 174))⟩]) (.seq (.ops [⟨(some 175), none, false, (.mov (.tmp 29))⟩, ⟨(some 176), none, false, (.mov (.tmp 175))⟩, ⟨(some 177), (some (176, false)), false, (.mov (.tmp 22))⟩, ⟨(some 178), (some (176, false)), false, (.bin .str .eql (.tmp 177) (.const (.string ⟨#[]⟩)))⟩, ⟨(some 179), (some (176, false)), false, (.mov (.tmp 178))⟩, ⟨(some 180), (some (179, true)), false, (.mov (.tmp 23))⟩, ⟨(some 181), (some (179, true)), false, (.bin .int .eql (.tmp 180) (.const (.int .i64 19)))⟩, ⟨(some 182), (some (176, false)), false, (.pick (.tmp 179) (.tmp 181) (.const (.bool false)))⟩, ⟨(some 183), none, false, (.pick (.tmp 176) (.const (.bool true)) (.tmp 182))⟩, ⟨(some 184), none, false, (.mov (.tmp 183))⟩, ⟨(some 185), (some (184, true)), false, (.mov (.tmp 24))⟩, ⟨(some 186), (some (184, true)), false, (.bin .str .eql (.tmp 185) (.const (.string ⟨#[]⟩)))⟩, ⟨(some 187), none, false, (.pick (.tmp 184) (.tmp 186) (.const (.bool false)))⟩, ⟨(some 188), none, false, (.mov (.tmp 187))⟩, ⟨(some 189), (some (188, true)), false, (.mov (.tmp 25))⟩, ⟨(some 190), (some (188, true)), false, (.bin .int .eql (.tmp 189) (.const (.int .i64 19)))⟩, ⟨(some 191), none, false, (.pick (.tmp 188) (.tmp 190) (.const (.bool false)))⟩, ⟨(some 192), none, false, (.mov (.tmp 191))⟩, ⟨(some 193), (some (192, true)), false, (.mov (.tmp 26))⟩, ⟨(some 194), (some (192, true)), false, (.bin .str .eql (.tmp 193) (.const (.string ⟨#[]⟩)))⟩, ⟨(some 195), none, false, (.pick (.tmp 192) (.tmp 194) (.const (.bool false)))⟩, ⟨(some 196), none, false, (.mov (.tmp 195))⟩, ⟨(some 197), (some (196, true)), false, (.mov (.tmp 27))⟩, ⟨(some 198), (some (196, true)), false, (.bin .int .eql (.tmp 197) (.const (.int .i64 19)))⟩, ⟨(some 199), none, false, (.pick (.tmp 196) (.tmp 198) (.const (.bool false)))⟩, ⟨(some 14), none, false, (.mov (.tmp 199))⟩]) .ret)))))))))))))
def m10 : MFun := ⟨k10, [(.tmp 14)]⟩
end Go.Proofs.Ytildhljhbbhmmaa.AM
namespace Go.Proofs.Ytildhljhbbhmmaa.AM
open Go
set_option linter.all false
set_option maxRecDepth 10000
variable {tbl : Tbl} [hT : TMono tbl]

/-! ### Numbers in bytes, the highest one first -/
def be4 (n : Int) : List UInt8 := [b8 (n / 16777216), b8 (n / 65536), b8 (n / 256), b8 n]
def be8 (n : Int) : List UInt8 := be4 (n / 4294967296) ++ be4 n
theorem be4_congr {x y : Int} (h : x % 4294967296 = y % 4294967296) : be4 x = be4 y := by
  unfold be4
  rw [b8_congr (x := x) (y := y) (by omega), b8_congr (x := x / 256) (y := y / 256) (by omega), b8_congr (x := x / 65536) (y := y / 65536) (by omega), b8_congr (x := x / 16777216) (y := y / 16777216) (by omega)]
theorem be4_len {n : Int} : (be4 n).length = 4 := rfl
theorem be8_len {n : Int} : (be8 n).length = 8 := rfl
/-- What stands behind j rounds. -/
def beP (m : Nat) (n : Int) (j : Nat) : List UInt8 := zb (m - j) ++ ((List.range j).map fun i => b8 (n / 256 ^ (j - 1 - i)))
theorem beP_len {m : Nat} {n : Int} {j : Nat} (h : j ≤ m) : (beP m n j).length = m := by simp [beP, zb]; omega
theorem beP_step {m : Nat} {n : Int} {j : Nat} (h : j < m) : (beP m n j).set (m - 1 - j) (b8 (n / 256 ^ j)) = beP m n (j + 1) := by
  have hz : zb (m - j) = zb (m - (j + 1)) ++ [0] := by rw [zb_succ]; congr 1; omega
  unfold beP
  rw [hz, List.append_assoc, set_mid (j := m - 1 - j) (i := 0) (y := 0) (by rw [zb_len]; omega)]
  congr 1
  show b8 (n / 256 ^ j) :: ((List.range j).map fun i => b8 (n / 256 ^ (j - 1 - i))) = _
  rw [List.range_succ_eq_map, List.map_cons, List.map_map]
  congr 1
  apply List.map_congr_left
  intro i hi
  rw [List.mem_range] at hi
  show b8 (n / 256 ^ (j - 1 - i)) = b8 (n / 256 ^ (j + 1 - 1 - (i + 1)))
  congr 3
  omega
theorem v120 (h120 : tbl 120 = some (.code m120)) (n : Int) (hn : 0 ≤ n) (m : Nat) (hm : 0 < m) (hm2 : m ≤ 1000) (H : AH) : Val tbl 120 [.int .i64 n, .int .i64 m] H (.string (tx (beP m n m))) H := by
  refine Val.of_all fun Q hQ => ?_
  rw [rn_fun h120, k120]
  have c1 : (0 : Int) ≤ m := by omega
  have c2 : (m : Int) ≤ m := by omega
  have c3 : m * 1 ≤ 140737488355328 := by omega
  have c3' : m ≤ 140737488355328 := by omega
  have c4 : (m : Int) ≤ 9223372036854775807 := by omega
  have w0 := w64 (x := (m : Int) - 1) (by omega) (by omega)
  have hz : (⟨rep m [Value.int .u8 0], 1, false⟩ : Blk) = u8r (zb m) := by
    simp [rep, u8r, bc, zb, U8]
  simp only [c1, c2, c3, c3', c4, w0, hz, Int.toNat_natCast, go_sem, Nat.reduceEqDiff, Nat.reduceAdd, Nat.reduceLeDiff, Int.reduceEq, Int.reduceLT, Int.reduceLE, Int.reduceAdd, Int.reduceSub, Int.reduceMul, Int.reduceNeg, Int.reduceToNat, Nat.reduceMul]
  refine rn_loop (fun r f H' => ∃ j : Nat, j ≤ m ∧ r = m - j ∧ f 0 = .int .i64 (n / 256 ^ j) ∧ f 5 = .slice (some ⟨H.next, 0, none⟩) m m ∧ f 6 = .int .i64 ((m : Int) - 1 - j) ∧ H'.next = H.next + 1 ∧ H.next ≤ H'.low ∧ H'.get H.next = some (u8r (beP m n j))) ?_ (n := m)
    ⟨0, by omega, by omega, by simp only [Int.pow_zero, Int.ediv_one, go_sem, Nat.reduceEqDiff, Nat.reduceAdd, Nat.reduceLeDiff, Int.reduceEq, Int.reduceLT, Int.reduceLE, Int.reduceAdd, Int.reduceSub, Int.reduceMul, Int.reduceNeg, Int.reduceToNat, Nat.reduceMul], by simp only [go_sem, Nat.reduceEqDiff, Nat.reduceAdd, Nat.reduceLeDiff, Int.reduceEq, Int.reduceLT, Int.reduceLE, Int.reduceAdd, Int.reduceSub, Int.reduceMul, Int.reduceNeg, Int.reduceToNat, Nat.reduceMul], by simp only [go_sem, Nat.reduceEqDiff, Nat.reduceAdd, Nat.reduceLeDiff, Int.reduceEq, Int.reduceLT, Int.reduceLE, Int.reduceAdd, Int.reduceSub, Int.reduceMul, Int.reduceNeg, Int.reduceToNat, Nat.reduceMul] <;> (congr 1; omega), by rw [AH.next_push, nx_enter], by rw [lw_push, lw_enter]; omega, by
      have : beP m n 0 = zb m := by simp [beP]
      rw [this]; exact AH.get_push_eq H.enter _⟩
  rintro r f H' ⟨j, hj, rfl, f0, f5, f6, nx, l1, g⟩
  by_cases hlt : 0 ≤ (m : Int) - 1 - j
  · have e1 : ((m : Int) - 1 - j) = ((m - 1 - j : Nat) : Int) := by omega
    have i0 : (0 : Int) ≤ ((m - 1 - j : Nat) : Int) := by omega
    have i1 : ((m - 1 - j : Nat) : Int) < m := by omega
    have hlen : (beP m n j).length = m := beP_len hj
    have hle : m - 1 - j + 1 ≤ m := by omega
    have hst := beP_step (n := n) (j := j) (m := m) (by omega)
    have hs8 := shr8 (x := n / 256 ^ j)
    have hg : H.next < H'.next := by omega
    have wj := w64 (x := ((m - 1 - j : Nat) : Int) - 1) (by omega) (by omega)
    have hd : n / 256 ^ j / 256 = n / 256 ^ (j + 1) := by rw [Int.ediv_ediv_of_nonneg (Int.le_of_lt (Int.pow_pos (by omega))), Int.pow_succ]
    rw [e1] at f6
    simp only [f0, f5, f6, i0, i1, g, hg, hlen, hle, hs8, hst, wj, b8_nat, u8r_len, u8r_ro, u8r_es, u8r_set, idxSP_slc, Int.toNat_natCast, stc_eq, stB_some, splice_one, addA, Nat.zero_add, go_sem, Nat.reduceEqDiff, Nat.reduceAdd, Nat.reduceLeDiff, Int.reduceEq, Int.reduceLT, Int.reduceLE, Int.reduceAdd, Int.reduceSub, Int.reduceMul, Int.reduceNeg, Int.reduceToNat, Nat.reduceMul]
    refine ⟨m - (j + 1), by omega, j + 1, by omega, rfl, by simp only [hd, go_sem, Nat.reduceEqDiff, Nat.reduceAdd, Nat.reduceLeDiff, Int.reduceEq, Int.reduceLT, Int.reduceLE, Int.reduceAdd, Int.reduceSub, Int.reduceMul, Int.reduceNeg, Int.reduceToNat, Nat.reduceMul], by simp only [f5, go_sem, Nat.reduceEqDiff, Nat.reduceAdd, Nat.reduceLeDiff, Int.reduceEq, Int.reduceLT, Int.reduceLE, Int.reduceAdd, Int.reduceSub, Int.reduceMul, Int.reduceNeg, Int.reduceToNat, Nat.reduceMul], by simp only [go_sem, Nat.reduceEqDiff, Nat.reduceAdd, Nat.reduceLeDiff, Int.reduceEq, Int.reduceLT, Int.reduceLE, Int.reduceAdd, Int.reduceSub, Int.reduceMul, Int.reduceNeg, Int.reduceToNat, Nat.reduceMul] <;> (congr 1; omega), by rw [AH.next_set]; exact nx, by rw [lw_set]; omega, AH.get_set_eq _ _ (by omega)⟩
  · have hje : j = m := by omega
    subst hje
    have hsb := slcBytes_row (n := j) (c := j) g (beP_len (Nat.le_refl _)).symm
    simp only [f0, f5, f6, hlt, hsb, go_sem, Nat.reduceEqDiff, Nat.reduceAdd, Nat.reduceLeDiff, Int.reduceEq, Int.reduceLT, Int.reduceLE, Int.reduceAdd, Int.reduceSub, Int.reduceMul, Int.reduceNeg, Int.reduceToNat, Nat.reduceMul]
    rw [back_p3 (by omega) rfl]
    exact hQ
theorem beP4 {n : Int} : beP 4 n 4 = be4 n := by
  show [b8 (n / 256 ^ 3), b8 (n / 256 ^ 2), b8 (n / 256 ^ 1), b8 (n / 256 ^ 0)] = _
  unfold be4
  rw [show (256 : Int) ^ 3 = 16777216 from rfl, show (256 : Int) ^ 2 = 65536 from rfl, show (256 : Int) ^ 1 = 256 from rfl, show (256 : Int) ^ 0 = 1 from rfl, Int.ediv_one]
theorem beP8 {n : Int} : beP 8 n 8 = be8 n := by
  show [b8 (n / 256 ^ 7), b8 (n / 256 ^ 6), b8 (n / 256 ^ 5), b8 (n / 256 ^ 4), b8 (n / 256 ^ 3), b8 (n / 256 ^ 2), b8 (n / 256 ^ 1), b8 (n / 256 ^ 0)] = _
  unfold be8 be4
  rw [show (256 : Int) ^ 7 = 4294967296 * 16777216 from rfl, show (256 : Int) ^ 6 = 4294967296 * 65536 from rfl, show (256 : Int) ^ 5 = 4294967296 * 256 from rfl, show (256 : Int) ^ 4 = 4294967296 from rfl, show (256 : Int) ^ 3 = 16777216 from rfl, show (256 : Int) ^ 2 = 65536 from rfl, show (256 : Int) ^ 1 = 256 from rfl, show (256 : Int) ^ 0 = 1 from rfl, Int.ediv_one]
  rw [← Int.ediv_ediv_of_nonneg (by omega), ← Int.ediv_ediv_of_nonneg (by omega), ← Int.ediv_ediv_of_nonneg (by omega)]
  rfl
theorem v102 (h102 : tbl 102 = some (.code m102)) (n : Int) (H : AH) : Val tbl 102 [.int .u32 n] H (.string (tx (be4 n))) H := by
  refine Val.of_all fun Q hQ => ?_
  rw [rn_fun h102, k102]
  have s1 := shr32 n 8 (by omega)
  have s2 := shr32 n 16 (by omega)
  have s3 := shr32 n 24 (by omega)
  rw [show ((8 : Nat) : Int) = 8 from rfl, show (2 : Int) ^ 8 = 256 from rfl] at s1
  rw [show ((16 : Nat) : Int) = 16 from rfl, show (2 : Int) ^ 16 = 65536 from rfl] at s2
  rw [show ((24 : Nat) : Int) = 24 from rfl, show (2 : Int) ^ 24 = 16777216 from rfl] at s3
  have hr : (H.enter.push (u8r (be4 n))).get H.next = some (u8r (be4 n)) := AH.get_push_eq H.enter _
  have hs := slcBytes_row (n := 4) (c := 4) hr rfl
  simp only [u8r, bc, be4, U8, List.map_cons, List.map_nil] at hs
  simp only [s1, s2, s3, b8_nat, hs, go_sem, Nat.reduceEqDiff, Nat.reduceAdd, Nat.reduceLeDiff, Int.reduceEq, Int.reduceLT, Int.reduceLE, Int.reduceAdd, Int.reduceSub, Int.reduceMul, Int.reduceNeg, Int.reduceToNat, Nat.reduceMul]
  exact hQ
theorem v77 (h102 : tbl 102 = some (.code m102)) (h77 : tbl 77 = some (.code m77)) (n : Int) (H : AH) : Val tbl 77 [.int .i64 n] H (.string (tx (be8 n))) H := by
  refine Val.of_all fun Q hQ => ?_
  rw [rn_fun h77, k77]
  have h32 := shr63 (n := n) (j := 32) (by omega)
  rw [show ((32 : Nat) : Int) = 32 from rfl, show (2 : Int) ^ 32 = 4294967296 from rfl] at h32
  have a1 := v102 (tbl := tbl) h102 (IntKind.wrap .u32 (n / 4294967296))
  have a2 := v102 (tbl := tbl) h102 (IntKind.wrap .u32 n)
  have e1 : be4 (IntKind.wrap .u32 (n / 4294967296)) = be4 (n / 4294967296) := be4_congr (by rw [IntKind.wrap_u32]; omega)
  have e2 : be4 (IntKind.wrap .u32 n) = be4 n := be4_congr (by rw [IntKind.wrap_u32]; omega)
  rw [e1] at a1
  rw [e2] at a2
  have hsz : (tx (be4 (n / 4294967296))).size + (tx (be4 n)).size ≤ 9223372036854775807 := by rw [tx_size, tx_size, be4_len, be4_len]; omega
  simp only [h32, ↓(a1 _).run, ↓(a2 _).run, hsz, tx_cat, go_sem, Nat.reduceEqDiff, Nat.reduceAdd, Nat.reduceLeDiff, Int.reduceEq, Int.reduceLT, Int.reduceLE, Int.reduceAdd, Int.reduceSub, Int.reduceMul, Int.reduceNeg, Int.reduceToNat, Nat.reduceMul]
  exact hQ
end Go.Proofs.Ytildhljhbbhmmaa.AM
namespace Go.Proofs.Ytildhljhbbhmmaa.AM
open Go
set_option linter.all false
set_option maxRecDepth 10000
variable {tbl : Tbl} [hT : TMono tbl]

theorem or_add32 (n p : Nat) (hp : p = 2 ^ n) {x y : Int} (h0 : 0 ≤ y) (h1 : y < (p : Int)) (x0 : 0 ≤ x) (hx : x % (p : Int) = 0) (hs : x + y < 4294967296) : bitsK .or .u32 x y = x + y := by
  obtain ⟨a, rfl⟩ : ∃ a : Nat, y = a := ⟨y.toNat, by omega⟩
  obtain ⟨b, rfl⟩ : ∃ b : Nat, x = b := ⟨x.toNat, by omega⟩
  have hb : b % p = 0 := by
    have : ((b % p : Nat) : Int) = 0 := by rw [Int.natCast_emod]; exact hx
    omega
  have e : b = 2 ^ n * (b / p) := by
    have := Nat.div_add_mod b p
    rw [← hp]
    omega
  simp only [bitsK, BitVec.toNat_or, ofInt_nat]
  have e1 : a % 2 ^ IntKind.u32.bits = a := Nat.mod_eq_of_lt (by show a < 2 ^ 32; omega)
  have e2 : b % 2 ^ IntKind.u32.bits = b := Nat.mod_eq_of_lt (by show b < 2 ^ 32; omega)
  rw [e1, e2]
  have h := Nat.two_pow_add_eq_or_of_lt (i := n) (b := a) (by rw [← hp]; omega) (b / p)
  rw [← e] at h
  rw [← h, u32w (by omega) (by omega)]
  omega
theorem or_add63 (n p : Nat) (hp : p = 2 ^ n) {x y : Int} (h0 : 0 ≤ y) (h1 : y < (p : Int)) (x0 : 0 ≤ x) (hx : x % (p : Int) = 0) (hs : x + y < 9223372036854775807) : bitsK .or .i64 x y = x + y := by
  obtain ⟨a, rfl⟩ : ∃ a : Nat, y = a := ⟨y.toNat, by omega⟩
  obtain ⟨b, rfl⟩ : ∃ b : Nat, x = b := ⟨x.toNat, by omega⟩
  have hb : b % p = 0 := by
    have : ((b % p : Nat) : Int) = 0 := by rw [Int.natCast_emod]; exact hx
    omega
  have e : b = 2 ^ n * (b / p) := by
    have := Nat.div_add_mod b p
    rw [← hp]
    omega
  simp only [bitsK, BitVec.toNat_or, ofInt_nat]
  have e1 : a % 2 ^ IntKind.i64.bits = a := Nat.mod_eq_of_lt (by show a < 2 ^ 64; omega)
  have e2 : b % 2 ^ IntKind.i64.bits = b := Nat.mod_eq_of_lt (by show b < 2 ^ 64; omega)
  rw [e1, e2]
  have h := Nat.two_pow_add_eq_or_of_lt (i := n) (b := a) (by rw [← hp]; omega) (b / p)
  rw [← e] at h
  rw [← h, w64 (by omega) (by omega)]
  omega
/-- Four bytes, the highest one first. -/
def w32 (l : List UInt8) (i : Nat) : Int := by_ l i * 16777216 + by_ l (i + 1) * 65536 + by_ l (i + 2) * 256 + by_ l (i + 3)
theorem w32_range {l : List UInt8} {i : Nat} : 0 ≤ w32 l i ∧ w32 l i < 4294967296 := by
  have h0 := by_range (k := l) (i := i)
  have h1 := by_range (k := l) (i := i + 1)
  have h2 := by_range (k := l) (i := i + 2)
  have h3 := by_range (k := l) (i := i + 3)
  unfold w32
  omega
theorem shl32u {x : Int} {j : Nat} (hj : j ≤ 32) : shiftK .shl .u32 x (j : Int) = (x * 2 ^ j) % 4294967296 := by
  simp only [shiftK, Int.toNat_natCast]
  rw [show IntKind.u32.bits = 32 from rfl, show Nat.min j 32 = j from Nat.min_eq_left hj, IntKind.wrap_u32]
theorem v103 (h103 : tbl 103 = some (.code m103)) (l : List UInt8) (hl : l.length = 12) (H : AH) : Val tbl 103 [.string (tx l), .int .i64 8] H (.int .u32 (w32 l 8)) H := by
  refine Val.of_all fun Q hQ => ?_
  rw [rn_fun h103, k103]
  have q8 := by_range (k := l) (i := 8)
  have q9 := by_range (k := l) (i := 9)
  have q10 := by_range (k := l) (i := 10)
  have q11 := by_range (k := l) (i := 11)
  have b8' : byteAt (tx l) 8 = by_ l 8 := byteAt_tx (i := 8)
  have b9' : byteAt (tx l) 9 = by_ l 9 := byteAt_tx (i := 9)
  have b10' : byteAt (tx l) 10 = by_ l 10 := byteAt_tx (i := 10)
  have b11' : byteAt (tx l) 11 = by_ l 11 := byteAt_tx (i := 11)
  have w9 : IntKind.wrap .i64 9 = 9 := rfl
  have w10 : IntKind.wrap .i64 10 = 10 := rfl
  have w11 : IntKind.wrap .i64 11 = 11 := rfl
  have u8_ := u32w (n := by_ l 8) (by omega) (by omega)
  have u9 := u32w (n := by_ l 9) (by omega) (by omega)
  have u10 := u32w (n := by_ l 10) (by omega) (by omega)
  have u11 := u32w (n := by_ l 11) (by omega) (by omega)
  have s1 := shl32u (x := by_ l 8) (j := 24) (by omega)
  have s2 := shl32u (x := by_ l 9) (j := 16) (by omega)
  have s3 := shl32u (x := by_ l 10) (j := 8) (by omega)
  rw [show ((24 : Nat) : Int) = 24 from rfl, show (2 : Int) ^ 24 = 16777216 from rfl, Int.emod_eq_of_lt (by omega) (by omega)] at s1
  rw [show ((16 : Nat) : Int) = 16 from rfl, show (2 : Int) ^ 16 = 65536 from rfl, Int.emod_eq_of_lt (by omega) (by omega)] at s2
  rw [show ((8 : Nat) : Int) = 8 from rfl, show (2 : Int) ^ 8 = 256 from rfl, Int.emod_eq_of_lt (by omega) (by omega)] at s3
  have o1 := or_add32 24 16777216 rfl (x := by_ l 8 * 16777216) (y := by_ l 9 * 65536) (by omega) (by omega) (by omega) (by omega) (by omega)
  have o2 := or_add32 16 65536 rfl (x := by_ l 8 * 16777216 + by_ l 9 * 65536) (y := by_ l 10 * 256) (by omega) (by omega) (by omega) (by omega) (by omega)
  have o3 := or_add32 8 256 rfl (x := by_ l 8 * 16777216 + by_ l 9 * 65536 + by_ l 10 * 256) (y := by_ l 11) (by omega) (by omega) (by omega) (by omega) (by omega)
  have c12 : ((12 : Nat) : Int) = 12 := rfl
  simp only [tx_size, hl, c12, b8', b9', b10', b11', w9, w10, w11, u8_, u9, u10, u11, s1, s2, s3, o1, o2, o3, go_sem, Nat.reduceEqDiff, Nat.reduceAdd, Nat.reduceLeDiff, Int.reduceEq, Int.reduceLT, Int.reduceLE, Int.reduceAdd, Int.reduceSub, Int.reduceMul, Int.reduceNeg, Int.reduceToNat, Nat.reduceMul]
  exact hQ
/-- The nonce of a part. -/
def nonceL (n : List UInt8) (i : Int) : List UInt8 := n.take 8 ++ be4 (w32 n 8 + i)
theorem nonceL_len {n : List UInt8} {i : Int} (h : n.length = 12) : (nonceL n i).length = 12 := by
  rw [nonceL, List.length_append, List.length_take, be4_len, h]; rfl
theorem v76 (h102 : tbl 102 = some (.code m102)) (h103 : tbl 103 = some (.code m103)) (h76 : tbl 76 = some (.code m76)) (n : List UInt8) (hn : n.length = 12) (i : Int) (H : AH) : Val tbl 76 [.string (tx n), .int .i64 i] H (.string (tx (nonceL n i))) H := by
  refine Val.of_all fun Q hQ => ?_
  rw [rn_fun h76, k76]
  have a1 := v103 (tbl := tbl) h103 n hn
  have a2 := v102 (tbl := tbl) h102 (IntKind.wrap .u32 (w32 n 8 + IntKind.wrap .u32 i))
  have e1 : be4 (IntKind.wrap .u32 (w32 n 8 + IntKind.wrap .u32 i)) = be4 (w32 n 8 + i) := be4_congr (by rw [IntKind.wrap_u32, IntKind.wrap_u32]; omega)
  rw [e1] at a2
  have hsz : 8 ≤ (tx n).size := by rw [tx_size]; omega
  have hx : (tx n).extract 0 8 = tx (n.take 8) := by rw [tx_extract]; rfl
  have hsz2 : (tx (n.take 8)).size + (tx (be4 (w32 n 8 + i))).size ≤ 9223372036854775807 := by rw [tx_size, tx_size, be4_len, List.length_take]; omega
  simp only [hsz, hx, ↓(a1 _).run, ↓(a2 _).run, hsz2, tx_cat, go_sem, Nat.reduceEqDiff, Nat.reduceAdd, Nat.reduceLeDiff, Int.reduceEq, Int.reduceLT, Int.reduceLE, Int.reduceAdd, Int.reduceSub, Int.reduceMul, Int.reduceNeg, Int.reduceToNat, Nat.reduceMul]
  exact hQ
/-- The extra of a part. -/
def extraL (h : List UInt8) (i : Int) (last : Bool) : List UInt8 := h ++ be8 i ++ [if last = true then 1 else 0]
theorem extraL_len {h : List UInt8} {i : Int} {last : Bool} : (extraL h i last).length = h.length + 9 := by
  simp [extraL, be8_len]
theorem shl8 {x : Int} (h : 0 ≤ x ∧ x < 16777216) : shiftK .shl .i64 x 8 = x * 256 := by
  simp only [shiftK]
  rw [show (2 : Int) ^ Nat.min (8 : Int).toNat IntKind.i64.bits = 256 from rfl, w64 (by omega) (by omega)]
theorem v107 (h49 : tbl 49 = some (.nat natJoin)) (h113 : tbl 113 = some (.code m113)) (h120 : tbl 120 = some (.code m120)) (h107 : tbl 107 = some (.code m107)) (h : List UInt8) (hh : h.length = 20) (i : Int) (hi : 0 ≤ i ∧ i ≤ 1000000000) (last : Bool) (H : AH) :
    Val tbl 107 [.string (tx h), .int .i64 i, .bool last] H (.tuple #[.string (tx (nonceL (h.drop 8) i)), .string (tx (extraL h i last))]) H := by
  refine Val.of_all fun Q hQ => ?_
  rw [rn_fun h107, k107]
  obtain ⟨n, hn⟩ : ∃ n, n = h.drop 8 := ⟨_, rfl⟩
  have hnl : n.length = 12 := by rw [hn, List.length_drop]; omega
  rw [← hn] at hQ
  have hx1 : (tx h).extract 8 20 = tx n := by rw [tx_extract, List.take_of_length_le (by omega), hn]
  have q8 := by_range (k := n) (i := 8)
  have q9 := by_range (k := n) (i := 9)
  have q10 := by_range (k := n) (i := 10)
  have q11 := by_range (k := n) (i := 11)
  have b8' : byteAt (tx n) 8 = by_ n 8 := byteAt_tx (i := 8)
  have b9' : byteAt (tx n) 9 = by_ n 9 := byteAt_tx (i := 9)
  have b10' : byteAt (tx n) 10 = by_ n 10 := byteAt_tx (i := 10)
  have b11' : byteAt (tx n) 11 = by_ n 11 := byteAt_tx (i := 11)
  have w9 : IntKind.wrap .i64 9 = 9 := rfl
  have w10 : IntKind.wrap .i64 10 = 10 := rfl
  have w11 : IntKind.wrap .i64 11 = 11 := rfl
  have w12 : IntKind.wrap .i64 12 = 12 := rfl
  have u8_ := w64 (x := by_ n 8) (by omega) (by omega)
  have u9 := w64 (x := by_ n 9) (by omega) (by omega)
  have u10 := w64 (x := by_ n 10) (by omega) (by omega)
  have u11 := w64 (x := by_ n 11) (by omega) (by omega)
  have s0 : shiftK .shl .i64 0 8 = 0 := rfl
  have s1 := shl8 (x := by_ n 8) (by omega)
  have s2 := shl8 (x := by_ n 8 * 256 + by_ n 9) (by omega)
  have s3 := shl8 (x := (by_ n 8 * 256 + by_ n 9) * 256 + by_ n 10) (by omega)
  have o0 := or_add63 8 256 rfl (x := 0) (y := by_ n 8) (by omega) (by omega) (by omega) (by omega) (by omega)
  have z0 : (0 : Int) + by_ n 8 = by_ n 8 := by omega
  rw [z0] at o0
  have o1 := or_add63 8 256 rfl (x := by_ n 8 * 256) (y := by_ n 9) (by omega) (by omega) (by omega) (by omega) (by omega)
  have o2 := or_add63 8 256 rfl (x := (by_ n 8 * 256 + by_ n 9) * 256) (y := by_ n 10) (by omega) (by omega) (by omega) (by omega) (by omega)
  have o3 := or_add63 8 256 rfl (x := ((by_ n 8 * 256 + by_ n 9) * 256 + by_ n 10) * 256) (y := by_ n 11) (by omega) (by omega) (by omega) (by omega) (by omega)
  have hw : ((by_ n 8 * 256 + by_ n 9) * 256 + by_ n 10) * 256 + by_ n 11 = w32 n 8 := by simp only [w32, Nat.reduceAdd]; omega
  rw [hw] at o3
  have c20 : (tx h).size = 20 := by rw [tx_size, hh]
  have c12 : ((12 : Nat) : Int) = 12 := rfl
  have le20 : 8 ≤ 20 := by omega
  simp only [c20, le20, hx1, go_sem, Nat.reduceEqDiff, Nat.reduceAdd, Nat.reduceLeDiff, Int.reduceEq, Int.reduceLT, Int.reduceLE, Int.reduceAdd, Int.reduceSub, Int.reduceMul, Int.reduceNeg, Int.reduceToNat, Nat.reduceMul]
  rw [rn_round]
  simp only [tx_size, hnl, c12, b8', w9, u8_, s0, o0, go_sem, Nat.reduceEqDiff, Nat.reduceAdd, Nat.reduceLeDiff, Int.reduceEq, Int.reduceLT, Int.reduceLE, Int.reduceAdd, Int.reduceSub, Int.reduceMul, Int.reduceNeg, Int.reduceToNat, Nat.reduceMul]
  rw [rn_round]
  simp only [tx_size, hnl, c12, b9', w10, u9, s1, o1, go_sem, Nat.reduceEqDiff, Nat.reduceAdd, Nat.reduceLeDiff, Int.reduceEq, Int.reduceLT, Int.reduceLE, Int.reduceAdd, Int.reduceSub, Int.reduceMul, Int.reduceNeg, Int.reduceToNat, Nat.reduceMul]
  rw [rn_round]
  simp only [tx_size, hnl, c12, b10', w11, u10, s2, o2, go_sem, Nat.reduceEqDiff, Nat.reduceAdd, Nat.reduceLeDiff, Int.reduceEq, Int.reduceLT, Int.reduceLE, Int.reduceAdd, Int.reduceSub, Int.reduceMul, Int.reduceNeg, Int.reduceToNat, Nat.reduceMul]
  rw [rn_round]
  simp only [tx_size, hnl, c12, b11', w12, u11, s3, o3, go_sem, Nat.reduceEqDiff, Nat.reduceAdd, Nat.reduceLeDiff, Int.reduceEq, Int.reduceLT, Int.reduceLE, Int.reduceAdd, Int.reduceSub, Int.reduceMul, Int.reduceNeg, Int.reduceToNat, Nat.reduceMul]
  rw [rn_round]
  have rr := w32_range (l := n) (i := 8)
  have wsum := w64 (x := w32 n 8 + i) (by omega) (by omega)
  have a4 := v120 (tbl := tbl) h120 (w32 n 8 + i) (by omega) 4 (by omega) (by omega)
  have a8 := v120 (tbl := tbl) h120 i (by omega) 8 (by omega) (by omega)
  rw [beP4, show ((4 : Nat) : Int) = 4 from rfl] at a4
  rw [beP8, show ((8 : Nat) : Int) = 8 from rfl] at a8
  have hsz8 : 8 ≤ (tx n).size := by rw [tx_size]; omega
  have hx2 : (tx n).extract 0 8 = tx (n.take 8) := by rw [tx_extract]; rfl
  have hsz2 : (tx (n.take 8)).size + (tx (be4 (w32 n 8 + i))).size ≤ 9223372036854775807 := by rw [tx_size, tx_size, be4_len, List.length_take]; omega
  have fl0 : (⟨#[0]⟩ : ByteArray) = tx [0] := rfl
  have fl1 : (⟨#[1]⟩ : ByteArray) = tx [1] := rfl
  have hv := fun fl : UInt8 => v113 (tbl := tbl) (p := ⟨H.next, 0, none⟩) (n := 3) (c := 3) (xs := [h, be8 i, [fl]]) (H := H.enter.push ⟨[.string (tx h), .string (tx (be8 i)), .string (tx [fl])], 1, false⟩) h113 h49 (by
    have := AH.get_push_eq H.enter ⟨[.string (tx h), .string (tx (be8 i)), .string (tx [fl])], 1, false⟩
    rw [nx_enter] at this
    rw [ldc_eq]
    simp only
    rw [this]
    rfl) (by omega) (by omega) (by simp [be8_len, hh]) (by omega)
  have hfl : ∀ fl : UInt8, [h, be8 i, [fl]].flatten = h ++ be8 i ++ [fl] := fun fl => by simp
  simp only [hfl] at hv
  cases last with
  | true =>
    have he : extraL h i true = h ++ be8 i ++ [1] := rfl
    rw [he] at hQ
    simp only [wsum, hsz8, hx2, fl0, fl1, hsz2, tx_cat, ↓(a4 _).run, ↓(a8 _).run, ↓(hv 1).run, go_sem, Nat.reduceEqDiff, Nat.reduceAdd, Nat.reduceLeDiff, Int.reduceEq, Int.reduceLT, Int.reduceLE, Int.reduceAdd, Int.reduceSub, Int.reduceMul, Int.reduceNeg, Int.reduceToNat, Nat.reduceMul]
    exact hQ
  | false =>
    have he : extraL h i false = h ++ be8 i ++ [0] := rfl
    rw [he] at hQ
    simp only [wsum, hsz8, hx2, fl0, fl1, hsz2, tx_cat, ↓(a4 _).run, ↓(a8 _).run, ↓(hv 0).run, go_sem, Nat.reduceEqDiff, Nat.reduceAdd, Nat.reduceLeDiff, Int.reduceEq, Int.reduceLT, Int.reduceLE, Int.reduceAdd, Int.reduceSub, Int.reduceMul, Int.reduceNeg, Int.reduceToNat, Nat.reduceMul]
    exact hQ
/-- The error of keys. -/
def keysW (a b c : List UInt8) : Int := if a.length = 32 ∧ b.length = 32 ∧ c.length = 16 then 0 else 6
def keysV (a b c : List UInt8) : Value := .agg #[.string (tx a), .string (tx b), .string (tx c)]
end Go.Proofs.Ytildhljhbbhmmaa.AM
namespace Go.Proofs.Ytildhljhbbhmmaa.AM
open Go
set_option linter.all false
set_option maxRecDepth 10000
variable {tbl : Tbl} [hT : TMono tbl]

theorem v78 (h78 : tbl 78 = some (.code m78)) (a b c : List UInt8) (H : AH) : Val tbl 78 [keysV a b c] H (.int .i64 (keysW a b c)) H := by
  refine Val.of_all fun Q hQ => ?_
  rw [rn_fun h78, k78]
  unfold keysW at hQ
  have e1 : ((a.length : Int) = 32) ↔ a.length = 32 := by omega
  have e2 : ((b.length : Int) = 32) ↔ b.length = 32 := by omega
  have e3 : ((c.length : Int) = 16) ↔ c.length = 16 := by omega
  by_cases h1 : a.length = 32
  · by_cases h2 : b.length = 32
    · by_cases h3 : c.length = 16
      · rw [if_pos ⟨h1, h2, h3⟩] at hQ
        simp only [keysV, tx_size, e1, e2, e3, h1, h2, h3, go_sem, Nat.reduceEqDiff, Nat.reduceAdd, Nat.reduceLeDiff, Int.reduceEq, Int.reduceLT, Int.reduceLE, Int.reduceAdd, Int.reduceSub, Int.reduceMul, Int.reduceNeg, Int.reduceToNat, Nat.reduceMul]
        exact hQ
      · rw [if_neg fun h => h3 h.2.2] at hQ
        simp only [keysV, tx_size, e1, e2, e3, h1, h2, h3, go_sem, Nat.reduceEqDiff, Nat.reduceAdd, Nat.reduceLeDiff, Int.reduceEq, Int.reduceLT, Int.reduceLE, Int.reduceAdd, Int.reduceSub, Int.reduceMul, Int.reduceNeg, Int.reduceToNat, Nat.reduceMul]
        exact hQ
    · rw [if_neg fun h => h2 h.2.1] at hQ
      simp only [keysV, tx_size, e1, e2, e3, h1, h2, go_sem, Nat.reduceEqDiff, Nat.reduceAdd, Nat.reduceLeDiff, Int.reduceEq, Int.reduceLT, Int.reduceLE, Int.reduceAdd, Int.reduceSub, Int.reduceMul, Int.reduceNeg, Int.reduceToNat, Nat.reduceMul]
      exact hQ
  · rw [if_neg fun h => h1 h.1] at hQ
    simp only [keysV, tx_size, e1, e2, e3, h1, go_sem, Nat.reduceEqDiff, Nat.reduceAdd, Nat.reduceLeDiff, Int.reduceEq, Int.reduceLT, Int.reduceLE, Int.reduceAdd, Int.reduceSub, Int.reduceMul, Int.reduceNeg, Int.reduceToNat, Nat.reduceMul]
    exact hQ
theorem v40 (h40 : tbl 40 = some (.code m40)) (a b c : List UInt8) (H : AH) : Val tbl 40 [keysV a b c] H (.int .i64 (keysW a b c)) H := by
  refine Val.of_all fun Q hQ => ?_
  rw [rn_fun h40, k40]
  unfold keysW at hQ
  have e1 : ((a.length : Int) = 32) ↔ a.length = 32 := by omega
  have e2 : ((b.length : Int) = 32) ↔ b.length = 32 := by omega
  have e3 : ((c.length : Int) = 16) ↔ c.length = 16 := by omega
  by_cases h1 : a.length = 32
  · by_cases h2 : b.length = 32
    · by_cases h3 : c.length = 16
      · rw [if_pos ⟨h1, h2, h3⟩] at hQ
        simp only [keysV, tx_size, e1, e2, e3, h1, h2, h3, go_sem, Nat.reduceEqDiff, Nat.reduceAdd, Nat.reduceLeDiff, Int.reduceEq, Int.reduceLT, Int.reduceLE, Int.reduceAdd, Int.reduceSub, Int.reduceMul, Int.reduceNeg, Int.reduceToNat, Nat.reduceMul]
        exact hQ
      · rw [if_neg fun h => h3 h.2.2] at hQ
        simp only [keysV, tx_size, e1, e2, e3, h1, h2, h3, go_sem, Nat.reduceEqDiff, Nat.reduceAdd, Nat.reduceLeDiff, Int.reduceEq, Int.reduceLT, Int.reduceLE, Int.reduceAdd, Int.reduceSub, Int.reduceMul, Int.reduceNeg, Int.reduceToNat, Nat.reduceMul]
        exact hQ
    · rw [if_neg fun h => h2 h.2.1] at hQ
      simp only [keysV, tx_size, e1, e2, e3, h1, h2, go_sem, Nat.reduceEqDiff, Nat.reduceAdd, Nat.reduceLeDiff, Int.reduceEq, Int.reduceLT, Int.reduceLE, Int.reduceAdd, Int.reduceSub, Int.reduceMul, Int.reduceNeg, Int.reduceToNat, Nat.reduceMul]
      exact hQ
  · rw [if_neg fun h => h1 h.1] at hQ
    simp only [keysV, tx_size, e1, e2, e3, h1, go_sem, Nat.reduceEqDiff, Nat.reduceAdd, Nat.reduceLeDiff, Int.reduceEq, Int.reduceLT, Int.reduceLE, Int.reduceAdd, Int.reduceSub, Int.reduceMul, Int.reduceNeg, Int.reduceToNat, Nat.reduceMul]
    exact hQ
/-- What parts need. -/
structure PartT (tbl : Tbl) : Prop where
  h58 : tbl 58 = some (.code m58)
  h107 : tbl 107 = some (.code m107)
  h120 : tbl 120 = some (.code m120)
  h104 : tbl 104 = some (.code m104)
  h85 : tbl 85 = some (.code m85)
  h88 : tbl 88 = some (.code m88)
  h110 : tbl 110 = some (.code m110)
  h86 : tbl 86 = some (.code m86)
theorem v104 (T : SealT tbl) (X : PartT tbl) (a b c h t : List UInt8) (ha : a.length = 32) (hh : h.length = 20) (i : Int) (hi : 0 ≤ i ∧ i ≤ 1000000000) (last : Bool) (ht : t.length ≤ 1048592) (H : AH) :
    Val tbl 104 [keysV a b c, .string (tx h), .int .i64 i, .bool last, .string (tx t)] H (if tagOk a (nonceL (h.drop 8) i) (extraL h i last) t then .tuple #[.string (tx (bodyL a (nonceL (h.drop 8) i) t)), .bool true] else .tuple #[.string ⟨#[]⟩, .bool false]) H := by
  refine Val.of_all fun Q hQ => ?_
  rw [rn_fun X.h104, k104]
  have hv := v107 (tbl := tbl) T.h49 T.h113 X.h120 X.h107 h hh i hi last
  have hnl := nonceL_len (n := h.drop 8) (i := i) (by rw [List.length_drop]; omega)
  have hel := extraL_len (h := h) (i := i) (last := last)
  have hw := v58 T X.h58 a (nonceL (h.drop 8) i) (extraL h i last) t ha hnl (by omega) ht
  by_cases hg : tagOk a (nonceL (h.drop 8) i) (extraL h i last) t
  · rw [if_pos hg] at hQ
    simp only [hg, if_true] at hw
    simp only [keysV, ↓(hv _).run, ↓(hw _).run, go_sem, Nat.reduceEqDiff, Nat.reduceAdd, Nat.reduceLeDiff, Int.reduceEq, Int.reduceLT, Int.reduceLE, Int.reduceAdd, Int.reduceSub, Int.reduceMul, Int.reduceNeg, Int.reduceToNat, Nat.reduceMul]
    exact hQ
  · rw [if_neg hg] at hQ
    simp only [hg, if_false] at hw
    simp only [keysV, ↓(hv _).run, ↓(hw _).run, go_sem, Nat.reduceEqDiff, Nat.reduceAdd, Nat.reduceLeDiff, Int.reduceEq, Int.reduceLT, Int.reduceLE, Int.reduceAdd, Int.reduceSub, Int.reduceMul, Int.reduceNeg, Int.reduceToNat, Nat.reduceMul]
    exact hQ
theorem v85 (T : SealT tbl) (X : PartT tbl) (a b c h t : List UInt8) (ha : a.length = 32) (hh : h.length = 20) (i : Int) (hi : 0 ≤ i ∧ i ≤ 1000000000) (last : Bool) (ht : t.length ≤ 1048576) (H : AH) :
    Val tbl 85 [keysV a b c, .string (tx h), .int .i64 i, .bool last, .string (tx t)] H (.string (tx (sealL a (nonceL (h.drop 8) i) (extraL h i last) t))) H := by
  refine Val.of_all fun Q hQ => ?_
  rw [rn_fun X.h85, k85]
  have hv := v107 (tbl := tbl) T.h49 T.h113 X.h120 X.h107 h hh i hi last
  have hnl := nonceL_len (n := h.drop 8) (i := i) (by rw [List.length_drop]; omega)
  have hel := extraL_len (h := h) (i := i) (last := last)
  have hw := v57 T a (nonceL (h.drop 8) i) (extraL h i last) t ha hnl (by omega) ht
  simp only [keysV, ↓(hv _).run, ↓(hw _).run, go_sem, Nat.reduceEqDiff, Nat.reduceAdd, Nat.reduceLeDiff, Int.reduceEq, Int.reduceLT, Int.reduceLE, Int.reduceAdd, Int.reduceSub, Int.reduceMul, Int.reduceNeg, Int.reduceToNat, Nat.reduceMul]
  exact hQ
theorem v110 (h110 : tbl 110 = some (.code m110)) (s p : List UInt8) (H : AH) : Val tbl 110 [.string (tx s), .string (tx p)] H (.bool (decide (s.take p.length = p))) H := by
  refine Val.of_all fun Q hQ => ?_
  rw [rn_fun h110, k110]
  have e1 : ((p.length : Int) ≤ s.length) ↔ p.length ≤ s.length := by omega
  have hx : (tx s).extract 0 p.length = tx (s.take p.length) := by rw [tx_extract]; rfl
  have p0 : (0 : Int) ≤ p.length := by omega
  by_cases h : p.length ≤ s.length
  · simp only [tx_size, e1, h, p0, Int.toNat_natCast, hx, tx_inj, go_sem, Nat.reduceEqDiff, Nat.reduceAdd, Nat.reduceLeDiff, Int.reduceEq, Int.reduceLT, Int.reduceLE, Int.reduceAdd, Int.reduceSub, Int.reduceMul, Int.reduceNeg, Int.reduceToNat, Nat.reduceMul]
    exact hQ
  · have : ¬ s.take p.length = p := fun he => by
      have := congrArg List.length he
      rw [List.length_take] at this
      omega
    rw [decide_eq_false this] at hQ
    simp only [tx_size, e1, h, go_sem, Nat.reduceEqDiff, Nat.reduceAdd, Nat.reduceLeDiff, Int.reduceEq, Int.reduceLT, Int.reduceLE, Int.reduceAdd, Int.reduceSub, Int.reduceMul, Int.reduceNeg, Int.reduceToNat, Nat.reduceMul]
    exact hQ
theorem v88 (h110 : tbl 110 = some (.code m110)) (h88 : tbl 88 = some (.code m88)) (s p : List UInt8) (H : AH) : Val tbl 88 [.string (tx s), .string (tx p)] H (.bool (decide (s.take p.length = p))) H := by
  refine Val.of_all fun Q hQ => ?_
  rw [rn_fun h88, k88]
  simp only [↓(v110 h110 s p _).run, go_sem, Nat.reduceEqDiff, Nat.reduceAdd, Nat.reduceLeDiff, Int.reduceEq, Int.reduceLT, Int.reduceLE, Int.reduceAdd, Int.reduceSub, Int.reduceMul, Int.reduceNeg, Int.reduceToNat, Nat.reduceMul]
  exact hQ
end Go.Proofs.Ytildhljhbbhmmaa.AM
namespace Go.Proofs.Ytildhljhbbhmmaa.AM
open Go Go.RowKit
set_option linter.all false
set_option maxRecDepth 10000

/-- What the machine says of a call without addresses, as a contract. -/
theorem calls_lone {tbl : Tbl} (ht : ∀ N, TblOk Try.prog N tbl) {n : FuncId} {fn : Func} (hf : Try.prog.funcs[n]? = some fn) (hb : fn.body.isSome = true) (hn : (fn.name == "runtime.NumGoroutine") = false) {vs : List Value} {H' : AH} {v : Value}
    (hv : Val tbl n vs AH.lone v H') (hp : vs.all p2 = true) (hr : p3 v = true) (w : World) : Calls Try.prog n vs.toArray w fun e w' => e = .returned v ∧ Below w.heap.size w w' := by
  refine (calls_of_val mixed ht hf hb hn hv (sim_lone w) (args := vs.toArray) ?_).mono fun e w' he => ?_
  · have : ∀ l : List Value, l.all p2 = true → VRL AH.lone.next (fun _ => none) l l := by
      intro l
      induction l with
      | nil => intro _; exact .nil
      | cons x l ih =>
        intro h
        simp only [List.all_cons, Bool.and_eq_true] at h
        exact .cons (.of2 h.1) (ih h.2)
    exact this vs hp
  · cases e with
    | panicked ch => exact he.elim
    | outgrown => exact he.elim
    | returned v' =>
      obtain ⟨c', h1, h2, h3⟩ := he
      exact ⟨by rw [h1.eq3 hr], h3.below⟩
def partT : List (Nat × Ent) := [(17, .code m17), (18, .code m18), (49, .nat natJoin), (55, .nat natRepeat), (56, .code m56), (57, .code m57), (58, .code m58), (62, .code m62), (63, .code m63), (85, .code m85), (86, .code m86), (88, .code m88), (90, .code m90), (95, .code m95), (96, .code m96), (97, .code m97), (98, .code m98), (99, .code m99), (104, .code m104), (107, .code m107), (110, .code m110), (111, .code m111), (112, .code m112), (113, .code m113), (114, .code m114), (115, .code m115), (116, .nat natAdd64), (120, .code m120), (121, .code m121)]
instance : TMono (lookT partT) := lookT_mono (by
  intro p hp g h
  simp only [partT, List.mem_cons, List.not_mem_nil, or_false] at hp
  rcases hp with rfl | rfl | rfl | rfl | rfl | rfl | rfl | rfl | rfl | rfl | rfl | rfl | rfl | rfl | rfl | rfl | rfl | rfl | rfl | rfl | rfl | rfl | rfl | rfl | rfl | rfl | rfl | rfl | rfl
  · simp at h
  · simp at h
  · simp only [Ent.nat.injEq] at h; subst h; exact natJoin_mono
  · simp only [Ent.nat.injEq] at h; subst h; exact natRepeat_mono
  · simp at h
  · simp at h
  · simp at h
  · simp at h
  · simp at h
  · simp at h
  · simp at h
  · simp at h
  · simp at h
  · simp at h
  · simp at h
  · simp at h
  · simp at h
  · simp at h
  · simp at h
  · simp at h
  · simp at h
  · simp at h
  · simp at h
  · simp at h
  · simp at h
  · simp at h
  · simp only [Ent.nat.injEq] at h; subst h; exact natAdd64_mono
  · simp at h
  · simp at h)
theorem partT_ok (N : Nat) : TblOk Try.prog N (lookT partT) := fun n e he => (by
  intro p hp
  simp only [partT, List.mem_cons, List.not_mem_nil, or_false] at hp
  rcases hp with rfl | rfl | rfl | rfl | rfl | rfl | rfl | rfl | rfl | rfl | rfl | rfl | rfl | rfl | rfl | rfl | rfl | rfl | rfl | rfl | rfl | rfl | rfl | rfl | rfl | rfl | rfl | rfl | rfl
  · exact ⟨_, Try.func17, c17⟩
  · exact ⟨_, Try.func18, c18⟩
  · exact natJoin_ok N
  · exact natRepeat_ok N
  · exact ⟨_, Try.func56, c56⟩
  · exact ⟨_, Try.func57, c57⟩
  · exact ⟨_, Try.func58, c58⟩
  · exact ⟨_, Try.func62, c62⟩
  · exact ⟨_, Try.func63, c63⟩
  · exact ⟨_, Try.func85, c85⟩
  · exact ⟨_, Try.func86, c86⟩
  · exact ⟨_, Try.func88, c88⟩
  · exact ⟨_, Try.func90, c90⟩
  · exact ⟨_, Try.func95, c95⟩
  · exact ⟨_, Try.func96, c96⟩
  · exact ⟨_, Try.func97, c97⟩
  · exact ⟨_, Try.func98, c98⟩
  · exact ⟨_, Try.func99, c99⟩
  · exact ⟨_, Try.func104, c104⟩
  · exact ⟨_, Try.func107, c107⟩
  · exact ⟨_, Try.func110, c110⟩
  · exact ⟨_, Try.func111, c111⟩
  · exact ⟨_, Try.func112, c112⟩
  · exact ⟨_, Try.func113, c113⟩
  · exact ⟨_, Try.func114, c114⟩
  · exact ⟨_, Try.func115, c115⟩
  · exact add64_ent N
  · exact ⟨_, Try.func120, c120⟩
  · exact ⟨_, Try.func121, c121⟩ : ∀ p ∈ partT, EntOk Try.prog N p.1 p.2) _ (lookup_mem he)
theorem partS : SealT (lookT partT) := ⟨rfl, rfl, rfl, rfl, rfl, rfl, rfl, rfl, rfl, rfl, rfl, rfl, rfl, rfl, rfl, rfl, rfl, rfl, rfl, rfl, rfl⟩
theorem partP : PartT (lookT partT) := ⟨rfl, rfl, rfl, rfl, rfl, rfl, rfl, rfl⟩
theorem calls104 (a b c h t : List UInt8) (ha : a.length = 32) (hh : h.length = 20) (i : Int) (hi : 0 ≤ i ∧ i ≤ 1000000000) (last : Bool) (ht : t.length ≤ 1048592) (w : World) :
    Calls Try.prog 104 #[keysV a b c, .string (tx h), .int .i64 i, .bool last, .string (tx t)] w fun e w' => e = .returned (if tagOk a (nonceL (h.drop 8) i) (extraL h i last) t then .tuple #[.string (tx (bodyL a (nonceL (h.drop 8) i) t)), .bool true] else .tuple #[.string ⟨#[]⟩, .bool false]) ∧ Below w.heap.size w w' :=
  calls_lone partT_ok Try.func104 (by kernel_rfl) (by kernel_rfl) (v104 partS partP a b c h t ha hh i hi last ht AH.lone) rfl (by split <;> rfl) w
theorem calls85 (a b c h t : List UInt8) (ha : a.length = 32) (hh : h.length = 20) (i : Int) (hi : 0 ≤ i ∧ i ≤ 1000000000) (last : Bool) (ht : t.length ≤ 1048576) (w : World) :
    Calls Try.prog 85 #[keysV a b c, .string (tx h), .int .i64 i, .bool last, .string (tx t)] w fun e w' => e = .returned (.string (tx (sealL a (nonceL (h.drop 8) i) (extraL h i last) t))) ∧ Below w.heap.size w w' :=
  calls_lone partT_ok Try.func85 (by kernel_rfl) (by kernel_rfl) (v85 partS partP a b c h t ha hh i hi last ht AH.lone) rfl rfl w
theorem calls86 {s : Int} (h0 : 0 ≤ s) (h1 : s ≤ 1048576) (w : World) : Calls Try.prog 86 #[.int .i64 s] w fun e w' => e = .returned (.int .i64 (PP s)) ∧ Below w.heap.size w w' :=
  calls_lone partT_ok Try.func86 (by kernel_rfl) (by kernel_rfl) (v86 partP.h86 h0 h1 AH.lone) rfl rfl w
theorem calls88 (s p : List UInt8) (w : World) : Calls Try.prog 88 #[.string (tx s), .string (tx p)] w fun e w' => e = .returned (.bool (decide (s.take p.length = p))) ∧ Below w.heap.size w w' :=
  calls_lone partT_ok Try.func88 (by kernel_rfl) (by kernel_rfl) (v88 partP.h110 partP.h88 s p AH.lone) rfl rfl w
end Go.Proofs.Ytildhljhbbhmmaa.AM
namespace Go.Proofs.Ytildhljhbbhmmaa.AM
open Go Go.RowKit
set_option linter.all false
set_option maxRecDepth 10000

theorem bldWrite (B b : Nat) (bs : List Value) (s : ByteArray) (w : World) (h : Lib.IsBuilder 115 5 B b bs w) (hlen : bs.length + s.size ≤ 140737488355328) (hBw : B ≤ w.heap.size) :
    Calls Try.prog 82 #[.pointer (some ⟨b, 0, none⟩), .string s] w fun e w' => e = .returned (.tuple #[.int .i64 s.size, .nilIface]) ∧ (Lib.BuilderAt 115 5 B b (.pointer (some ⟨b, 0, none⟩)) (bs ++ Lib.strCells s) w' ∧ Below B w w') :=
  Any.Builder_WriteString (P := Try.prog) (ρ := Try.lays156_ren) { Try.lays156 with } Try.Builder_Extra_156 B b bs s w h hlen hBw
theorem bldString (B b : Nat) (l : List UInt8) (w : World) (h : Lib.IsBuilder 115 5 B b (Lib.byteCells l) w) (hBw : B ≤ w.heap.size) :
    Calls Try.prog 83 #[.pointer (some ⟨b, 0, none⟩)] w fun e w' => e = .returned (.string ⟨l.toArray⟩) ∧ Below B w w' :=
  Any.Builder_String_any (P := Try.prog) (ρ := Try.lays156_ren) { Try.lays156 with } Try.Builder_Extra_156 B b l w h hBw
theorem bld_below {T e : TypeId} {B b : Nat} {bs : List Value} {W W' : World} (h : Lib.IsBuilder T e B b bs W) (hb : Below W.heap.size W W') : Lib.IsBuilder T e B b bs W' := by
  have key : ∀ p, Lib.BuilderAt T e B b p bs W → Lib.BuilderAt T e B b p bs W' := by
    rintro p ⟨h1, v, h2, h3, h4⟩
    have hlt : ∀ k o, W.heap[k]? = some o → W'.heap[k]? = some o := fun k o hk => by
      rw [hb.block k (Array.getElem?_eq_some_iff.1 hk).1]; exact hk
    refine ⟨h1, v, hlt _ _ h2, ⟨h3.1, ?_⟩, h4⟩
    rcases h3.2 with h5 | ⟨g, cap, cur, e1, e2, e3, e4⟩
    · exact .inl h5
    · exact .inr ⟨g, cap, cur, e1, e2, hlt _ _ e3, e4⟩
  rcases h with h | h
  · exact .inl (key _ h)
  · exact .inr (key _ h)
theorem byteCells_len (l : List UInt8) : (Lib.byteCells l).length = l.length := Lib.byteCells_length l
end Go.Proofs.Ytildhljhbbhmmaa.AM
namespace Go.Proofs.Ytildhljhbbhmmaa.AM
open Go Go.RowKit
set_option linter.all false
set_option maxRecDepth 100000

def markL : List UInt8 := [87, 72, 83, 69, 65, 76, 48, 49]
/-- What is opened of the first q parts; nothing: one of them is not opened. -/
def openQ (a h : List UInt8) (size first : Int) (bl : List UInt8) : Nat → Option (List UInt8)
  | 0 => some []
  | q + 1 => match openQ a h size first bl q with
    | some out => if tagOk a (nonceL (h.drop 8) (first + q)) (extraL h (first + q) (decide (first + q = PP size - 1))) (blk 1040 bl q) then some (out ++ bodyL a (nonceL (h.drop 8) (first + q)) (blk 1040 bl q)) else none
    | none => none
def openP (a h : List UInt8) (size first : Int) (bl : List UInt8) : Option (List UInt8) :=
  if h.length = 20 ∧ h.take 8 = markL then openQ a h size first bl (blkN 1040 bl.length) else none
def optV : Option (List UInt8) → Value
  | some l => .tuple #[.string (tx l), .bool true]
  | none => .tuple #[.string ⟨#[]⟩, .bool false]
theorem openQ_len {a h : List UInt8} {size first : Int} {bl : List UInt8} : ∀ {q : Nat} {out : List UInt8}, openQ a h size first bl q = some out → out.length ≤ 1040 * q := by
  intro q
  induction q with
  | zero => intro out ho; simp only [openQ, Option.some.injEq] at ho; subst ho; simp
  | succ q ih =>
    intro out ho
    simp only [openQ] at ho
    split at ho
    · rename_i o ho2
      split at ho
      · simp only [Option.some.injEq] at ho
        subst ho
        have h1 := ih ho2
        have h2 : (bodyL a (nonceL (h.drop 8) (first + q)) (blk 1040 bl q)).length ≤ 1040 := by
          rw [bodyL, streamL_len, List.length_take, blk_len]; omega
        rw [List.length_append]
        omega
      · simp at ho
    · simp at ho
set_option maxHeartbeats 2000000 in
theorem calls79 (a b c h bl : List UInt8) (ha : a.length = 32) (size first : Int) (hs : 0 ≤ size ∧ size ≤ 1048576) (hf : 0 ≤ first ∧ (first ≤ 1000000 ∨ bl = [])) (hbl : bl.length ≤ 100000000) (w : World) :
    Calls Try.prog 79 #[.agg #[.string (tx a), .string (tx b), .string (tx c)], .string (tx h), .string (tx bl), .int .i64 size, .int .i64 first] w fun e w' => e = .returned (optV (openP a h size first bl)) ∧ Below w.heap.size w w' := by
  by_cases h20 : h.length = 20
  · have b0 : Below w.heap.size w (w.alloc (.cells #[.string (tx a), .string (tx b), .string (tx c)] 64)) := (Below.refl _ w).alloc (Nat.le_refl _) _
    have hsz : ((tx h).size : Int) = 20 := by rw [tx_size, h20]; rfl
    have c88 := calls88 h markL
    have hml : markL.length = 8 := rfl
    rw [hml] at c88
    by_cases hm : h.take 8 = markL
    · have hp : openP a h size first bl = openQ a h size first bl (blkN 1040 bl.length) := by unfold openP; rw [if_pos ⟨h20, hm⟩]
      rw [hp]
      rw [decide_eq_true hm] at c88
      go_enter Try.func79, Try.ntmps79
      go_wp2_with (go_at_call 88; refine (c88 _).mono ?_; rintro e W1 ⟨rfl, b1⟩)
      have hc : ∀ j v, (#[Value.string (tx a), Value.string (tx b), Value.string (tx c)] : Array Value)[j]? = some v → ∀ wx, Below W1.heap.size W1 wx → wx.cell? ⟨w.heap.size, j, none⟩ = some v := fun j v hj wx hb => by
        have h1 : (w.alloc (.cells #[.string (tx a), .string (tx b), .string (tx c)] 64)).cell? ⟨w.heap.size, j, none⟩ = some v := by
          rw [Lib.cell_of_heap (heap_alloc_new w _) j]; exact hj
        have hlt : w.heap.size < (w.alloc (.cells #[.string (tx a), .string (tx b), .string (tx c)] 64)).heap.size := by simp
        rw [hb.cell (p := ⟨w.heap.size, j, none⟩) (Nat.lt_of_lt_of_le hlt b1.size), b1.cell (p := ⟨w.heap.size, j, none⟩) hlt]
        exact h1
      have hB0 : Lib.IsBuilder 115 5 W1.heap.size W1.heap.size (Lib.byteCells []) (W1.alloc (.cells #[.pointer none, .slice none 0 0] 115)) := Lib.fresh_isBuilder 115 5 W1
      have hb0 : Below W1.heap.size W1 (W1.alloc (.cells #[.pointer none, .slice none 0 0] 115)) := (Below.refl _ W1).alloc (Nat.le_refl _) _
      go_loopg [2, 13] (blkN 1040 bl.length) (fun gh s2 s13 wx => ∃ (q : Nat) (out : List UInt8), q + gh = blkN 1040 bl.length ∧ openQ a h size first bl q = some out ∧ s2 = .string (tx (bl.drop (1040 * q))) ∧ s13 = .int .i64 (first + q) ∧ Lib.IsBuilder 115 5 W1.heap.size W1.heap.size (Lib.byteCells out) wx ∧ Below W1.heap.size W1 wx)
      case atStart => exact ⟨0, [], by omega, rfl, by rw [Nat.mul_zero, List.drop_zero], by simp, hB0, hb0⟩
      case round =>
        obtain ⟨q, out, hq, ho, rfl, rfl, hB, hbx⟩ := hrel
        cases gk with
        | zero =>
          have hd : bl.drop (1040 * q) = [] := by
            apply List.drop_eq_nil_of_le
            unfold blkN at hq
            omega
          rw [hd, ← tx_nil]
          have hqe : q = blkN 1040 bl.length := by omega
          go_wp2_with (go_at_call 83; refine (bldString _ _ out _ hB hbx.size).mono ?_; rintro e W3 ⟨rfl, b3⟩)
          go_ret2
          refine ⟨?_, b0.trans ((b1.mono b0.size).trans ((hbx.trans b3).mono (Nat.le_trans b0.size b1.size)))⟩
          rw [← hqe, ho]
          rfl
        | succ g =>
          have hqlt : 1040 * q < bl.length := by
            unfold blkN at hq
            omega
          have hf1 : 0 ≤ first := hf.1
          have hf2 : first ≤ 1000000 := by
            rcases hf.2 with h | h
            · exact h
            · rw [h] at hqlt; simp at hqlt
          obtain ⟨d, hd⟩ : ∃ d, d = bl.drop (1040 * q) := ⟨_, rfl⟩
          have hdl : d.length = bl.length - 1040 * q := by rw [hd, List.length_drop]
          rw [← hd]
          have hblk : blk 1040 bl q = d.take (min 1040 d.length) := by
            rw [hd]
            unfold blk
            by_cases hc : 1040 ≤ (bl.drop (1040 * q)).length
            · rw [Nat.min_eq_left hc]
            · rw [Nat.min_eq_right (by omega), List.take_length, List.take_of_length_le (by omega)]
          have hnext : d.drop (min 1040 d.length) = bl.drop (1040 * (q + 1)) := by
            by_cases hc : 1040 ≤ d.length
            · rw [Nat.min_eq_left hc, hd, List.drop_drop]
              congr 1
            · rw [Nat.min_eq_right (by omega), List.drop_length, List.drop_of_length_le (by omega)]
          clear hd
          have hne : (tx d).toList.isEmpty = false := by
            have h1 : (tx d).toList = d := by
              rw [ByteArray.toList_eq]
              exact tx_data d
            rw [h1]
            cases d with
            | nil => simp at hdl; omega
            | cons x d => rfl
          obtain ⟨N, hN⟩ : ∃ N, N = min 1040 d.length := ⟨_, rfl⟩
          rw [← hN] at hblk hnext
          have hmin : min 1040 ((tx d).size : Int) = (N : Int) := by rw [tx_size]; omega
          have hNd : N ≤ d.length := by omega
          have hNs : (N : Int) ≤ ((tx d).size : Int) := by rw [tx_size]; omega
          have hN0 : (0 : Int) ≤ (N : Int) := by omega
          have hNn : N ≤ (tx d).size := by rw [tx_size]; omega
          have hx2 : (tx d).extract N (tx d).size = tx (bl.drop (1040 * (q + 1))) := by rw [tx_extract, tx_size, List.take_length, hnext]
          have hbl2 : (blk 1040 bl q).length ≤ 1040 := by rw [blk_len]; omega
          clear hN
          have hPP : 1 ≤ PP size ∧ PP size ≤ 1024 := by unfold PP; split <;> omega
          have hwr : IntKind.i64.wrap (PP size - 1) = PP size - 1 := w64 (by omega) (by omega)
          have hqb : q ≤ 100000 := by unfold blkN at hq; omega
          have k0 := hc 0 _ rfl wr hbx
          have k1 := hc 1 _ rfl wr hbx
          have k2 := hc 2 _ rfl wr hbx
          have hbd : ((first + (q : Int)) == PP size - 1) = decide (first + (q : Int) = PP size - 1) := rfl
          have c104 : ∀ W : World, Calls Try.prog 104 #[.agg #[.string (tx a), .string (tx b), .string (tx c)], .string (tx h), .int .i64 (first + (q : Int)), .bool ((first + (q : Int)) == PP size - 1), .string (tx (d.take N))] W fun e w' => e = .returned (if tagOk a (nonceL (h.drop 8) (first + q)) (extraL h (first + q) (decide (first + (q : Int) = PP size - 1))) (blk 1040 bl q) then .tuple #[.string (tx (bodyL a (nonceL (h.drop 8) (first + q)) (blk 1040 bl q))), .bool true] else .tuple #[.string ⟨#[]⟩, .bool false]) ∧ Below W.heap.size W w' := by
            rw [hbd, ← hblk]
            exact calls104 a b c h (blk 1040 bl q) ha h20 (first + (q : Int)) (by omega) (decide (first + (q : Int) = PP size - 1)) (by omega)
          have hx : (tx d).extract 0 N = tx (d.take N) := by rw [tx_extract]; rfl
          clear hbd
          by_cases hg : tagOk a (nonceL (h.drop 8) (first + q)) (extraL h (first + q) (decide (first + (q : Int) = PP size - 1))) (blk 1040 bl q)
          · simp only [hg, if_true] at c104
            go_upto_region 8 with fail
            go_region_held3 (fun wx => wx.cell? ⟨w.heap.size, 0, none⟩ = some (.string (tx a)) ∧ wx.cell? ⟨w.heap.size, 1, none⟩ = some (.string (tx b)) ∧ wx.cell? ⟨w.heap.size, 2, none⟩ = some (.string (tx c)))
              (first | exact ⟨k0, k1, k2⟩ | exact ⟨j0, j1, j2⟩ | exact ⟨i0, i1, i2⟩)
              ((first
                | (go_at_call 86; refine (calls86 hs.1 hs.2 _).mono ?_; rintro e W2 ⟨rfl, b2⟩; have j0 := hc 0 _ rfl W2 (hbx.drew.trans (b2.mono hbx.size)); have j1 := hc 1 _ rfl W2 (hbx.drew.trans (b2.mono hbx.size)); have j2 := hc 2 _ rfl W2 (hbx.drew.trans (b2.mono hbx.size)))
                | (go_at_call 104; refine (c104 _).mono ?_; rintro e W3 ⟨rfl, b3⟩; have i0 := hc 0 _ rfl W3 ((hbx.drew.trans (b2.mono hbx.size)).trans (b3.mono (Nat.le_trans hbx.size b2.size))); have i1 := hc 1 _ rfl W3 ((hbx.drew.trans (b2.mono hbx.size)).trans (b3.mono (Nat.le_trans hbx.size b2.size))); have i2 := hc 2 _ rfl W3 ((hbx.drew.trans (b2.mono hbx.size)).trans (b3.mono (Nat.le_trans hbx.size b2.size))))))
            clear i0 i1 i2 j0 j1 j2 k0 k1 k2
            have bx : Below wr.heap.size wr W3 := (((Below.refl wr.heap.size wr).drew).trans b2).trans (b3.mono b2.size)
            have hB3 := bld_below hB bx
            have hol := openQ_len ho
            have hbody : (bodyL a (nonceL (h.drop 8) (first + q)) (d.take N)).length ≤ 1040 := by
              rw [← hblk, bodyL, streamL_len, List.length_take]; omega
            have hlen : (Lib.byteCells out).length + (tx (bodyL a (nonceL (h.drop 8) (first + q)) (d.take N))).size ≤ 140737488355328 := by
              rw [byteCells_len, tx_size]; omega
            have hsz3 : W1.heap.size ≤ W3.heap.size := Nat.le_trans hbx.size bx.size
            go_wp2_with (go_at_call 82; refine (bldWrite _ _ _ (tx (bodyL a (nonceL (h.drop 8) (first + q)) (d.take N))) _ hB3 hlen hsz3).mono ?_; rintro e W4 ⟨rfl, h4, b4⟩)
            go_roundg g
            case measure => omega
            case rel =>
              refine ⟨q + 1, out ++ bodyL a (nonceL (h.drop 8) (first + q)) (d.take N), by omega, ?_, rfl, by congr 1; omega, .inr ?_, ((hbx.trans (bx.mono hbx.size)).trans b4)⟩
              · simp only [openQ, ho]
                rw [if_pos hg, hblk]
              · rw [Lib.strCells_eq, ← Lib.byteCells_append, tx_data] at h4
                exact h4
          · have hnone : openQ a h size first bl (q + 1) = none := by
              simp only [openQ, ho]
              rw [if_neg hg]
            have hall : ∀ r, q + 1 ≤ r → openQ a h size first bl r = none := by
              intro r hr
              induction r with
              | zero => omega
              | succ r ih =>
                by_cases he : r = q
                · subst he; exact hnone
                · have := ih (by omega)
                  simp only [openQ, this]
            have hfin := hall (blkN 1040 bl.length) (by omega)
            simp only [hg, if_false] at c104
            go_upto_region 8 with fail
            go_region_held3 (fun wx => wx.cell? ⟨w.heap.size, 0, none⟩ = some (.string (tx a)) ∧ wx.cell? ⟨w.heap.size, 1, none⟩ = some (.string (tx b)) ∧ wx.cell? ⟨w.heap.size, 2, none⟩ = some (.string (tx c)))
              (first | exact ⟨k0, k1, k2⟩ | exact ⟨j0, j1, j2⟩ | exact ⟨i0, i1, i2⟩)
              ((first
                | (go_at_call 86; refine (calls86 hs.1 hs.2 _).mono ?_; rintro e W2 ⟨rfl, b2⟩; have j0 := hc 0 _ rfl W2 (hbx.drew.trans (b2.mono hbx.size)); have j1 := hc 1 _ rfl W2 (hbx.drew.trans (b2.mono hbx.size)); have j2 := hc 2 _ rfl W2 (hbx.drew.trans (b2.mono hbx.size)))
                | (go_at_call 104; refine (c104 _).mono ?_; rintro e W3 ⟨rfl, b3⟩; have i0 := hc 0 _ rfl W3 ((hbx.drew.trans (b2.mono hbx.size)).trans (b3.mono (Nat.le_trans hbx.size b2.size))); have i1 := hc 1 _ rfl W3 ((hbx.drew.trans (b2.mono hbx.size)).trans (b3.mono (Nat.le_trans hbx.size b2.size))); have i2 := hc 2 _ rfl W3 ((hbx.drew.trans (b2.mono hbx.size)).trans (b3.mono (Nat.le_trans hbx.size b2.size))))))
            clear i0 i1 i2 j0 j1 j2 k0 k1 k2
            have bx : Below wr.heap.size wr W3 := (((Below.refl wr.heap.size wr).drew).trans b2).trans (b3.mono b2.size)
            go_wp2
            go_ret2
            refine ⟨by rw [hfin]; rfl, b0.trans ((b1.mono b0.size).trans ((hbx.trans (bx.mono hbx.size)).mono (Nat.le_trans b0.size b1.size)))⟩
    · have hp : openP a h size first bl = none := by unfold openP; rw [if_neg fun h => hm h.2]
      rw [hp]
      rw [decide_eq_false hm] at c88
      go_enter Try.func79, Try.ntmps79
      go_wp2_with (go_at_call 88; refine (c88 _).mono ?_; rintro e W1 ⟨rfl, b1⟩)
      go_ret2
      exact ⟨rfl, b0.trans (b1.mono b0.size)⟩
  · have hp : openP a h size first bl = none := by unfold openP; rw [if_neg fun h => h20 h.1]
    rw [hp]
    have b0 : Below w.heap.size w (w.alloc (.cells #[.string (tx a), .string (tx b), .string (tx c)] 64)) := (Below.refl _ w).alloc (Nat.le_refl _) _
    have hsz : ¬ ((tx h).size : Int) = 20 := by rw [tx_size]; omega
    go_enter Try.func79, Try.ntmps79
    have hne : (((tx h).size : Int) != 20) = true := by simpa using hsz
    go_wp2
    go_ret2
    exact ⟨rfl, b0⟩
end Go.Proofs.Ytildhljhbbhmmaa.AM
namespace Go.Proofs.Ytildhljhbbhmmaa.AM
open Go Go.RowKit
set_option linter.all false
set_option maxRecDepth 100000

/-- Nine cells of a row, as a sealer has them; the others are as they were. -/
structure SRow (bk sh : Nat) (cs0 : Array Value) (ty : TypeId) (fz : Nat × Nat) (vals : List Value) (w : World) : Prop where
  row : ∃ cs : Array Value, w.heap[bk]? = some (.cells cs ty fz) ∧ cs.size = cs0.size ∧ (∀ j, j < 9 → cs[sh + j]? = vals[j]?) ∧ (∀ j, (j < sh ∨ sh + 9 ≤ j) → cs[j]? = cs0[j]?)
  len : vals.length = 9
  fit : sh + 9 ≤ cs0.size
  free : ∀ j, sh ≤ j → j < sh + 9 → ¬ (fz.1 ≤ j ∧ j < fz.2)
variable {bk sh : Nat} {cs0 : Array Value} {ty : TypeId} {fz : Nat × Nat} {vals : List Value} {w : World}
theorem SRow.cell (h : SRow bk sh cs0 ty fz vals w) {j : Nat} (hj : j < 9) {v : Value} (hv : vals[j]? = some v) : w.cell? ⟨bk, sh + j, none⟩ = some v := by
  obtain ⟨cs, h1, h2, h3, h4⟩ := h.row
  rw [Lib.cell_of_heap h1 (sh + j), h3 j hj, hv]
theorem SRow.frozen (h : SRow bk sh cs0 ty fz vals w) {j : Nat} (hj : j < 9) : w.frozen? ⟨bk, sh + j, none⟩ = false := by
  obtain ⟨cs, h1, h2, h3, h4⟩ := h.row
  have := h.free (sh + j) (by omega) (by omega)
  simp only [World.frozen?, h1]
  rw [Bool.eq_false_iff]
  intro hb
  apply this
  simpa using hb
theorem SRow.set (h : SRow bk sh cs0 ty fz vals w) {j : Nat} (hj : j < 9) (v : Value) : SRow bk sh cs0 ty fz (vals.set j v) (w.setCell ⟨bk, sh + j, none⟩ v) := by
  obtain ⟨cs, h1, h2, h3, h4⟩ := h.row
  have hfit := h.fit
  have hlen := h.len
  refine ⟨⟨cs.setIfInBounds (sh + j) v, ?_, by simp [h2], fun i hi => ?_, fun i hi => ?_⟩, by rw [List.length_set]; exact h.len, h.fit, h.free⟩
  · simp [World.setCell, Array.getElem?_modify, h1]
  · rw [Array.getElem?_setIfInBounds, List.getElem?_set]
    by_cases he : j = i
    · subst he
      rw [if_pos rfl, if_pos rfl, if_pos (by omega), if_pos (by omega)]
    · rw [if_neg (by omega), if_neg he]
      exact h3 i hi
  · rw [Array.getElem?_setIfInBounds, if_neg (by omega)]
    exact h4 i hi
theorem SRow.keep (h : SRow bk sh cs0 ty fz vals w) {w' : World} (hk : w'.heap[bk]? = w.heap[bk]?) : SRow bk sh cs0 ty fz vals w' := by
  obtain ⟨cs, h1, h2, h3, h4⟩ := h.row
  exact ⟨⟨cs, by rw [hk]; exact h1, h2, h3, h4⟩, h.len, h.fit, h.free⟩
theorem SRow.lt (h : SRow bk sh cs0 ty fz vals w) : bk < w.heap.size := by
  obtain ⟨cs, h1, h2, h3, h4⟩ := h.row
  exact (Array.getElem?_eq_some_iff.1 h1).1
/-- Below B all blocks but one are as they were. -/
structure Save (bk B : Nat) (w w' : World) : Prop where
  os : w'.os = w.os
  tape : w'.tape = w.tape
  output : w'.output = w.output
  size : w.heap.size ≤ w'.heap.size
  block : ∀ k, k < B → k ≠ bk → w'.heap[k]? = w.heap[k]?
theorem Save.refl (bk B : Nat) (w : World) : Save bk B w w := ⟨rfl, rfl, rfl, Nat.le_refl _, fun _ _ _ => rfl⟩
theorem Save.trans {B : Nat} {a b c : World} (h : Save bk B a b) (k : Save bk B b c) : Save bk B a c :=
  ⟨k.os.trans h.os, k.tape.trans h.tape, k.output.trans h.output, Nat.le_trans h.size k.size, fun i hi hn => (k.block i hi hn).trans (h.block i hi hn)⟩
theorem Save.of {B : Nat} {a b : World} (h : Below B a b) : Save bk B a b := ⟨h.os, h.tape, h.output, h.size, fun k hk _ => h.block k hk⟩
theorem Save.set {B : Nat} {a : World} {off : Nat} {v : Value} : Save bk B a (a.setCell ⟨bk, off, none⟩ v) :=
  ⟨rfl, rfl, rfl, by simp [World.setCell], fun k _ hn => Below.heap_setCell _ _ _ _ hn⟩
/-- The head, once. -/
theorem calls84 {k1 k2 k3 hd rest : ByteArray} {told done : Bool} {part rcv : Int} (h : SRow bk sh cs0 ty fz [.string k1, .string k2, .string k3, .string hd, .bool told, .bool done, .string rest, .int .i64 part, .int .i64 rcv] w) :
    Calls Try.prog 84 #[.pointer (some ⟨bk, sh, none⟩)] w fun e w' => e = .returned (.string (if told = true then ⟨#[]⟩ else hd)) ∧ w' = (if told = true then w else w.setCell ⟨bk, sh + 4, none⟩ (.bool true)) := by
  have c3 := h.cell (j := 3) (by omega) rfl
  have c4 := h.cell (j := 4) (by omega) rfl
  have f4 := h.frozen (j := 4) (by omega)
  cases told with
  | true =>
    go_enter Try.func84, Try.ntmps84
    go_wp2
    go_ret
    exact ⟨rfl, rfl⟩
  | false =>
    go_enter Try.func84, Try.ntmps84
    go_wp2
    go_ret
    exact ⟨rfl, rfl⟩
end Go.Proofs.Ytildhljhbbhmmaa.AM
namespace Go.Proofs.Ytildhljhbbhmmaa.AM
open Go Go.RowKit
set_option linter.all false
set_option maxRecDepth 100000

variable {bk sh : Nat} {cs0 : Array Value} {ty : TypeId} {fz : Nat × Nat} {vals : List Value} {w : World}
theorem bld_save {T e : TypeId} {B b : Nat} {bs : List Value} {W W' : World} (h : Lib.IsBuilder T e B b bs W) (hs : Save bk W.heap.size W W') (hlt : bk < B) : Lib.IsBuilder T e B b bs W' := by
  have key : ∀ p, Lib.BuilderAt T e B b p bs W → Lib.BuilderAt T e B b p bs W' := by
    rintro p ⟨h1, v, h2, h3, h4⟩
    have hk : ∀ k o, B ≤ k → W.heap[k]? = some o → W'.heap[k]? = some o := fun k o hB hk => by
      rw [hs.block k (Array.getElem?_eq_some_iff.1 hk).1 (by omega)]; exact hk
    refine ⟨h1, v, hk _ _ h1 h2, ⟨h3.1, ?_⟩, h4⟩
    rcases h3.2 with h5 | ⟨g, cap, cur, e1, e2, e3, e4⟩
    · exact .inl h5
    · exact .inr ⟨g, cap, cur, e1, e2, hk _ _ e2 e3, e4⟩
  rcases h with h | h
  · exact .inl (key _ h)
  · exact .inr (key _ h)
/-- A sealer's cells. -/
def slV (k1 k2 k3 hd : ByteArray) (told done : Bool) (rest : ByteArray) (part rcv : Int) : List Value := [.string k1, .string k2, .string k3, .string hd, .bool told, .bool done, .string rest, .int .i64 part, .int .i64 rcv]
theorem begins {k1 k2 k3 hd rest : ByteArray} {told done : Bool} {part rcv : Int} (h : SRow bk sh cs0 ty fz (slV k1 k2 k3 hd told done rest part rcv) w) :
    Calls Try.prog 84 #[.pointer (some ⟨bk, sh, none⟩)] w fun e w' => e = .returned (.string (if told = true then ⟨#[]⟩ else hd)) ∧ SRow bk sh cs0 ty fz (slV k1 k2 k3 hd true done rest part rcv) w' ∧ ∀ B, Save bk B w w' := by
  refine (calls84 h).mono fun e w' hw => ?_
  obtain ⟨rfl, rfl⟩ := hw
  refine ⟨rfl, ?_, fun B => ?_⟩
  · cases told with
    | true => exact h
    | false => exact h.set (j := 4) (by omega) (.bool true)
  · cases told with
    | true => exact .refl _ _ _
    | false => exact .set
/-- The sealed parts, one behind the other. -/
def sealQ (a h : List UInt8) (part : Int) (R : List UInt8) : Nat → List UInt8
  | 0 => []
  | q + 1 => sealQ a h part R q ++ sealL a (nonceL (h.drop 8) (part + q)) (extraL h (part + q) false) (blk 1024 R q)
theorem sealQ_len {a h : List UInt8} {part : Int} {R : List UInt8} : ∀ q, (sealQ a h part R q).length ≤ 1040 * q := by
  intro q
  induction q with
  | zero => simp [sealQ]
  | succ q ih =>
    rw [sealQ, List.length_append, sealL_len]
    have : (blk 1024 R q).length ≤ 1024 := by rw [blk_len]; omega
    omega
def nW (n : Nat) : Nat := (n - 1) / 1024
def WPost (bk sh : Nat) (cs0 : Array Value) (ty : TypeId) (fz : Nat × Nat) (w : World) (res : Value) (vals : List Value) (e : Ending) (w' : World) : Prop := e = .returned res ∧ SRow bk sh cs0 ty fz vals w' ∧ Save bk w.heap.size w w'
end Go.Proofs.Ytildhljhbbhmmaa.AM
namespace Go.Proofs.Ytildhljhbbhmmaa.AM
open Go Go.RowKit
set_option linter.all false
set_option maxRecDepth 100000

variable {bk sh : Nat} {cs0 : Array Value} {ty : TypeId} {fz : Nat × Nat} {vals : List Value} {w : World}
set_option maxHeartbeats 2000000 in
theorem calls51 {a b c hd rest t : List UInt8} {told : Bool} {part rcv : Int} (h : SRow bk sh cs0 ty fz (slV (tx a) (tx b) (tx c) (tx hd) told false (tx rest) part rcv) w) (ha : a.length = 32) (hh : hd.length = 20) (hp : 0 ≤ part ∧ part ≤ 1000000) (hr : 0 ≤ rcv ∧ rcv ≤ 1048576) (ht : (t.length : Int) ≤ 1048576 - rcv) (hrl : rest.length ≤ 1048576) :
    Calls Try.prog 51 #[.pointer (some ⟨bk, sh, none⟩), .string (tx t)] w (WPost bk sh cs0 ty fz w (.tuple #[.string (tx ((if told = true then [] else hd) ++ sealQ a hd part (rest ++ t) (nW (rest ++ t).length))), .int .i64 0])
      (slV (tx a) (tx b) (tx c) (tx hd) true false (tx ((rest ++ t).drop (1024 * nW (rest ++ t).length))) (part + nW (rest ++ t).length) (rcv + t.length))) := by
  have c5 := h.cell (j := 5) (by omega) rfl
  have c8 := h.cell (j := 8) (by omega) rfl
  have f8 := h.frozen (j := 8) (by omega)
  have hts : (tx t).size = t.length := tx_size t
  have hnl : ¬ ((1048576 : Int) - rcv < (tx t).size) := by rw [hts]; omega
  have wr := w64 (x := rcv + (t.length : Int)) (by omega) (by omega)
  have hbk := h.lt
  have hsz0 : (w.setCell ⟨bk, sh + 8, none⟩ (.int .i64 (rcv + t.length))).heap.size = w.heap.size := by simp [World.setCell]
  have S1 : SRow bk sh cs0 ty fz (slV (tx a) (tx b) (tx c) (tx hd) told false (tx rest) part (rcv + t.length)) ((w.setCell ⟨bk, sh + 8, none⟩ (.int .i64 (rcv + t.length))).alloc (.cells #[.pointer none, .slice none 0 0] 115)) :=
    (h.set (j := 8) (by omega) _).keep (by rw [Below.heap_alloc]; rw [hsz0]; exact hbk)
  have V1 : Save bk w.heap.size w ((w.setCell ⟨bk, sh + 8, none⟩ (.int .i64 (rcv + t.length))).alloc (.cells #[.pointer none, .slice none 0 0] 115)) :=
    Save.trans .set (.of ((Below.refl _ _).alloc (Nat.le_of_eq hsz0.symm) _))
  have B1 : Lib.IsBuilder 115 5 w.heap.size w.heap.size (Lib.byteCells []) ((w.setCell ⟨bk, sh + 8, none⟩ (.int .i64 (rcv + t.length))).alloc (.cells #[.pointer none, .slice none 0 0] 115)) := by
    have := Lib.fresh_isBuilder 115 5 (w.setCell ⟨bk, sh + 8, none⟩ (.int .i64 (rcv + t.length)))
    rw [hsz0] at this
    exact this
  have heq : (if told = true then (⟨#[]⟩ : ByteArray) else tx hd) = tx (if told = true then [] else hd) := by cases told <;> rfl
  obtain ⟨pre, hpre⟩ : ∃ pre, pre = (if told = true then [] else hd) := ⟨_, rfl⟩
  have hprel : pre.length ≤ 20 := by rw [hpre]; cases told <;> simp [hh]
  rw [← hpre] at heq ⊢
  clear hpre
  have htx : tx rest ++ tx t = tx (rest ++ t) := tx_cat rest t
  obtain ⟨R, hR⟩ : ∃ R, R = rest ++ t := ⟨_, rfl⟩
  have hRl : R.length = rest.length + t.length := by rw [hR, List.length_append]
  rw [← hR] at htx ⊢
  clear hR
  have hfit : ¬ 9223372036854775807 < (tx rest).size + t.length := by rw [tx_size]; omega
  go_enter Try.func51, Try.ntmps51
  go_wp2_with (first
    | (go_at_call 84; refine (begins S1).mono ?_; rintro e W2 ⟨he, S2, V2⟩; rw [heq] at he; subst he; have hsz2 : w.heap.size ≤ W2.heap.size := Nat.le_trans V1.size (V2 0).size; have B2 := bld_save B1 (V2 _) hbk)
    | (go_at_call 82; refine (bldWrite _ _ _ (tx pre) _ B2 (by rw [byteCells_len, tx_size]; simp; omega) hsz2).mono ?_; rintro e W4 ⟨rfl, h4, b4⟩; have S4 := S2.keep (b4.block bk hbk); have c6 := S4.cell (j := 6) (by omega) rfl; have f6 := S4.frozen (j := 6) (by omega)))
  have S5 : SRow bk sh cs0 ty fz (slV (tx a) (tx b) (tx c) (tx hd) true false (tx R) part (rcv + t.length)) (W4.setCell ⟨bk, sh + 6, none⟩ (.string (tx R))) := S4.set (j := 6) (by omega) (.string (tx R))
  have hsz4 : w.heap.size ≤ W4.heap.size := Nat.le_trans hsz2 b4.size
  have hnb : W4.heap.size = (W4.setCell ⟨bk, sh + 6, none⟩ (.string (tx R))).heap.size := by simp [World.setCell]
  have V5 : Save bk w.heap.size w (W4.setCell ⟨bk, sh + 6, none⟩ (.string (tx R))) := ((V1.trans (V2 _)).trans (.of b4)).trans .set
  have B4 : Lib.IsBuilder 115 5 w.heap.size w.heap.size (Lib.byteCells pre) W4 := .inr (by rw [Lib.strCells_eq, ← Lib.byteCells_append, tx_data] at h4; exact h4)
  have B5 : Lib.IsBuilder 115 5 w.heap.size w.heap.size (Lib.byteCells pre) (W4.setCell ⟨bk, sh + 6, none⟩ (.string (tx R))) := bld_save B4 .set hbk
  go_loopg [] (nW R.length) (fun gh wx => ∃ j : Nat, j + gh = nW R.length ∧ SRow bk sh cs0 ty fz (slV (tx a) (tx b) (tx c) (tx hd) true false (tx (R.drop (1024 * j))) (part + j) (rcv + t.length)) wx ∧ Lib.IsBuilder 115 5 w.heap.size w.heap.size (Lib.byteCells (pre ++ sealQ a hd part R j)) wx ∧ Save bk w.heap.size w wx)
  case atStart => exact ⟨0, by omega, by simpa using S5, by simpa [sealQ] using B5, V5⟩
  case round =>
    obtain ⟨j, hj, hS, hB, hV⟩ := hrel
    have k0 := hS.cell (j := 0) (by omega) rfl
    have k1 := hS.cell (j := 1) (by omega) rfl
    have k2 := hS.cell (j := 2) (by omega) rfl
    have k3 := hS.cell (j := 3) (by omega) rfl
    have k6 := hS.cell (j := 6) (by omega) rfl
    have k7 := hS.cell (j := 7) (by omega) rfl
    cases gk with
    | zero =>
      obtain rfl : j = nW R.length := by omega
      have hnl2 : ((R.drop (1024 * nW R.length)).length : Int) ≤ 1024 := by rw [List.length_drop]; unfold nW; omega
      clear hj
      obtain ⟨d, hdd⟩ : ∃ d, d = R.drop (1024 * nW R.length) := ⟨_, rfl⟩
      rw [← hdd] at hnl2 k6
      clear hdd hRl
      have hds : (tx d).size = d.length := tx_size d
      have hsx : w.heap.size ≤ wr.heap.size := hV.size
      go_wp2_with (go_at_call 83; refine (bldString _ _ (pre ++ sealQ a hd part R (nW R.length)) _ hB hsx).mono ?_; rintro e W6 ⟨rfl, b6⟩)
      go_ret2
      exact ⟨rfl, hS.keep (b6.block bk hbk), hV.trans (.of b6)⟩
    | succ g =>
      have hjn : 1024 * (j + 1) < R.length := by have : j + 1 ≤ nW R.length := by omega
                                                 unfold nW at this; omega
      have hblk : blk 1024 R j = (R.drop (1024 * j)).take 1024 := rfl
      have hnext : (R.drop (1024 * j)).drop 1024 = R.drop (1024 * (j + 1)) := by rw [List.drop_drop]; congr 1
      obtain ⟨d, hdd⟩ : ∃ d, d = R.drop (1024 * j) := ⟨_, rfl⟩
      have hdl : 1024 < d.length := by rw [hdd, List.length_drop]; omega
      have hdl2 : d.length ≤ 2097152 := by rw [hdd, List.length_drop]; omega
      rw [← hdd] at hblk hnext hS k6
      clear hdd
      have hds : (tx d).size = d.length := tx_size d
      have hd1 : (1024 : Int) < (d.length : Int) := by omega
      have hd2 : 1024 ≤ d.length := by omega
      have hd3 : (1024 : Int) ≤ (d.length : Int) := by omega
      have hx : (tx d).extract 0 1024 = tx (d.take 1024) := by rw [tx_extract]; rfl
      have hx2 : (tx d).extract 1024 d.length = tx (R.drop (1024 * (j + 1))) := by rw [tx_extract, List.take_length, hnext]
      have hpj : 0 ≤ part + (j : Int) ∧ part + (j : Int) ≤ 1000000000 := by omega
      have hwj := w64 (x := part + (j : Int) + 1) (by omega) (by omega)
      have c85 : ∀ W : World, Calls Try.prog 85 #[.agg #[.string (tx a), .string (tx b), .string (tx c)], .string (tx hd), .int .i64 (part + (j : Int)), .bool false, .string (tx (d.take 1024))] W fun e w' => e = .returned (.string (tx (sealL a (nonceL (hd.drop 8) (part + j)) (extraL hd (part + j) false) (blk 1024 R j)))) ∧ Below W.heap.size W w' := fun W => by
        have := calls85 a b c hd (d.take 1024) ha hh (part + (j : Int)) hpj false (by rw [List.length_take]; omega) W
        rw [← hblk] at this ⊢
        exact this
      have hbody : (sealL a (nonceL (hd.drop 8) (part + j)) (extraL hd (part + j) false) (blk 1024 R j)).length ≤ 1040 := by
        rw [sealL_len, blk_len]; omega
      obtain ⟨P, hP⟩ : ∃ P, P = sealL a (nonceL (hd.drop 8) (part + j)) (extraL hd (part + j) false) (blk 1024 R j) := ⟨_, rfl⟩
      rw [← hP] at hbody
      have hq : sealQ a hd part R (j + 1) = sealQ a hd part R j ++ P := by rw [sealQ, hP]
      simp only [← hP] at c85
      clear hP
      have hql := sealQ_len (a := a) (h := hd) (part := part) (R := R) j
      have hlen : (Lib.byteCells (pre ++ sealQ a hd part R j)).length + (tx P).size ≤ 140737488355328 := by
        rw [byteCells_len, tx_size, List.length_append]; omega
      have hsx : w.heap.size ≤ wr.heap.size := hV.size
      have m0 := fun (wx : World) (hb : Below wr.heap.size wr wx) => (hS.keep (hb.block bk hS.lt)).cell (j := 0) (by omega) rfl
      have m1 := fun (wx : World) (hb : Below wr.heap.size wr wx) => (hS.keep (hb.block bk hS.lt)).cell (j := 1) (by omega) rfl
      have m2 := fun (wx : World) (hb : Below wr.heap.size wr wx) => (hS.keep (hb.block bk hS.lt)).cell (j := 2) (by omega) rfl
      have m3 := fun (wx : World) (hb : Below wr.heap.size wr wx) => (hS.keep (hb.block bk hS.lt)).cell (j := 3) (by omega) rfl
      have m6 := fun (wx : World) (hb : Below wr.heap.size wr wx) => (hS.keep (hb.block bk hS.lt)).cell (j := 6) (by omega) rfl
      have m7 := fun (wx : World) (hb : Below wr.heap.size wr wx) => (hS.keep (hb.block bk hS.lt)).cell (j := 7) (by omega) rfl
      have bd : Below wr.heap.size wr wr.drew := (Below.refl _ _).drew
      go_upto_region 10 with fail
      go_region_held3 (fun wx => wx.cell? ⟨bk, sh, none⟩ = some (.string (tx a)) ∧ wx.cell? ⟨bk, sh + 1, none⟩ = some (.string (tx b)) ∧ wx.cell? ⟨bk, sh + 2, none⟩ = some (.string (tx c)) ∧ wx.cell? ⟨bk, sh + 3, none⟩ = some (.string (tx hd)) ∧ wx.cell? ⟨bk, sh + 6, none⟩ = some (.string (tx d)) ∧ wx.cell? ⟨bk, sh + 7, none⟩ = some (.int .i64 (part + (j : Int))))
        (first | exact ⟨m0 _ bd, m1 _ bd, m2 _ bd, m3 _ bd, m6 _ bd, m7 _ bd⟩ | exact ⟨i0, i1, i2, i3, i6, i7⟩)
        ((first
          | (go_at_call 85; refine (c85 _).mono ?_; rintro e W6 ⟨rfl, b6⟩; have d6 : Below wr.heap.size wr W6 := bd.trans b6; have i0 := m0 _ d6; have i1 := m1 _ d6; have i2 := m2 _ d6; have i3 := m3 _ d6; have i6 := m6 _ d6; have i7 := m7 _ d6)
          | (go_at_call 82; refine (bldWrite _ _ _ (tx P) _ (bld_below hB d6) hlen (Nat.le_trans hsx d6.size)).mono ?_; rintro e W7 ⟨rfl, h7, b7⟩; have e7 : ∀ k, k < w.heap.size → W7.heap[k]? = wr.heap[k]? := fun k hk => (b7.block k hk).trans (d6.block k (Nat.lt_of_lt_of_le hk hsx)); have S7 := hS.keep (e7 bk hbk); have i0 := S7.cell (j := 0) (by omega) rfl; have i1 := S7.cell (j := 1) (by omega) rfl; have i2 := S7.cell (j := 2) (by omega) rfl; have i3 := S7.cell (j := 3) (by omega) rfl; have i6 := S7.cell (j := 6) (by omega) rfl; have i7 := S7.cell (j := 7) (by omega) rfl)))
      have c6' := i6
      have f6' : W7.frozen? ⟨bk, sh + 6, none⟩ = false := S7.frozen (by omega)
      have S8 : SRow bk sh cs0 ty fz (slV (tx a) (tx b) (tx c) (tx hd) true false (tx (R.drop (1024 * (j + 1)))) (part + j) (rcv + t.length)) (W7.setCell ⟨bk, sh + 6, none⟩ (.string (tx (R.drop (1024 * (j + 1)))))) := S7.set (j := 6) (by omega) _
      have n7 := S8.cell (j := 7) (by omega) rfl
      have f7 := S8.frozen (j := 7) (by omega)
      have S9 : SRow bk sh cs0 ty fz (slV (tx a) (tx b) (tx c) (tx hd) true false (tx (R.drop (1024 * (j + 1)))) (part + j + 1) (rcv + t.length)) ((W7.setCell ⟨bk, sh + 6, none⟩ (.string (tx (R.drop (1024 * (j + 1)))))).setCell ⟨bk, sh + 7, none⟩ (.int .i64 (part + j + 1))) := S8.set (j := 7) (by omega) _
      have V7 : Save bk w.heap.size w W7 := hV.trans (.of ((d6.mono hsx).trans b7))
      go_wp2
      go_roundg g
      case measure => omega
      case rel =>
        refine ⟨j + 1, by omega, ?_, ?_, (V7.trans .set).trans .set⟩
        · have e : part + ((j + 1 : Nat) : Int) = part + j + 1 := by omega
          rw [e]
          exact S9
        · have B7 : Lib.IsBuilder 115 5 w.heap.size w.heap.size (Lib.byteCells (pre ++ sealQ a hd part R (j + 1))) W7 := .inr (by rw [Lib.strCells_eq, ← Lib.byteCells_append, tx_data, List.append_assoc, ← hq] at h7; exact h7)
          exact bld_save (bld_save B7 .set hbk) .set hbk
end Go.Proofs.Ytildhljhbbhmmaa.AM
namespace Go.Proofs.Ytildhljhbbhmmaa.AM
open Go Go.RowKit
set_option linter.all false
set_option maxRecDepth 100000

variable {bk sh : Nat} {cs0 : Array Value} {ty : TypeId} {fz : Nat × Nat} {vals : List Value} {w : World}
set_option maxHeartbeats 2000000 in
theorem calls52 {a b c hd rest : List UInt8} {told : Bool} {part rcv : Int} (h : SRow bk sh cs0 ty fz (slV (tx a) (tx b) (tx c) (tx hd) told false (tx rest) part rcv) w) (ha : a.length = 32) (hh : hd.length = 20) (hp : 0 ≤ part ∧ part ≤ 1000000000) (hrl : rest.length ≤ 1048576) :
    Calls Try.prog 52 #[.pointer (some ⟨bk, sh, none⟩)] w (WPost bk sh cs0 ty fz w (.tuple #[.string (tx ((if told = true then [] else hd) ++ sealL a (nonceL (hd.drop 8) part) (extraL hd part true) rest)), .int .i64 0])
      (slV (tx a) (tx b) (tx c) (tx hd) true true (tx rest) part rcv)) := by
  have c5 := h.cell (j := 5) (by omega) rfl
  have f5 := h.frozen (j := 5) (by omega)
  have hbk := h.lt
  have S1 : SRow bk sh cs0 ty fz (slV (tx a) (tx b) (tx c) (tx hd) told true (tx rest) part rcv) (w.setCell ⟨bk, sh + 5, none⟩ (.bool true)) := h.set (j := 5) (by omega) _
  have V1 : Save bk w.heap.size w (w.setCell ⟨bk, sh + 5, none⟩ (.bool true)) := .set
  have heq : (if told = true then (⟨#[]⟩ : ByteArray) else tx hd) = tx (if told = true then [] else hd) := by cases told <;> rfl
  obtain ⟨pre, hpre⟩ : ∃ pre, pre = (if told = true then [] else hd) := ⟨_, rfl⟩
  have hprel : pre.length ≤ 20 := by rw [hpre]; cases told <;> simp [hh]
  rw [← hpre] at heq ⊢
  clear hpre
  have c85 : ∀ W : World, Calls Try.prog 85 #[.agg #[.string (tx a), .string (tx b), .string (tx c)], .string (tx hd), .int .i64 part, .bool true, .string (tx rest)] W fun e w' => e = .returned (.string (tx (sealL a (nonceL (hd.drop 8) part) (extraL hd part true) rest))) ∧ Below W.heap.size W w' := fun W =>
    calls85 a b c hd rest ha hh part hp true hrl W
  have hbody : (sealL a (nonceL (hd.drop 8) part) (extraL hd part true) rest).length ≤ 1048592 := by rw [sealL_len]; omega
  obtain ⟨P, hP⟩ : ∃ P, P = sealL a (nonceL (hd.drop 8) part) (extraL hd part true) rest := ⟨_, rfl⟩
  rw [← hP] at hbody ⊢
  simp only [← hP] at c85
  clear hP
  have htx : tx pre ++ tx P = tx (pre ++ P) := tx_cat pre P
  have hfit : ¬ 9223372036854775807 < (tx pre).size + P.length := by rw [tx_size]; omega
  have hfit2 : ¬ 9223372036854775807 < (tx pre).size + (tx P).size := by rw [tx_size, tx_size]; omega
  have Sd : SRow bk sh cs0 ty fz (slV (tx a) (tx b) (tx c) (tx hd) told true (tx rest) part rcv) (w.setCell ⟨bk, sh + 5, none⟩ (.bool true)).drew := S1.keep rfl
  have k0 := Sd.cell (j := 0) (by omega) rfl
  have k1 := Sd.cell (j := 1) (by omega) rfl
  have k2 := Sd.cell (j := 2) (by omega) rfl
  have k3 := Sd.cell (j := 3) (by omega) rfl
  have k6 := Sd.cell (j := 6) (by omega) rfl
  have k7 := Sd.cell (j := 7) (by omega) rfl
  have Vd : Save bk w.heap.size w (w.setCell ⟨bk, sh + 5, none⟩ (.bool true)).drew := V1.trans (.of (Below.refl _ _).drew)
  go_enter Try.func52, Try.ntmps52
  go_upto_region 4 with fail
  go_region_held3 (fun wx => wx.cell? ⟨bk, sh, none⟩ = some (.string (tx a)) ∧ wx.cell? ⟨bk, sh + 1, none⟩ = some (.string (tx b)) ∧ wx.cell? ⟨bk, sh + 2, none⟩ = some (.string (tx c)) ∧ wx.cell? ⟨bk, sh + 3, none⟩ = some (.string (tx hd)) ∧ wx.cell? ⟨bk, sh + 6, none⟩ = some (.string (tx rest)) ∧ wx.cell? ⟨bk, sh + 7, none⟩ = some (.int .i64 part))
    (first | exact ⟨k0, k1, k2, k3, k6, k7⟩ | exact ⟨i0, i1, i2, i3, i6, i7⟩ | exact ⟨j0, j1, j2, j3, j6, j7⟩)
    ((first
      | (go_at_call 84; refine (begins Sd).mono ?_; rintro e W2 ⟨he, S2, V2⟩; rw [heq] at he; subst he; have i0 := S2.cell (j := 0) (by omega) rfl; have i1 := S2.cell (j := 1) (by omega) rfl; have i2 := S2.cell (j := 2) (by omega) rfl; have i3 := S2.cell (j := 3) (by omega) rfl; have i6 := S2.cell (j := 6) (by omega) rfl; have i7 := S2.cell (j := 7) (by omega) rfl)
      | (go_at_call 85; refine (c85 _).mono ?_; rintro e W3 ⟨rfl, b3⟩; have S3 := S2.keep (b3.block bk S2.lt); have j0 := S3.cell (j := 0) (by omega) rfl; have j1 := S3.cell (j := 1) (by omega) rfl; have j2 := S3.cell (j := 2) (by omega) rfl; have j3 := S3.cell (j := 3) (by omega) rfl; have j6 := S3.cell (j := 6) (by omega) rfl; have j7 := S3.cell (j := 7) (by omega) rfl)))
  have hsz : w.heap.size ≤ W2.heap.size := Nat.le_trans Vd.size (V2 0).size
  go_wp2
  go_ret2
  exact ⟨rfl, S3, (Vd.trans (V2 _)).trans (.of (b3.mono hsz))⟩
end Go.Proofs.Ytildhljhbbhmmaa.AM
/- Functions that are told: openParts, and what a sealer does. -/
namespace Go.Proofs.Ytildhljhbbhmmaa.AM
open Go Go.RowKit
set_option linter.all false
set_option maxRecDepth 10000

theorem slV_p1 {k1 k2 k3 hd rest : ByteArray} {told done : Bool} {part rcv : Int} : (slV k1 k2 k3 hd told done rest part rcv).all p1 = true := rfl
theorem slV_one {k1 k2 k3 hd rest : ByteArray} {told done : Bool} {part rcv : Int} : (slV k1 k2 k3 hd told done rest part rcv).all AM.one = true := rfl
theorem slV_len {k1 k2 k3 hd rest : ByteArray} {told done : Bool} {part rcv : Int} : (slV k1 k2 k3 hd told done rest part rcv).length = 9 := rfl
/-- A block that holds nine plain cells, as a row. -/
theorem Sim.srow {N : Nat} {c : CMap} {H : AH} {w : World} (hs : Sim N c H w) {id : Nat} {b : Blk} {l : Loc} {vals : List Value} (hb : H.get id = some b) (hc : c id = some l) (hro : b.ro = false) (hv : b.cells = vals) (hp : vals.all p1 = true) (hlen : vals.length = 9) :
    ∃ (cs0 : Array Value) (ty : TypeId) (fz : Nat × Nat), cs0.size = l.sz ∧ (∀ j, j < l.sz → ¬ (fz.1 ≤ j ∧ j < fz.2)) ∧ N ≤ l.blk ∧ SRow l.blk l.sh cs0 ty fz vals w := by
  obtain ⟨cs, ty, fz, mid, k1, k2, k3, k4, k5, k6⟩ := (hs.blk id b l hb hc).row
  obtain ⟨hN, hfz⟩ := k3 hro
  subst hv
  have hmid := k6.eq1 hp
  subst hmid
  refine ⟨cs, ty, fz, k2, hfz, hN, ⟨cs, k1, rfl, fun j hj => ?_, fun _ _ => rfl⟩, hlen, by omega, fun j h1 h2 => hfz j (by omega)⟩
  rw [k5 j (by omega), List.getD_eq_getElem?_getD, List.getElem?_eq_getElem (by omega)]
  rfl
/-- Only that row was written. -/
theorem Sim.saved {N : Nat} {c : CMap} {H : AH} {w w' : World} (hs : Sim N c H w) {id : Nat} {b : Blk} {l : Loc} {vals : List Value} (hb : H.get id = some b) (hc : c id = some l) (hro : b.ro = false) (hp : vals.all p1 = true) (hone : vals.all AM.one = true) (hlen : b.cells.length = 9)
    {cs0 : Array Value} {ty : TypeId} {fz : Nat × Nat} (hsz : cs0.size = l.sz) (hfz : ∀ j, j < l.sz → ¬ (fz.1 ≤ j ∧ j < fz.2)) (S : SRow l.blk l.sh cs0 ty fz vals w') (V : Save l.blk w.heap.size w w') :
    Sim N c (H.set id (some { b with cells := vals })) w' ∧ ExtW N c H w c (H.set id (some { b with cells := vals })) w' := by
  obtain ⟨cs, ty0, fz0, mid, k1, k2, k3, k4, k5, k6⟩ := (hs.blk id b l hb hc).row
  obtain ⟨hN, _⟩ := k3 hro
  have hlt := get_lt hb
  have hoth : ∀ j l', j ≠ id → c j = some l' → w'.heap[l'.blk]? = w.heap[l'.blk]? := fun j l' hj hl' =>
    V.block _ (c_old hs hl') (fun h => hs.inj id j b l l' (fun h => hj h.symm) hb hro hc hl' h.symm)
  refine ⟨⟨fun j => ?_, fun j b' l' g1 g2 => ?_, fun j j' b' l1 l2 hne g1 gro g2 g3 => ?_, Nat.le_trans hs.size V.size⟩, ⟨by simp, fun _ _ => .inl rfl, Nat.min_le_left _ _, fun j hj hlow => ⟨rfl, ?_, fun l' g => ?_⟩, ⟨V.os, V.tape, V.output, V.size, fun k hk => V.block k (Nat.lt_of_lt_of_le hk hs.size) (by omega)⟩⟩⟩
  · rw [get_set _ _ _ _ hlt]
    split
    · rename_i e; subst e; rw [hc]; rfl
    · exact hs.live j
  · rw [get_set _ _ _ _ hlt] at g1
    split at g1
    · rename_i e
      subst e
      obtain rfl := Option.some.inj g1
      rw [hc] at g2
      obtain rfl := Option.some.inj g2
      obtain ⟨cs', e1, e2, e3, e4⟩ := S.row
      have hl9 := S.len
      refine ⟨(hs.blk j b l hb hc).es, hone, cs', ty, fz, vals, e1, by rw [e2, hsz], fun _ => ⟨hN, hfz⟩, by simp only; omega, fun i hi => ?_, .refl hp⟩
      simp only at hi
      rw [e3 i (by omega), List.getD_eq_getElem?_getD, List.getElem?_eq_getElem hi]
      rfl
    · rename_i e
      obtain ⟨cs', ty', fz', mid', q1, q2, q3, q4, q5, q6⟩ := (hs.blk j b' l' g1 g2).row
      refine ⟨(hs.blk j b' l' g1 g2).es, (hs.blk j b' l' g1 g2).ones, cs', ty', fz', mid', ?_, q2, q3, q4, q5, by simpa using q6⟩
      rw [hoth j l' e g2]; exact q1
  · rw [get_set _ _ _ _ hlt] at g1
    split at g1
    · rename_i e
      subst e
      exact hs.inj j j' b l1 l2 hne hb hro g2 g3
    · exact hs.inj j j' b' l1 l2 hne g1 gro g2 g3
  · rw [get_set _ _ _ _ hlt]
    simp only [low_set] at hlow
    rw [if_neg (by omega)]
  · simp only [low_set] at hlow
    exact hoth j l' (by omega) g

def natOpen : CallH → List Value → AH → Option (Value × AH) := fun _ vs H =>
  match vs with
  | [.agg f, .string h, .string bl, .int .i64 size, .int .i64 first] =>
    (match f.toList with
    | [.string a, .string _, .string _] => if a.data.toList.length = 32 ∧ 0 ≤ size ∧ size ≤ 1048576 ∧ 0 ≤ first ∧ (first ≤ 1000000 ∨ bl.data.toList = []) ∧ bl.data.toList.length ≤ 100000000 then some (optV (openP a.data.toList h.data.toList size first bl.data.toList), H) else none
    | _ => none)
  | _ => none
theorem natOpen_mono : NatMono natOpen := fun _ _ _ _ _ _ h => h
theorem natOpen_some {call : CallH} {vs : List Value} {H H' : AH} {v : Value} (h : natOpen call vs H = some (v, H')) : ∃ (a b c hd bl : List UInt8) (size first : Int), vs = [.agg #[.string (tx a), .string (tx b), .string (tx c)], .string (tx hd), .string (tx bl), .int .i64 size, .int .i64 first] ∧ a.length = 32 ∧ (0 ≤ size ∧ size ≤ 1048576) ∧ (0 ≤ first ∧ (first ≤ 1000000 ∨ bl = [])) ∧ bl.length ≤ 100000000 ∧ H' = H ∧ v = optV (openP a hd size first bl) := by
  unfold natOpen at h
  split at h
  · rename_i f hd bl size first
    split at h
    · rename_i a b c hf
      split at h
      · rename_i hc
        simp only [Option.some.injEq, Prod.mk.injEq] at h
        refine ⟨a.data.toList, b.data.toList, c.data.toList, hd.data.toList, bl.data.toList, size, first, ?_, hc.1, ⟨hc.2.1, hc.2.2.1⟩, ⟨hc.2.2.2.1, hc.2.2.2.2.1⟩, hc.2.2.2.2.2, h.2.symm, h.1.symm⟩
        rw [tx_of, tx_of, tx_of, tx_of, tx_of, show f = #[.string a, .string b, .string c] by rw [← Array.toList_inj, hf]]
      · simp at h
    · simp at h
  · simp at h
theorem natOpen_ok (N : Nat) : NatOk Try.prog N 79 natOpen := by
  refine ⟨fun call _ vs H v H' h => ?_, fun call _ vs H v H' h c w args hs ha => .inr ⟨enters_of Try.func79 (by kernel_rfl) rfl args w, ?_⟩⟩
  · obtain ⟨a, b, c, hd, bl, size, first, _, _, _, _, _, rfl, _⟩ := natOpen_some h
    exact .refl _
  · obtain ⟨a, b, k, hd, bl, size, first, rfl, h1, h2, h3, h4, rfl, rfl⟩ := natOpen_some h
    obtain ⟨x', r1, e1, hx, hr1⟩ := ha.uncons
    have hx2 := hx.eq2 rfl
    subst hx2
    have hr := hr1.eq1 rfl
    subst hr
    have hargs : args = #[.agg #[.string (tx a), .string (tx b), .string (tx k)], .string (tx hd), .string (tx bl), .int .i64 size, .int .i64 first] := by rw [← Array.toList_inj, e1]
    subst hargs
    refine (calls79 a b k hd bl h1 size first h2 h3 h4 w).mono fun e w' hw => ?_
    obtain ⟨rfl, hb⟩ := hw
    obtain ⟨g1, g2⟩ := hs.under hb
    refine ⟨c, .of3 ?_, g1, g2⟩
    unfold optV
    split <;> rfl

/-- What a sealer writes. -/
def slW (a hd : List UInt8) (told : Bool) (part : Int) (R : List UInt8) : List UInt8 := (if told = true then [] else hd) ++ sealQ a hd part R (nW R.length)
def natWrite : CallH → List Value → AH → Option (Value × AH) := fun _ vs H =>
  match vs with
  | [.pointer (some p), .string t] =>
    (match H.get p.block with
    | some b => (match b.cells with
      | [.string a, .string b2, .string b3, .string hd, .bool told, .bool false, .string rest, .int .i64 part, .int .i64 rcv] =>
        if b.ro = false ∧ p.off = 0 ∧ p.spot = none ∧ a.data.toList.length = 32 ∧ hd.data.toList.length = 20 ∧ (0 ≤ part ∧ part ≤ 1000000) ∧ (0 ≤ rcv ∧ rcv ≤ 1048576) ∧ (t.data.toList.length : Int) ≤ 1048576 - rcv ∧ rest.data.toList.length ≤ 1048576 then
          some (.tuple #[.string (tx (slW a.data.toList hd.data.toList told part (rest.data.toList ++ t.data.toList))), .int .i64 0],
            H.set p.block (some { b with cells := slV a b2 b3 hd true false (tx ((rest.data.toList ++ t.data.toList).drop (1024 * nW (rest.data.toList ++ t.data.toList).length))) (part + nW (rest.data.toList ++ t.data.toList).length) (rcv + t.data.toList.length) }))
        else none
      | _ => none)
    | none => none)
  | _ => none
theorem natWrite_mono : NatMono natWrite := fun _ _ _ _ _ _ h => h
theorem natWrite_some {call : CallH} {vs : List Value} {H H' : AH} {v : Value} (h : natWrite call vs H = some (v, H')) : ∃ (id : Nat) (bl : Blk) (a b c hd rest t : List UInt8) (told : Bool) (part rcv : Int), vs = [.pointer (some ⟨id, 0, none⟩), .string (tx t)] ∧ H.get id = some bl ∧ bl.cells = slV (tx a) (tx b) (tx c) (tx hd) told false (tx rest) part rcv ∧ bl.ro = false ∧ a.length = 32 ∧ hd.length = 20 ∧ (0 ≤ part ∧ part ≤ 1000000) ∧ (0 ≤ rcv ∧ rcv ≤ 1048576) ∧ (t.length : Int) ≤ 1048576 - rcv ∧ rest.length ≤ 1048576 ∧
    v = .tuple #[.string (tx (slW a hd told part (rest ++ t))), .int .i64 0] ∧ H' = H.set id (some { bl with cells := slV (tx a) (tx b) (tx c) (tx hd) true false (tx ((rest ++ t).drop (1024 * nW (rest ++ t).length))) (part + nW (rest ++ t).length) (rcv + t.length) }) := by
  unfold natWrite at h
  split at h
  · rename_i p t
    split at h
    · rename_i b hb
      split at h
      · rename_i a b2 b3 hd told rest part rcv hcells
        split at h
        · rename_i hc
          simp only [Option.some.injEq, Prod.mk.injEq] at h
          obtain ⟨c1, c2, c3, c4, c5, c6, c7, c8, c9⟩ := hc
          refine ⟨p.block, b, a.data.toList, b2.data.toList, b3.data.toList, hd.data.toList, rest.data.toList, t.data.toList, told, part, rcv, ?_, hb, ?_, c1, c4, c5, c6, c7, c8, c9, h.1.symm, ?_⟩
          · rw [tx_of]
            obtain ⟨p1, p2, p3⟩ := p
            simp only at c2 c3
            subst c2 c3
            rfl
          · rw [hcells, tx_of, tx_of, tx_of, tx_of, tx_of]; rfl
          · rw [tx_of, tx_of, tx_of, tx_of]; exact h.2.symm
        · simp at h
      · simp at h
    · simp at h
  · simp at h
theorem natWrite_ok (N : Nat) : NatOk Try.prog N 51 natWrite := by
  refine ⟨fun call _ vs H v H' h => ?_, fun call _ vs H v H' h c w args hs ha => .inr ⟨enters_of Try.func51 (by kernel_rfl) rfl args w, ?_⟩⟩
  · obtain ⟨id, bl, a, b, c, hd, rest, t, told, part, rcv, _, _, _, _, _, _, _, _, _, _, _, rfl⟩ := natWrite_some h
    exact .set _ _ _
  · obtain ⟨id, bl, a, b, k, hd, rest, t, told, part, rcv, rfl, hb, hcells, hro, h1, h2, h3, h4, h5, h6, rfl, rfl⟩ := natWrite_some h
    obtain ⟨x', r1, e1, hx, hr1⟩ := ha.uncons
    have hr := hr1.eq1 rfl
    subst hr
    obtain ⟨l, hc, _⟩ := hs.at_ hb
    cases hx with
    | plain hp => simp [p1] at hp
    | ptrDead g1 g2 => rw [hc] at g2; simp at g2
    | @ptr _ l2 g1 g2 g3 =>
      rw [hc] at g2
      obtain rfl := Option.some.inj g2
      have hargs : args = #[.pointer (some ⟨l.blk, l.sh, none⟩), .string (tx t)] := by rw [← Array.toList_inj, e1]; rfl
      subst hargs
      obtain ⟨cs0, ty, fz, hsz, hfz, hN, S⟩ := hs.srow hb hc hro hcells slV_p1 slV_len
      refine (calls51 S h1 h2 h3 h4 h5 h6).mono fun e w' hw => ?_
      obtain ⟨rfl, S', V⟩ := hw
      obtain ⟨q1, q2⟩ := hs.saved hb hc hro slV_p1 slV_one (by rw [hcells]; rfl) hsz hfz S' V
      exact ⟨c, .of3 rfl, q1, q2⟩
/-- What a sealer says at the end. -/
def slE (a hd : List UInt8) (told : Bool) (part : Int) (rest : List UInt8) : List UInt8 := (if told = true then [] else hd) ++ sealL a (nonceL (hd.drop 8) part) (extraL hd part true) rest
def natClose : CallH → List Value → AH → Option (Value × AH) := fun _ vs H =>
  match vs with
  | [.pointer (some p)] =>
    (match H.get p.block with
    | some b => (match b.cells with
      | [.string a, .string b2, .string b3, .string hd, .bool told, .bool false, .string rest, .int .i64 part, .int .i64 rcv] =>
        if b.ro = false ∧ p.off = 0 ∧ p.spot = none ∧ a.data.toList.length = 32 ∧ hd.data.toList.length = 20 ∧ (0 ≤ part ∧ part ≤ 1000000000) ∧ rest.data.toList.length ≤ 1048576 then
          some (.tuple #[.string (tx (slE a.data.toList hd.data.toList told part rest.data.toList)), .int .i64 0],
            H.set p.block (some { b with cells := slV a b2 b3 hd true true rest part rcv }))
        else none
      | _ => none)
    | none => none)
  | _ => none
theorem natClose_mono : NatMono natClose := fun _ _ _ _ _ _ h => h
theorem natClose_some {call : CallH} {vs : List Value} {H H' : AH} {v : Value} (h : natClose call vs H = some (v, H')) : ∃ (id : Nat) (bl : Blk) (a b c hd rest : List UInt8) (told : Bool) (part rcv : Int), vs = [.pointer (some ⟨id, 0, none⟩)] ∧ H.get id = some bl ∧ bl.cells = slV (tx a) (tx b) (tx c) (tx hd) told false (tx rest) part rcv ∧ bl.ro = false ∧ a.length = 32 ∧ hd.length = 20 ∧ (0 ≤ part ∧ part ≤ 1000000000) ∧ rest.length ≤ 1048576 ∧
    v = .tuple #[.string (tx (slE a hd told part rest)), .int .i64 0] ∧ H' = H.set id (some { bl with cells := slV (tx a) (tx b) (tx c) (tx hd) true true (tx rest) part rcv }) := by
  unfold natClose at h
  split at h
  · rename_i p
    split at h
    · rename_i b hb
      split at h
      · rename_i a b2 b3 hd told rest part rcv hcells
        split at h
        · rename_i hc
          simp only [Option.some.injEq, Prod.mk.injEq] at h
          obtain ⟨c1, c2, c3, c4, c5, c6, c7⟩ := hc
          refine ⟨p.block, b, a.data.toList, b2.data.toList, b3.data.toList, hd.data.toList, rest.data.toList, told, part, rcv, ?_, hb, ?_, c1, c4, c5, c6, c7, h.1.symm, ?_⟩
          · obtain ⟨p1, p2, p3⟩ := p
            simp only at c2 c3
            subst c2 c3
            rfl
          · rw [hcells, tx_of, tx_of, tx_of, tx_of, tx_of]; rfl
          · rw [tx_of, tx_of, tx_of, tx_of, tx_of]; exact h.2.symm
        · simp at h
      · simp at h
    · simp at h
  · simp at h
theorem natClose_ok (N : Nat) : NatOk Try.prog N 52 natClose := by
  refine ⟨fun call _ vs H v H' h => ?_, fun call _ vs H v H' h c w args hs ha => .inr ⟨enters_of Try.func52 (by kernel_rfl) rfl args w, ?_⟩⟩
  · obtain ⟨id, bl, a, b, c, hd, rest, told, part, rcv, _, _, _, _, _, _, _, _, _, rfl⟩ := natClose_some h
    exact .set _ _ _
  · obtain ⟨id, bl, a, b, k, hd, rest, told, part, rcv, rfl, hb, hcells, hro, h1, h2, h3, h4, rfl, rfl⟩ := natClose_some h
    obtain ⟨x', r1, e1, hx, hr1⟩ := ha.uncons
    rw [hr1.nil_inv] at e1
    obtain ⟨l, hc, _⟩ := hs.at_ hb
    cases hx with
    | plain hp => simp [p1] at hp
    | ptrDead g1 g2 => rw [hc] at g2; simp at g2
    | @ptr _ l2 g1 g2 g3 =>
      rw [hc] at g2
      obtain rfl := Option.some.inj g2
      have hargs : args = #[.pointer (some ⟨l.blk, l.sh, none⟩)] := by rw [← Array.toList_inj, e1]; rfl
      subst hargs
      obtain ⟨cs0, ty, fz, hsz, hfz, hN, S⟩ := hs.srow hb hc hro hcells slV_p1 slV_len
      refine (calls52 S h1 h2 h3 h4).mono fun e w' hw => ?_
      obtain ⟨rfl, S', V⟩ := hw
      obtain ⟨q1, q2⟩ := hs.saved hb hc hro slV_p1 slV_one (by rw [hcells]; rfl) hsz hfz S' V
      exact ⟨c, .of3 rfl, q1, q2⟩
section
variable {tbl : Tbl} [hT : TMono tbl]
theorem v79 (h79 : tbl 79 = some (.nat natOpen)) (a b c hd bl : List UInt8) (ha : a.length = 32) {size first : Int} (hs : 0 ≤ size ∧ size ≤ 1048576) (hf : 0 ≤ first ∧ (first ≤ 1000000 ∨ bl = [])) (hb : bl.length ≤ 100000000) (H : AH) :
    Val tbl 79 [keysV a b c, .string (tx hd), .string (tx bl), .int .i64 size, .int .i64 first] H (optV (openP a hd size first bl)) H := by
  refine ⟨1, ?_⟩
  simp only [evF, h79, natOpen, keysV]
  simp only [tx_data]
  rw [if_pos ⟨ha, hs.1, hs.2, hf.1, hf.2, hb⟩]
theorem v51 (h51 : tbl 51 = some (.nat natWrite)) {id : Nat} {H : AH} {bl : Blk} {a b c hd rest : List UInt8} {told : Bool} {part rcv : Int} (hb : H.get id = some bl) (hcells : bl.cells = slV (tx a) (tx b) (tx c) (tx hd) told false (tx rest) part rcv) (hro : bl.ro = false) (ha : a.length = 32) (hh : hd.length = 20) (hp : 0 ≤ part ∧ part ≤ 1000000) (hr : 0 ≤ rcv ∧ rcv ≤ 1048576) (t : List UInt8) (ht : (t.length : Int) ≤ 1048576 - rcv) (hrl : rest.length ≤ 1048576) :
    Val tbl 51 [.pointer (some ⟨id, 0, none⟩), .string (tx t)] H (.tuple #[.string (tx (slW a hd told part (rest ++ t))), .int .i64 0]) (H.set id (some { bl with cells := slV (tx a) (tx b) (tx c) (tx hd) true false (tx ((rest ++ t).drop (1024 * nW (rest ++ t).length))) (part + nW (rest ++ t).length) (rcv + t.length) })) := by
  refine ⟨1, ?_⟩
  simp only [evF, h51, natWrite, hb, hcells, slV]
  simp only [tx_data]
  rw [if_pos ⟨hro, trivial, trivial, ha, hh, hp, hr, ht, hrl⟩]
theorem v52 (h52 : tbl 52 = some (.nat natClose)) {id : Nat} {H : AH} {bl : Blk} {a b c hd rest : List UInt8} {told : Bool} {part rcv : Int} (hb : H.get id = some bl) (hcells : bl.cells = slV (tx a) (tx b) (tx c) (tx hd) told false (tx rest) part rcv) (hro : bl.ro = false) (ha : a.length = 32) (hh : hd.length = 20) (hp : 0 ≤ part ∧ part ≤ 1000000000) (hrl : rest.length ≤ 1048576) :
    Val tbl 52 [.pointer (some ⟨id, 0, none⟩)] H (.tuple #[.string (tx (slE a hd told part rest)), .int .i64 0]) (H.set id (some { bl with cells := slV (tx a) (tx b) (tx c) (tx hd) true true (tx rest) part rcv })) := by
  refine ⟨1, ?_⟩
  simp only [evF, h52, natClose, hb, hcells, slV]
  simp only [tx_data]
  rw [if_pos ⟨hro, trivial, trivial, ha, hh, hp, hrl⟩]
end
end Go.Proofs.Ytildhljhbbhmmaa.AM
