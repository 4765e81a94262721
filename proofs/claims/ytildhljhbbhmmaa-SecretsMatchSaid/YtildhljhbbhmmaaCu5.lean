/- Part 5 of the texts that this claim needs. No conditions. -/
import Derived.Test.YtildhljhbbhmmaaProg
import Derived.KernelRfl
import Derived.Test.YtildhljhbbhmmaaCu4
namespace Go.Proofs.Ytildhljhbbhmmaa.AM
open Go
set_option linter.all false
set_option maxRecDepth 10000

/-- What the reference's first loop has after i rounds. -/
def clS (a b : Nat) : Nat → Nat
  | 0 => 0
  | i + 1 => if (b / 2 ^ i) % 2 = 1 then clS a b i ^^^ (a * 2 ^ i) else clS a b i
/-- What its second loop has after k rounds. -/
def rdS (o : Nat) : Nat → Nat
  | 0 => o
  | k + 1 => if (rdS o k / 2 ^ (14 - k)) % 2 = 1 then rdS o k ^^^ (283 * 2 ^ (6 - k)) else rdS o k
def fldN (a b : Nat) : Nat := rdS (clS a b 8) 7
theorem par_xor (x y : Nat) : (x ^^^ y) % 2 = (x % 2 + y % 2) % 2 := by
  have h := Nat.xor_mod_two_pow (a := x) (b := y) (n := 1)
  rw [Nat.pow_one] at h
  rw [h]
  have h1 := Nat.mod_two_eq_zero_or_one x
  have h2 := Nat.mod_two_eq_zero_or_one y
  rcases h1 with h1 | h1 <;> rcases h2 with h2 | h2 <;> rw [h1, h2] <;> rfl
theorem div_xor (x y i : Nat) : (x ^^^ y) / 2 ^ i = (x / 2 ^ i) ^^^ (y / 2 ^ i) := by
  rw [← Nat.shiftRight_eq_div_pow, ← Nat.shiftRight_eq_div_pow, ← Nat.shiftRight_eq_div_pow, Nat.shiftRight_xor_distrib]
theorem mul_xor (x y i : Nat) : (x ^^^ y) * 2 ^ i = (x * 2 ^ i) ^^^ (y * 2 ^ i) := by
  rw [← Nat.shiftLeft_eq, ← Nat.shiftLeft_eq, ← Nat.shiftLeft_eq, Nat.shiftLeft_xor_distrib]
theorem xor4 (a b c d : Nat) : a ^^^ b ^^^ (c ^^^ d) = a ^^^ c ^^^ (b ^^^ d) := by ac_rfl
theorem clS_addL (a a' b : Nat) : ∀ i, clS (a ^^^ a') b i = clS a b i ^^^ clS a' b i
  | 0 => by simp only [clS, Nat.xor_self]
  | i + 1 => by
    simp only [clS]
    rw [clS_addL a a' b i]
    split
    · rw [mul_xor, xor4]
    · rfl
theorem clS_addR (a b b' : Nat) : ∀ i, clS a (b ^^^ b') i = clS a b i ^^^ clS a b' i
  | 0 => by simp only [clS, Nat.xor_self]
  | i + 1 => by
    simp only [clS]
    rw [clS_addR a b b' i, div_xor, par_xor]
    have h1 := Nat.mod_two_eq_zero_or_one (b / 2 ^ i)
    have h2 := Nat.mod_two_eq_zero_or_one (b' / 2 ^ i)
    rcases h1 with h1 | h1 <;> rcases h2 with h2 | h2 <;> rw [h1, h2]
    · rfl
    · show clS a b i ^^^ clS a b' i ^^^ a * 2 ^ i = clS a b i ^^^ (clS a b' i ^^^ a * 2 ^ i)
      ac_rfl
    · show clS a b i ^^^ clS a b' i ^^^ a * 2 ^ i = clS a b i ^^^ a * 2 ^ i ^^^ clS a b' i
      ac_rfl
    · show clS a b i ^^^ clS a b' i = clS a b i ^^^ a * 2 ^ i ^^^ (clS a b' i ^^^ a * 2 ^ i)
      rw [xor4, Nat.xor_self, Nat.xor_zero]
theorem rdS_add (x y : Nat) : ∀ k, rdS (x ^^^ y) k = rdS x k ^^^ rdS y k
  | 0 => rfl
  | k + 1 => by
    simp only [rdS]
    rw [rdS_add x y k, div_xor, par_xor]
    have h1 := Nat.mod_two_eq_zero_or_one (rdS x k / 2 ^ (14 - k))
    have h2 := Nat.mod_two_eq_zero_or_one (rdS y k / 2 ^ (14 - k))
    rcases h1 with h1 | h1 <;> rcases h2 with h2 | h2 <;> rw [h1, h2]
    · rfl
    · show rdS x k ^^^ rdS y k ^^^ 283 * 2 ^ (6 - k) = rdS x k ^^^ (rdS y k ^^^ 283 * 2 ^ (6 - k))
      ac_rfl
    · show rdS x k ^^^ rdS y k ^^^ 283 * 2 ^ (6 - k) = rdS x k ^^^ 283 * 2 ^ (6 - k) ^^^ rdS y k
      ac_rfl
    · show rdS x k ^^^ rdS y k = rdS x k ^^^ 283 * 2 ^ (6 - k) ^^^ (rdS y k ^^^ 283 * 2 ^ (6 - k))
      rw [xor4, Nat.xor_self, Nat.xor_zero]
theorem fldN_addL (a a' b : Nat) : fldN (a ^^^ a') b = fldN a b ^^^ fldN a' b := by
  unfold fldN; rw [clS_addL, rdS_add]
theorem fldN_addR (a b b' : Nat) : fldN a (b ^^^ b') = fldN a b ^^^ fldN a b' := by
  unfold fldN; rw [clS_addR, rdS_add]
def GAddN (f : UInt8 → Nat) : Prop := ∀ a b, f (a ^^^ b) = f a ^^^ f b
theorem GAddN.zero {f : UInt8 → Nat} (h : GAddN f) : f 0 = 0 := by
  have := h 0 0
  rw [UInt8.xor_self, Nat.xor_self] at this
  exact this
theorem gLin_extN {f g : UInt8 → Nat} (hf : GAddN f) (hg : GAddN g) (h : f 1 = g 1 ∧ f 2 = g 2 ∧ f 4 = g 4 ∧ f 8 = g 8 ∧ f 16 = g 16 ∧ f 32 = g 32 ∧ f 64 = g 64 ∧ f 128 = g 128) (a : UInt8) : f a = g a := by
  have hz : f 0 = g 0 := by rw [hf.zero, hg.zero]
  obtain ⟨h1, h2, h3, h4, h5, h6, h7, h8⟩ := h
  obtain ⟨b1, b2, b3, b4, b5, b6, b7, b8⟩ := gBit_of a
  have k : ∀ x y, (x = 0 ∨ x = y) → f y = g y → f x = g x := by
    rintro x y (rfl | rfl) e
    · exact hz
    · exact e
  rw [← gBits_eq a]
  unfold gBits
  rw [hf, hf, hf, hf, hf, hf, hf, hg, hg, hg, hg, hg, hg, hg, k _ _ b1 h1, k _ _ b2 h2, k _ _ b3 h3, k _ _ b4 h4, k _ _ b5 h5, k _ _ b6 h6, k _ _ b7 h7, k _ _ b8 h8]
theorem fldN_eq (a b : UInt8) : fldN a.toNat b.toNat = (gM a b).toNat := by
  refine gLin_extN (f := fun a => fldN a.toNat b.toNat) (g := fun a => (gM a b).toNat) (fun a a' => ?_) (fun a a' => ?_) ?_ a
  · show fldN (a ^^^ a').toNat b.toNat = _
    rw [UInt8.toNat_xor, fldN_addL]
  · show (gM (a ^^^ a') b).toNat = _
    rw [gM_addL, UInt8.toNat_xor]
  · refine ⟨?_, ?_, ?_, ?_, ?_, ?_, ?_, ?_⟩ <;>
    · refine gLin_extN (f := fun b => fldN (UInt8.toNat _) b.toNat) (g := fun b => (gM _ b).toNat) (fun b b' => ?_) (fun b b' => ?_) ?_ b
      · show fldN _ (b ^^^ b').toNat = _
        rw [UInt8.toNat_xor, fldN_addR]
      · show (gM _ (b ^^^ b')).toNat = _
        rw [gM_addR, UInt8.toNat_xor]
      · decide +kernel
theorem clS_lt {a b : Nat} (ha : a < 256) : ∀ i, i ≤ 8 → clS a b i < 2 ^ 15
  | 0, _ => by show 0 < 2 ^ 15; decide
  | i + 1, h => by
    have ih := clS_lt (b := b) ha i (by omega)
    simp only [clS]
    split
    · refine Nat.xor_lt_two_pow ih ?_
      have : 2 ^ i ≤ 2 ^ 7 := Nat.pow_le_pow_right (by decide) (by omega)
      calc a * 2 ^ i ≤ 255 * 2 ^ 7 := Nat.mul_le_mul (by omega) this
        _ < 2 ^ 15 := by decide
    · exact ih
theorem rdS_lt {o : Nat} (ho : o < 2 ^ 15) : ∀ k, rdS o k < 2 ^ 15
  | 0 => ho
  | k + 1 => by
    have ih := rdS_lt ho k
    simp only [rdS]
    split
    · refine Nat.xor_lt_two_pow ih ?_
      have : 2 ^ (6 - k) ≤ 2 ^ 6 := Nat.pow_le_pow_right (by decide) (by omega)
      calc 283 * 2 ^ (6 - k) ≤ 283 * 2 ^ 6 := Nat.mul_le_mul (by omega) this
        _ < 2 ^ 15 := by decide
    · exact ih
theorem xor63 (x y : Nat) (hx : x < 2 ^ 15) (hy : y < 2 ^ 15) : bitsK .xor .i64 (x : Int) (y : Int) = ((x ^^^ y : Nat) : Int) := by
  simp only [bitsK, BitVec.toNat_xor, ofInt_nat]
  have e1 : x % 2 ^ IntKind.i64.bits = x := Nat.mod_eq_of_lt (by show x < 2 ^ 64; omega)
  have e2 : y % 2 ^ IntKind.i64.bits = y := Nat.mod_eq_of_lt (by show y < 2 ^ 64; omega)
  rw [e1, e2]
  have := Nat.xor_lt_two_pow (n := 15) hx hy
  exact w64 (by omega) (by omega)
theorem and63_1 {x : Int} (h : 0 ≤ x ∧ x < 4611686018427387904) : bitsK .and .i64 x 1 = x % 2 := by
  obtain ⟨n, rfl⟩ : ∃ n : Nat, x = n := ⟨x.toNat, by omega⟩
  simp only [bitsK, BitVec.toNat_and]
  rw [show (BitVec.ofInt IntKind.i64.bits (1 : Int)).toNat = 2 ^ 1 - 1 from rfl, ofInt_nat, show n % 2 ^ IntKind.i64.bits = n from Nat.mod_eq_of_lt (by
    show n < 2 ^ 64
    omega), Nat.and_two_pow_sub_one_eq_mod]
  rw [w64 (by omega) (by omega)]
  rfl
theorem shl63n (x n : Nat) (hn : n ≤ 40) (hx : x * 2 ^ n < 4611686018427387904) : shiftK .shl .i64 (x : Int) (n : Int) = ((x * 2 ^ n : Nat) : Int) := by
  have e : Nat.min n 64 = n := Nat.min_eq_left (by omega)
  simp only [shiftK, Int.toNat_natCast]
  rw [show IntKind.i64.bits = 64 from rfl, e]
  rw [show (x : Int) * 2 ^ n = ((x * 2 ^ n : Nat) : Int) by simp]
  exact w64 (by omega) (by omega)
theorem shr63n (x n : Nat) (hn : n ≤ 63) : shiftK .shr .i64 (x : Int) (n : Int) = ((x / 2 ^ n : Nat) : Int) := by
  simp only [shiftK, Int.toNat_natCast]
  rw [show IntKind.i64.bits = 64 from rfl, show Nat.min n 64 = n from Nat.min_eq_left (by omega), Int.fdiv_eq_ediv_of_nonneg _ (by
    have : (0 : Int) ≤ ((2 ^ n : Nat) : Int) := Int.natCast_nonneg _
    simpa using this)]
  simp
end Go.Proofs.Ytildhljhbbhmmaa.AM
namespace Go.Proofs.Ytildhljhbbhmmaa.AM
open Go
set_option linter.all false
set_option maxRecDepth 10000

/-! ### Values of polynomials -/
/-- A map is the value of a polynomial of less than n coefficients. -/
def Pol : Nat → (UInt8 → UInt8) → Prop
  | 0, f => ∀ z, f z = 0
  | n + 1, f => ∃ (c : UInt8) (q : UInt8 → UInt8), Pol n q ∧ ∀ z, f z = c ^^^ gM z (q z)
theorem Pol.congr : ∀ {n : Nat} {f g : UInt8 → UInt8}, Pol n f → (∀ z, g z = f z) → Pol n g
  | 0, f, g, h, e => fun z => by rw [e]; exact h z
  | n + 1, f, g, ⟨c, q, h1, h2⟩, e => ⟨c, q, h1, fun z => by rw [e, h2]⟩
theorem x4 (a b c d : UInt8) : a ^^^ b ^^^ (c ^^^ d) = a ^^^ c ^^^ (b ^^^ d) := by ac_rfl
theorem Pol.add : ∀ {n : Nat} {f g : UInt8 → UInt8}, Pol n f → Pol n g → Pol n (fun z => f z ^^^ g z)
  | 0, f, g, h1, h2 => fun z => by show f z ^^^ g z = 0; rw [h1 z, h2 z]; rfl
  | n + 1, f, g, ⟨c, q, h1, h2⟩, ⟨d, r, h3, h4⟩ => ⟨c ^^^ d, fun z => q z ^^^ r z, h1.add h3, fun z => by
      show f z ^^^ g z = _
      rw [h2, h4, gM_addR, x4]⟩
theorem Pol.mono : ∀ {n : Nat} {f : UInt8 → UInt8}, Pol n f → Pol (n + 1) f
  | 0, f, h1 => ⟨0, fun _ => 0, fun _ => rfl, fun z => by rw [h1, gM_zero, UInt8.xor_self]⟩
  | n + 1, f, ⟨c, q, h1, h2⟩ => ⟨c, q, h1.mono, h2⟩
theorem xor_ne {a b : UInt8} (h : a ≠ b) : a ^^^ b ≠ 0 := fun e => h (gXor_cancel e)
/-! ### The value at a place -/
/-- The weight of share i after k rounds. -/
def wS (x : Nat → UInt8) (z : UInt8) (i : Nat) : Nat → UInt8
  | 0 => 1
  | k + 1 => if k = i then wS x z i k else gM (wS x z i k) (gM (z ^^^ x k) (gI (x i ^^^ x k)))
def vS (x y : Nat → UInt8) (n : Nat) (z : UInt8) : Nat → UInt8
  | 0 => 0
  | i + 1 => vS x y n z i ^^^ gM (wS x z i n) (y i)
/-- The same as the reference reckons it. -/
def tS (x y : Nat → UInt8) (z : UInt8) (i : Nat) : Nat → UInt8
  | 0 => y i
  | k + 1 => if k = i then tS x y z i k else gM (tS x y z i k) (gM (z ^^^ x k) (gI (x i ^^^ x k)))
theorem tS_eq (x y : Nat → UInt8) (z : UInt8) (i : Nat) : ∀ k, tS x y z i k = gM (wS x z i k) (y i)
  | 0 => by simp only [tS, wS]; rw [gOne_M]
  | k + 1 => by
    simp only [tS, wS]
    rw [tS_eq x y z i k]
    split
    · rfl
    · rw [gM_assoc, gM_comm (y i), ← gM_assoc]
/-! ### The polynomial of a secret -/
end Go.Proofs.Ytildhljhbbhmmaa.AM
/- Compiled functions. WRITTEN BY A PROGRAM (mk.py). -/
namespace Go.Proofs.Ytildhljhbbhmmaa.AM
open Go
set_option maxRecDepth 100000
set_option linter.all false
def k73 : MCode := (.seq (.ops [⟨(some 4), none, false, (.mov (.const (.int .u8 0)))⟩]) (.seq (.ops [⟨(some 5), none, false, (.mov (.const (.int .u8 0)))⟩]) (.seq (.block 0 (.loop (.seq (.seq (.ops [⟨(some 7), none, false, (.mov (.tmp 1))⟩, ⟨(some 8), none, false, (.bin .int .gtr (.tmp 7) (.const (.int .u8 0)))⟩]) (.cond (.tmp 8) .skip (.exit 0))) (.seq (.block 1 (.seq (.seq (.ops [⟨(some 11), none, false, (.mov (.tmp 1))⟩, ⟨(some 12), none, false, (.bin .int .and (.tmp 11) (.const (.int .u8 1)))⟩, ⟨(some 13), none, false, (.bin .int .eql (.tmp 12) (.const (.int .u8 1)))⟩]) (.cond (.tmp 13) (.ops [⟨(some 14), none, false, (.mov (.tmp 5))⟩, ⟨(some 15), none, false, (.mov (.tmp 0))⟩, ⟨(some 16), none, false, (.bin .int .xor (.tmp 14) (.tmp 15))⟩, ⟨(some 5), none, false, (.mov (.tmp 16))⟩]) .skip)) (.seq (.ops [⟨(some 17), none, false, (.mov (.tmp 0))⟩, ⟨(some 18), none, false, (.bin .int .and (.tmp 17) (.const (.int .u8 128)))⟩, ⟨(some 6), none, false, (.mov (.tmp 18))⟩]) (.seq (.ops [⟨(some 19), none, false, (.mov (.tmp 0))⟩, ⟨(some 20), none, false, (.bin .int .shl (.tmp 19) (.const (.int .u64 1)))⟩, ⟨(some 0), none, false, (.mov (.tmp 20))⟩]) (.seq (.ops [⟨(some 21), none, false, (.mov (.tmp 6))⟩, ⟨(some 22), none, false, (.bin .int .gtr (.tmp 21) (.const (.int .u8 0)))⟩]) (.cond (.tmp 22) (.ops [⟨(some 23), none, false, (.mov (.tmp 0))⟩, ⟨(some 24), none, false, (.bin .int .xor (.tmp 23) (.const (.int .u8 27)))⟩, ⟨(some 0), none, false, (.mov (.tmp 24))⟩]) .skip)))))) (.ops [⟨(some 9), none, false, (.mov (.tmp 1))⟩, ⟨(some 10), none, false, (.bin .int .shr (.tmp 9) (.const (.int .u64 1)))⟩, ⟨(some 1), none, false, (.mov (.tmp 10))⟩]))))) (.seq (.ops [⟨(some 25), none, false, (.mov (.tmp 5))⟩, ⟨(some 4), none, false, (.mov (.tmp 25))⟩]) .ret))))
def m73 : MFun := ⟨k73, [(.tmp 4)]⟩
theorem c73 : compFn Try.prog Try.f73 = some m73 := by kernel_rfl
def k117 : MCode := (.seq (.ops [⟨(some 2), none, false, (.mov (.const (.int .u8 0)))⟩]) (.seq (.ops [⟨(some 3), none, false, (.mov (.const (.int .u8 1)))⟩]) (.seq (.seq (.ops [⟨(some 4), none, false, (.mov (.const (.int .i64 254)))⟩]) (.block 0 (.loop (.seq (.seq (.ops [⟨(some 5), none, false, (.mov (.tmp 4))⟩, ⟨(some 6), none, false, (.bin .int .gtr (.tmp 5) (.const (.int .i64 0)))⟩]) (.cond (.tmp 6) .skip (.exit 0))) (.seq (.block 1 (.seq (.seq (.ops [⟨(some 9), none, false, (.mov (.tmp 4))⟩, ⟨(some 10), none, false, (.bin .int .and (.tmp 9) (.const (.int .i64 1)))⟩, ⟨(some 11), none, false, (.bin .int .eql (.tmp 10) (.const (.int .i64 1)))⟩]) (.cond (.tmp 11) (.ops [⟨(some 12), none, false, (.mov (.tmp 3))⟩, ⟨(some 13), none, false, (.mov (.tmp 0))⟩, ⟨(some 14), none, false, (.call false (.func 73) [(.tmp 12), (.tmp 13)])⟩, ⟨(some 3), none, false, (.mov (.tmp 14))⟩]) .skip)) (.ops [⟨(some 15), none, false, (.mov (.tmp 0))⟩, ⟨(some 16), none, false, (.mov (.tmp 0))⟩, ⟨(some 17), none, false, (.call false (.func 73) [(.tmp 15), (.tmp 16)])⟩, ⟨(some 0), none, false, (.mov (.tmp 17))⟩]))) (.ops [⟨(some 7), none, false, (.mov (.tmp 4))⟩, ⟨(some 8), none, false, (.bin .int .shr (.tmp 7) (.const (.int .u64 1)))⟩, ⟨(some 4), none, false, (.mov (.tmp 8))⟩])))))) (.seq (.ops [⟨(some 18), none, false, (.mov (.tmp 3))⟩, ⟨(some 2), none, false, (.mov (.tmp 18))⟩]) .ret))))
def m117 : MFun := ⟨k117, [(.tmp 2)]⟩
theorem c117 : compFn Try.prog Try.f117 = some m117 := by kernel_rfl
def k74 : MCode := (.seq (.ops [⟨(some 4), none, false, (.mov (.const (.int .i64 0)))⟩]) (.seq (.ops [⟨(some 5), none, false, (.mov (.const (.int .i64 0)))⟩]) (.seq (.seq (.ops [⟨(some 8), none, false, (.mov (.const (.int .i64 0)))⟩]) (.block 0 (.loop (.seq (.ops [⟨(some 9), none, false, (.bin .int .lss (.tmp 8) (.const (.int .i64 8)))⟩]) (.seq (.cond (.tmp 9) .skip (.exit 0)) (.seq (.block 1 (.seq (.ops [⟨(some 10), none, false, (.mov (.tmp 8))⟩, ⟨(some 6), none, false, (.mov (.tmp 10))⟩]) (.seq (.ops [⟨(some 11), none, false, (.mov (.tmp 1))⟩, ⟨(some 12), none, false, (.mov (.tmp 6))⟩, ⟨(some 13), none, false, (.bin .int .shr (.tmp 11) (.tmp 12))⟩, ⟨(some 14), none, false, (.bin .int .and (.tmp 13) (.const (.int .i64 1)))⟩, ⟨(some 15), none, false, (.bin .int .eql (.tmp 14) (.const (.int .i64 1)))⟩]) (.cond (.tmp 15) (.ops [⟨(some 16), none, false, (.mov (.tmp 5))⟩, ⟨(some 17), none, false, (.mov (.tmp 0))⟩, ⟨(some 18), none, false, (.mov (.tmp 6))⟩, ⟨(some 19), none, false, (.bin .int .shl (.tmp 17) (.tmp 18))⟩, ⟨(some 20), none, false, (.bin .int .xor (.tmp 16) (.tmp 19))⟩, ⟨(some 5), none, false, (.mov (.tmp 20))⟩]) .skip)))) (.ops [⟨(some 21), none, false, (.bin .int .add (.tmp 8) (.const (.int .i64 1)))⟩, ⟨(some 8), none, false, (.mov (.tmp 21))⟩]))))))) (.seq (.seq (.ops [⟨(some 7), none, false, (.mov (.const (.int .i64 14)))⟩]) (.block 2 (.loop (.seq (.seq (.ops [⟨(some 22), none, false, (.mov (.tmp 7))⟩, ⟨(some 23), none, false, (.bin .int .geq (.tmp 22) (.const (.int .i64 8)))⟩]) (.cond (.tmp 23) .skip (.exit 2))) (.seq (.block 3 (.seq (.ops [⟨(some 26), none, false, (.mov (.tmp 5))⟩, ⟨(some 27), none, false, (.mov (.tmp 7))⟩, ⟨(some 28), none, false, (.bin .int .shr (.tmp 26) (.tmp 27))⟩, ⟨(some 29), none, false, (.bin .int .and (.tmp 28) (.const (.int .i64 1)))⟩, ⟨(some 30), none, false, (.bin .int .eql (.tmp 29) (.const (.int .i64 1)))⟩]) (.cond (.tmp 30) (.ops [⟨(some 31), none, false, (.mov (.tmp 5))⟩, ⟨(some 32), none, false, (.mov (.tmp 7))⟩, ⟨(some 33), none, false, (.bin .int .sub (.tmp 32) (.const (.int .i64 8)))⟩, ⟨(some 34), none, false, (.bin .int .shl (.const (.int .i64 283)) (.tmp 33))⟩, ⟨(some 35), none, false, (.bin .int .xor (.tmp 31) (.tmp 34))⟩, ⟨(some 5), none, false, (.mov (.tmp 35))⟩]) .skip))) (.ops [⟨(some 24), none, false, (.mov (.tmp 7))⟩, ⟨(some 25), none, false, (.bin .int .sub (.tmp 24) (.const (.int .i64 1)))⟩, ⟨(some 7), none, false, (.mov (.tmp 25))⟩])))))) (.seq (.ops [⟨(some 36), none, false, (.mov (.tmp 5))⟩, ⟨(some 4), none, false, (.mov (.tmp 36))⟩]) .ret)))))
def m74 : MFun := ⟨k74, [(.tmp 4)]⟩
theorem c74 : compFn Try.prog Try.f74 = some m74 := by kernel_rfl
def k101 : MCode := (.seq (.ops [⟨(some 2), none, false, (.mov (.const (.int .i64 0)))⟩]) (.seq (.seq (.ops [⟨(some 4), none, false, (.mov (.const (.int .i64 0)))⟩]) (.block 0 (.loop (.seq (.ops [⟨(some 5), none, false, (.bin .int .lss (.tmp 4) (.const (.int .i64 256)))⟩]) (.seq (.cond (.tmp 5) .skip (.exit 0)) (.seq (.block 1 (.seq (.ops [⟨(some 6), none, false, (.mov (.tmp 4))⟩, ⟨(some 3), none, false, (.mov (.tmp 6))⟩]) (.seq (.ops [⟨(some 7), none, false, (.mov (.tmp 0))⟩, ⟨(some 8), none, false, (.mov (.tmp 3))⟩, ⟨(some 9), none, false, (.call false (.func 74) [(.tmp 7), (.tmp 8)])⟩, ⟨(some 10), none, false, (.bin .int .eql (.tmp 9) (.const (.int .i64 1)))⟩]) (.cond (.tmp 10) (.seq (.ops [⟨(some 11), none, false, (.mov (.tmp 3))⟩, ⟨(some 2), none, false, (.mov (.tmp 11))⟩]) .ret) .skip)))) (.ops [⟨(some 12), none, false, (.bin .int .add (.tmp 4) (.const (.int .i64 1)))⟩, ⟨(some 4), none, false, (.mov (.tmp 12))⟩]))))))) (.seq (.ops [⟨(some 2), none, false, (.mov (.const (.int .i64 0)))⟩]) .ret)))
def m101 : MFun := ⟨k101, [(.tmp 2)]⟩
theorem c101 : compFn Try.prog Try.f101 = some m101 := by kernel_rfl
def k100 : MCode := (.seq (.ops [⟨(some 4), none, false, (.mov (.const (.slice none 0 0)))⟩]) (.seq (.ops [⟨(some 10), none, false, (.mov (.tmp 0))⟩, ⟨(some 11), none, false, (.len (.tmp 10))⟩, ⟨(some 12), none, false, (.mkSlice [(.int .u8 0)] 1 1 (.tmp 11) (.tmp 11))⟩, ⟨(some 5), none, false, (.mov (.tmp 12))⟩]) (.seq (.seq (.ops [⟨(some 13), none, false, (.mov (.tmp 0))⟩, ⟨(some 14), none, false, (.len (.tmp 13))⟩, ⟨(some 15), none, false, (.mov (.const (.int .i64 0)))⟩]) (.block 0 (.loop (.seq (.ops [⟨(some 16), none, false, (.bin .int .lss (.tmp 15) (.tmp 14))⟩]) (.seq (.cond (.tmp 16) .skip (.exit 0)) (.seq (.block 1 (.seq (.ops [⟨(some 17), none, false, (.mov (.tmp 15))⟩, ⟨(some 18), none, false, (.idxS 2 (.tmp 13) (.tmp 15))⟩, ⟨(some 19), none, false, (.load true 2 (.tmp 18))⟩, ⟨(some 7), none, false, (.alloc [(.int .i64 0), (.string ⟨#[]⟩)] 1)⟩, ⟨(some 6), none, false, (.mov (.tmp 17))⟩, ⟨none, none, false, (.store 2 (.tmp 7) (.tmp 19))⟩]) (.seq (.ops [⟨(some 20), none, false, (.mov (.tmp 5))⟩, ⟨(some 21), none, false, (.mov (.tmp 6))⟩, ⟨(some 22), none, false, (.idxS 1 (.tmp 20) (.tmp 21))⟩, ⟨none, none, false, (.store 1 (.tmp 22) (.const (.int .u8 1)))⟩]) (.seq (.ops [⟨(some 23), none, false, (.mov (.tmp 0))⟩, ⟨(some 24), none, false, (.len (.tmp 23))⟩, ⟨(some 25), none, false, (.mov (.const (.int .i64 0)))⟩]) (.block 2 (.loop (.seq (.ops [⟨(some 26), none, false, (.bin .int .lss (.tmp 25) (.tmp 24))⟩]) (.seq (.cond (.tmp 26) .skip (.exit 2)) (.seq (.block 3 (.seq (.ops [⟨(some 27), none, false, (.mov (.tmp 25))⟩, ⟨(some 28), none, false, (.idxS 2 (.tmp 23) (.tmp 25))⟩, ⟨(some 29), none, false, (.load true 2 (.tmp 28))⟩, ⟨(some 9), none, false, (.alloc [(.int .i64 0), (.string ⟨#[]⟩)] 1)⟩, ⟨(some 8), none, false, (.mov (.tmp 27))⟩, ⟨none, none, false, (.store 2 (.tmp 9) (.tmp 29))⟩]) (.seq (.ops [⟨(some 30), none, false, (.mov (.tmp 8))⟩, ⟨(some 31), none, false, (.mov (.tmp 6))⟩, ⟨(some 32), none, false, (.bin .int .neq (.tmp 30) (.tmp 31))⟩]) (.cond (.tmp 32) (.opsD [⟨(some 33), none, false, (.mov (.tmp 5))⟩, ⟨(some 34), none, false, (.mov (.tmp 6))⟩, ⟨(some 35), none, false, (.mov (.tmp 5))⟩, ⟨(some 36), none, false, (.mov (.tmp 6))⟩, ⟨(some 37), none, false, (.idxS 1 (.tmp 35) (.tmp 36))⟩, ⟨(some 38), none, false, (.load false 1 (.tmp 37))⟩, ⟨(some 39), none, false, (.mov (.tmp 1))⟩, ⟨(some 40), none, false, (.addOff 0 (.tmp 9))⟩, ⟨(some 41), none, false, (.load false 1 (.tmp 40))⟩, ⟨(some 42), none, false, (.conv .u8 (.tmp 41))⟩, ⟨(some 43), none, false, (.bin .int .xor (.tmp 39) (.tmp 42))⟩, ⟨(some 44), none, false, (.addOff 0 (.tmp 7))⟩, ⟨(some 45), none, false, (.load false 1 (.tmp 44))⟩, ⟨(some 46), none, false, (.conv .u8 (.tmp 45))⟩, ⟨(some 47), none, false, (.addOff 0 (.tmp 9))⟩, ⟨(some 48), none, false, (.load false 1 (.tmp 47))⟩, ⟨(some 49), none, false, (.conv .u8 (.tmp 48))⟩, ⟨(some 50), none, false, (.bin .int .xor (.tmp 46) (.tmp 49))⟩, ⟨(some 51), none, false, (.call true (.func 117) [(.tmp 50)])⟩, ⟨(some 52), none, false, (.call true (.func 73) [(.tmp 43), (.tmp 51)])⟩, ⟨(some 53), none, false, (.call false (.func 73) [(.tmp 38), (.tmp 52)])⟩, ⟨(some 54), none, false, (.idxS 1 (.tmp 33) (.tmp 34))⟩, ⟨none, none, false, (.store 1 (.tmp 54) (.tmp 53))⟩]) .skip)))) (.ops [⟨(some 55), none, false, (.bin .int .add (.tmp 25) (.const (.int .i64 1)))⟩, ⟨(some 25), none, false, (.mov (.tmp 55))⟩])))))))))) (.ops [⟨(some 56), none, false, (.bin .int .add (.tmp 15) (.const (.int .i64 1)))⟩, ⟨(some 15), none, false, (.mov (.tmp 56))⟩]))))))) (.seq (.ops [⟨(some 57), none, false, (.mov (.tmp 5))⟩, ⟨(some 4), none, false, (.mov (.tmp 57))⟩]) .ret))))
def m100 : MFun := ⟨k100, [(.tmp 4)]⟩
theorem c100 : compFn Try.prog Try.f100 = some m100 := by kernel_rfl
def k70 : MCode := (.seq (.ops [⟨(some 4), none, false, (.mov (.const (.string ⟨#[]⟩)))⟩]) (.seq (.ops [⟨(some 10), none, false, (.mov (.tmp 0))⟩, ⟨(some 11), none, false, (.mov (.tmp 1))⟩, ⟨(some 12), none, false, (.call false (.func 100) [(.tmp 10), (.tmp 11)])⟩, ⟨(some 5), none, false, (.mov (.tmp 12))⟩]) (.seq (.ops [⟨(some 13), none, false, (.mov (.tmp 0))⟩, ⟨(some 14), none, false, (.idxS 2 (.tmp 13) (.const (.int .i64 0)))⟩, ⟨(some 15), none, false, (.addOff 1 (.tmp 14))⟩, ⟨(some 16), none, false, (.load false 1 (.tmp 15))⟩, ⟨(some 17), none, false, (.lenStr (.tmp 16))⟩, ⟨(some 18), none, false, (.mkSlice [(.int .u8 0)] 1 1 (.tmp 17) (.tmp 17))⟩, ⟨(some 6), none, false, (.mov (.tmp 18))⟩]) (.seq (.seq (.ops [⟨(some 19), none, false, (.mov (.tmp 0))⟩, ⟨(some 20), none, false, (.len (.tmp 19))⟩, ⟨(some 21), none, false, (.mov (.const (.int .i64 0)))⟩]) (.block 0 (.loop (.seq (.ops [⟨(some 22), none, false, (.bin .int .lss (.tmp 21) (.tmp 20))⟩]) (.seq (.cond (.tmp 22) .skip (.exit 0)) (.seq (.block 1 (.seq (.ops [⟨(some 23), none, false, (.mov (.tmp 21))⟩, ⟨(some 24), none, false, (.idxS 2 (.tmp 19) (.tmp 21))⟩, ⟨(some 25), none, false, (.load true 2 (.tmp 24))⟩, ⟨(some 8), none, false, (.alloc [(.int .i64 0), (.string ⟨#[]⟩)] 1)⟩, ⟨(some 7), none, false, (.mov (.tmp 23))⟩, ⟨none, none, false, (.store 2 (.tmp 8) (.tmp 25))⟩]) (.seq (.ops [⟨(some 26), none, false, (.mov (.tmp 6))⟩, ⟨(some 27), none, false, (.len (.tmp 26))⟩, ⟨(some 28), none, false, (.mov (.const (.int .i64 0)))⟩]) (.block 2 (.loop (.seq (.ops [⟨(some 29), none, false, (.bin .int .lss (.tmp 28) (.tmp 27))⟩]) (.seq (.cond (.tmp 29) .skip (.exit 2)) (.seq (.block 3 (.seq (.ops [⟨(some 30), none, false, (.mov (.tmp 28))⟩, ⟨(some 9), none, false, (.mov (.tmp 30))⟩]) (.opsD [⟨(some 31), none, false, (.mov (.tmp 6))⟩, ⟨(some 32), none, false, (.mov (.tmp 9))⟩, ⟨(some 33), none, false, (.idxS 1 (.tmp 31) (.tmp 32))⟩, ⟨(some 34), none, false, (.load false 1 (.tmp 33))⟩, ⟨(some 35), none, false, (.mov (.tmp 5))⟩, ⟨(some 36), none, false, (.mov (.tmp 7))⟩, ⟨(some 37), none, false, (.idxS 1 (.tmp 35) (.tmp 36))⟩, ⟨(some 38), none, false, (.load false 1 (.tmp 37))⟩, ⟨(some 39), none, false, (.addOff 1 (.tmp 8))⟩, ⟨(some 40), none, false, (.load false 1 (.tmp 39))⟩, ⟨(some 41), none, false, (.mov (.tmp 9))⟩, ⟨(some 42), none, false, (.strIdx (.tmp 40) (.tmp 41))⟩, ⟨(some 43), none, false, (.call true (.func 73) [(.tmp 38), (.tmp 42)])⟩, ⟨(some 44), none, false, (.bin .int .xor (.tmp 34) (.tmp 43))⟩, ⟨(some 45), none, false, (.idxS 1 (.tmp 31) (.tmp 32))⟩, ⟨none, none, false, (.store 1 (.tmp 45) (.tmp 44))⟩]))) (.ops [⟨(some 46), none, false, (.bin .int .add (.tmp 28) (.const (.int .i64 1)))⟩, ⟨(some 28), none, false, (.mov (.tmp 46))⟩]))))))))) (.ops [⟨(some 47), none, false, (.bin .int .add (.tmp 21) (.const (.int .i64 1)))⟩, ⟨(some 21), none, false, (.mov (.tmp 47))⟩]))))))) (.seq (.ops [⟨(some 48), none, false, (.mov (.tmp 6))⟩, ⟨(some 49), none, false, (.toStr (.tmp 48))⟩, ⟨(some 4), none, false, (.mov (.tmp 49))⟩]) .ret)))))
def m70 : MFun := ⟨k70, [(.tmp 4)]⟩
theorem c70 : compFn Try.prog Try.f70 = some m70 := by kernel_rfl
def k72 : MCode := (.seq (.ops [⟨(some 8), none, false, (.mov (.const (.int .i64 0)))⟩]) (.seq (.ops [⟨(some 9), none, false, (.mov (.const (.int .i64 0)))⟩]) (.seq (.seq (.ops [⟨(some 13), none, false, (.mov (.tmp 1))⟩, ⟨(some 14), none, false, (.mov (.const (.int .i64 0)))⟩]) (.block 0 (.loop (.seq (.ops [⟨(some 15), none, false, (.bin .int .lss (.tmp 14) (.tmp 13))⟩]) (.seq (.cond (.tmp 15) .skip (.exit 0)) (.seq (.block 1 (.seq (.ops [⟨(some 16), none, false, (.mov (.tmp 14))⟩, ⟨(some 10), none, false, (.mov (.tmp 16))⟩]) (.seq (.ops [⟨(some 17), none, false, (.mov (.tmp 0))⟩, ⟨(some 18), none, false, (.mov (.tmp 10))⟩, ⟨(some 19), none, false, (.idxS 2 (.tmp 17) (.tmp 18))⟩, ⟨(some 20), none, false, (.addOff 1 (.tmp 19))⟩, ⟨(some 21), none, false, (.load false 1 (.tmp 20))⟩, ⟨(some 22), none, false, (.mov (.tmp 2))⟩, ⟨(some 23), none, false, (.strIdx (.tmp 21) (.tmp 22))⟩, ⟨(some 24), none, false, (.conv .i64 (.tmp 23))⟩, ⟨(some 11), none, false, (.mov (.tmp 24))⟩]) (.seq (.seq (.ops [⟨(some 25), none, false, (.mov (.tmp 1))⟩, ⟨(some 26), none, false, (.mov (.const (.int .i64 0)))⟩]) (.block 2 (.loop (.seq (.ops [⟨(some 27), none, false, (.bin .int .lss (.tmp 26) (.tmp 25))⟩]) (.seq (.cond (.tmp 27) .skip (.exit 2)) (.seq (.block 3 (.seq (.ops [⟨(some 28), none, false, (.mov (.tmp 26))⟩, ⟨(some 12), none, false, (.mov (.tmp 28))⟩]) (.seq (.ops [⟨(some 29), none, false, (.mov (.tmp 12))⟩, ⟨(some 30), none, false, (.mov (.tmp 10))⟩, ⟨(some 31), none, false, (.bin .int .neq (.tmp 29) (.tmp 30))⟩]) (.cond (.tmp 31) (.opsD [⟨(some 32), none, false, (.mov (.tmp 11))⟩, ⟨(some 33), none, false, (.mov (.tmp 3))⟩, ⟨(some 34), none, false, (.mov (.tmp 0))⟩, ⟨(some 35), none, false, (.mov (.tmp 12))⟩, ⟨(some 36), none, false, (.idxS 2 (.tmp 34) (.tmp 35))⟩, ⟨(some 37), none, false, (.addOff 0 (.tmp 36))⟩, ⟨(some 38), none, false, (.load false 1 (.tmp 37))⟩, ⟨(some 39), none, false, (.bin .int .xor (.tmp 33) (.tmp 38))⟩, ⟨(some 40), none, false, (.mov (.tmp 0))⟩, ⟨(some 41), none, false, (.mov (.tmp 10))⟩, ⟨(some 42), none, false, (.idxS 2 (.tmp 40) (.tmp 41))⟩, ⟨(some 43), none, false, (.addOff 0 (.tmp 42))⟩, ⟨(some 44), none, false, (.load false 1 (.tmp 43))⟩, ⟨(some 45), none, false, (.mov (.tmp 0))⟩, ⟨(some 46), none, false, (.mov (.tmp 12))⟩, ⟨(some 47), none, false, (.idxS 2 (.tmp 45) (.tmp 46))⟩, ⟨(some 48), none, false, (.addOff 0 (.tmp 47))⟩, ⟨(some 49), none, false, (.load false 1 (.tmp 48))⟩, ⟨(some 50), none, false, (.bin .int .xor (.tmp 44) (.tmp 49))⟩, ⟨(some 51), none, false, (.call true (.func 101) [(.tmp 50)])⟩, ⟨(some 52), none, false, (.call false (.func 74) [(.tmp 39), (.tmp 51)])⟩, ⟨(some 53), none, false, (.call false (.func 74) [(.tmp 32), (.tmp 52)])⟩, ⟨(some 11), none, false, (.mov (.tmp 53))⟩]) .skip)))) (.ops [⟨(some 54), none, false, (.bin .int .add (.tmp 26) (.const (.int .i64 1)))⟩, ⟨(some 26), none, false, (.mov (.tmp 54))⟩]))))))) (.ops [⟨(some 55), none, false, (.mov (.tmp 9))⟩, ⟨(some 56), none, false, (.mov (.tmp 11))⟩, ⟨(some 57), none, false, (.bin .int .xor (.tmp 55) (.tmp 56))⟩, ⟨(some 9), none, false, (.mov (.tmp 57))⟩]))))) (.ops [⟨(some 58), none, false, (.bin .int .add (.tmp 14) (.const (.int .i64 1)))⟩, ⟨(some 14), none, false, (.mov (.tmp 58))⟩]))))))) (.seq (.ops [⟨(some 59), none, false, (.mov (.tmp 9))⟩, ⟨(some 8), none, false, (.mov (.tmp 59))⟩]) .ret))))
def m72 : MFun := ⟨k72, [(.tmp 8)]⟩
theorem c72 : compFn Try.prog Try.f72 = some m72 := by kernel_rfl
def k32 : MCode := (.seq (.ops [⟨(some 4), none, false, (.mov (.const (.string ⟨#[]⟩)))⟩, ⟨(some 5), none, false, (.mov (.const (.int .i64 0)))⟩]) (.seq (.block 0 (.seq (.ops [⟨(some 12), none, false, (.mov (.tmp 1))⟩, ⟨(some 13), none, false, (.bin .int .lss (.tmp 12) (.const (.int .i64 1)))⟩, ⟨(some 14), none, false, (.mov (.tmp 13))⟩, ⟨(some 15), (some (14, false)), false, (.mov (.tmp 1))⟩, ⟨(some 16), (some (14, false)), false, (.bin .int .gtr (.tmp 15) (.const (.int .i64 255)))⟩, ⟨(some 17), none, false, (.pick (.tmp 14) (.const (.bool true)) (.tmp 16))⟩, ⟨(some 11), none, false, (.mov (.tmp 17))⟩]) (.cond (.tmp 11) (.seq (.ops [⟨(some 4), none, false, (.mov (.const (.string ⟨#[]⟩)))⟩, ⟨(some 5), none, false, (.mov (.const (.int .i64 7)))⟩]) .ret) (.seq (.ops [⟨(some 19), none, false, (.mov (.tmp 0))⟩, ⟨(some 20), none, false, (.len (.tmp 19))⟩, ⟨(some 21), none, false, (.mov (.tmp 1))⟩, ⟨(some 22), none, false, (.bin .int .lss (.tmp 20) (.tmp 21))⟩, ⟨(some 18), none, false, (.mov (.tmp 22))⟩]) (.cond (.tmp 18) (.seq (.ops [⟨(some 4), none, false, (.mov (.const (.string ⟨#[]⟩)))⟩, ⟨(some 5), none, false, (.mov (.const (.int .i64 3)))⟩]) .ret) (.seq (.ops [⟨(some 24), none, false, (.mov (.tmp 0))⟩, ⟨(some 25), none, false, (.len (.tmp 24))⟩, ⟨(some 26), none, false, (.bin .int .gtr (.tmp 25) (.const (.int .i64 255)))⟩, ⟨(some 23), none, false, (.mov (.tmp 26))⟩]) (.cond (.tmp 23) (.seq (.ops [⟨(some 4), none, false, (.mov (.const (.string ⟨#[]⟩)))⟩, ⟨(some 5), none, false, (.mov (.const (.int .i64 8)))⟩]) .ret) .skip))))))) (.seq (.ops [⟨(some 6), none, false, (.alloc (List.replicate 256 (.bool false)) 1)⟩]) (.seq (.seq (.ops [⟨(some 27), none, false, (.mov (.tmp 0))⟩, ⟨(some 28), none, false, (.len (.tmp 27))⟩, ⟨(some 29), none, false, (.mov (.const (.int .i64 0)))⟩]) (.block 1 (.loop (.seq (.ops [⟨(some 30), none, false, (.bin .int .lss (.tmp 29) (.tmp 28))⟩]) (.seq (.cond (.tmp 30) .skip (.exit 1)) (.seq (.block 2 (.seq (.ops [⟨(some 31), none, false, (.idxS 2 (.tmp 27) (.tmp 29))⟩, ⟨(some 32), none, false, (.load true 2 (.tmp 31))⟩, ⟨(some 8), none, false, (.alloc [(.int .i64 0), (.string ⟨#[]⟩)] 1)⟩, ⟨none, none, false, (.store 2 (.tmp 8) (.tmp 32))⟩]) (.seq (.block 3 (.seq (.ops [⟨(some 34), none, false, (.addOff 0 (.tmp 8))⟩, ⟨(some 35), none, false, (.load false 1 (.tmp 34))⟩, ⟨(some 36), none, false, (.bin .int .lss (.tmp 35) (.const (.int .i64 1)))⟩, ⟨(some 37), none, false, (.mov (.tmp 36))⟩, ⟨(some 38), (some (37, false)), false, (.addOff 0 (.tmp 8))⟩, ⟨(some 39), (some (37, false)), false, (.load false 1 (.tmp 38))⟩, ⟨(some 40), (some (37, false)), false, (.bin .int .gtr (.tmp 39) (.const (.int .i64 255)))⟩, ⟨(some 41), none, false, (.pick (.tmp 37) (.const (.bool true)) (.tmp 40))⟩, ⟨(some 33), none, false, (.mov (.tmp 41))⟩]) (.cond (.tmp 33) (.seq (.ops [⟨(some 4), none, false, (.mov (.const (.string ⟨#[]⟩)))⟩, ⟨(some 5), none, false, (.mov (.const (.int .i64 7)))⟩]) .ret) (.seq (.ops [⟨(some 43), none, false, (.addOff 0 (.tmp 8))⟩, ⟨(some 44), none, false, (.load false 1 (.tmp 43))⟩, ⟨(some 45), none, false, (.idxA 256 1 (.tmp 6) (.tmp 44))⟩, ⟨(some 46), none, false, (.load false 1 (.tmp 45))⟩, ⟨(some 42), none, false, (.mov (.tmp 46))⟩]) (.cond (.tmp 42) (.seq (.ops [⟨(some 4), none, false, (.mov (.const (.string ⟨#[]⟩)))⟩, ⟨(some 5), none, false, (.mov (.const (.int .i64 4)))⟩]) .ret) (.seq (.opsD [⟨(some 48), none, false, (.addOff 1 (.tmp 8))⟩, ⟨(some 49), none, false, (.load false 1 (.tmp 48))⟩, ⟨(some 50), none, false, (.bin .str .eql (.tmp 49) (.const (.string ⟨#[]⟩)))⟩, ⟨(some 51), none, false, (.mov (.tmp 50))⟩, ⟨(some 52), (some (51, false)), false, (.addOff 1 (.tmp 8))⟩, ⟨(some 53), (some (51, false)), false, (.load false 1 (.tmp 52))⟩, ⟨(some 54), (some (51, false)), false, (.lenStr (.tmp 53))⟩, ⟨(some 55), (some (51, false)), false, (.bin .int .gtr (.tmp 54) (.const (.int .i64 1024)))⟩, ⟨(some 56), none, false, (.pick (.tmp 51) (.const (.bool true)) (.tmp 55))⟩, ⟨(some 57), none, false, (.mov (.tmp 56))⟩, ⟨(some 58), (some (57, false)), false, (.addOff 1 (.tmp 8))⟩, ⟨(some 59), (some (57, false)), false, (.load false 1 (.tmp 58))⟩, ⟨(some 60), (some (57, false)), false, (.lenStr (.tmp 59))⟩, ⟨(some 61), (some (57, false)), false, (.mov (.tmp 0))⟩, ⟨(some 62), (some (57, false)), false, (.idxS 2 (.tmp 61) (.const (.int .i64 0)))⟩, ⟨(some 63), (some (57, false)), false, (.addOff 1 (.tmp 62))⟩, ⟨(some 64), (some (57, false)), false, (.load false 1 (.tmp 63))⟩, ⟨(some 65), (some (57, false)), false, (.lenStr (.tmp 64))⟩, ⟨(some 66), (some (57, false)), false, (.bin .int .neq (.tmp 60) (.tmp 65))⟩, ⟨(some 67), none, false, (.pick (.tmp 57) (.const (.bool true)) (.tmp 66))⟩, ⟨(some 47), none, false, (.mov (.tmp 67))⟩]) (.cond (.tmp 47) (.seq (.ops [⟨(some 4), none, false, (.mov (.const (.string ⟨#[]⟩)))⟩, ⟨(some 5), none, false, (.mov (.const (.int .i64 6)))⟩]) .ret) .skip))))))) (.ops [⟨(some 68), none, false, (.addOff 0 (.tmp 8))⟩, ⟨(some 69), none, false, (.load false 1 (.tmp 68))⟩, ⟨(some 70), none, false, (.idxA 256 1 (.tmp 6) (.tmp 69))⟩, ⟨none, none, false, (.store 1 (.tmp 70) (.const (.bool true)))⟩])))) (.ops [⟨(some 71), none, false, (.bin .int .add (.tmp 29) (.const (.int .i64 1)))⟩, ⟨(some 29), none, false, (.mov (.tmp 71))⟩]))))))) (.seq (.seq (.ops [⟨(some 72), none, false, (.mov (.tmp 0))⟩, ⟨(some 73), none, false, (.mov (.tmp 1))⟩, ⟨(some 74), none, false, (.sliceS 2 (.tmp 72) (some (.tmp 73)) none)⟩, ⟨(some 75), none, false, (.len (.tmp 74))⟩, ⟨(some 76), none, false, (.mov (.const (.int .i64 0)))⟩]) (.block 4 (.loop (.seq (.ops [⟨(some 77), none, false, (.bin .int .lss (.tmp 76) (.tmp 75))⟩]) (.seq (.cond (.tmp 77) .skip (.exit 4)) (.seq (.block 5 (.seq (.ops [⟨(some 78), none, false, (.idxS 2 (.tmp 74) (.tmp 76))⟩, ⟨(some 79), none, false, (.load true 2 (.tmp 78))⟩, ⟨(some 10), none, false, (.alloc [(.int .i64 0), (.string ⟨#[]⟩)] 1)⟩, ⟨none, none, false, (.store 2 (.tmp 10) (.tmp 79))⟩]) (.seq (.opsD [⟨(some 80), none, false, (.mov (.tmp 0))⟩, ⟨(some 81), none, false, (.mov (.tmp 1))⟩, ⟨(some 82), none, false, (.sliceS 2 (.tmp 80) none (some (.tmp 81)))⟩, ⟨(some 83), none, false, (.addOff 0 (.tmp 10))⟩, ⟨(some 84), none, false, (.load false 1 (.tmp 83))⟩, ⟨(some 85), none, false, (.conv .u8 (.tmp 84))⟩, ⟨(some 86), none, false, (.call true (.func 70) [(.tmp 82), (.tmp 85)])⟩, ⟨(some 87), none, false, (.addOff 1 (.tmp 10))⟩, ⟨(some 88), none, true, (.load false 1 (.tmp 87))⟩, ⟨(some 89), none, false, (.bin .str .neq (.tmp 86) (.tmp 88))⟩]) (.cond (.tmp 89) (.seq (.ops [⟨(some 4), none, false, (.mov (.const (.string ⟨#[]⟩)))⟩, ⟨(some 5), none, false, (.mov (.const (.int .i64 18)))⟩]) .ret) .skip)))) (.ops [⟨(some 90), none, false, (.bin .int .add (.tmp 76) (.const (.int .i64 1)))⟩, ⟨(some 76), none, false, (.mov (.tmp 90))⟩]))))))) (.seq (.ops [⟨(some 91), none, false, (.mov (.tmp 0))⟩, ⟨(some 92), none, false, (.mov (.tmp 1))⟩, ⟨(some 93), none, false, (.sliceS 2 (.tmp 91) none (some (.tmp 92)))⟩, ⟨(some 94), none, false, (.call false (.func 70) [(.tmp 93), (.const (.int .u8 0))])⟩, ⟨(some 4), none, false, (.mov (.tmp 94))⟩, ⟨(some 5), none, false, (.mov (.const (.int .i64 0)))⟩]) .ret))))))
def m32 : MFun := ⟨k32, [(.tmp 4), (.tmp 5)]⟩
theorem c32 : compFn Try.prog Try.f32 = some m32 := by kernel_rfl
def k35 : MCode := (.seq (.ops [⟨(some 4), none, false, (.mov (.const (.string ⟨#[]⟩)))⟩, ⟨(some 5), none, false, (.mov (.const (.bool false)))⟩]) (.seq (.ops [⟨(some 6), none, false, (.mov (.const (.string ⟨#[]⟩)))⟩]) (.seq (.seq (.ops [⟨(some 10), none, false, (.mov (.tmp 0))⟩, ⟨(some 11), none, false, (.idxS 2 (.tmp 10) (.const (.int .i64 0)))⟩, ⟨(some 12), none, false, (.addOff 1 (.tmp 11))⟩, ⟨(some 13), none, false, (.load false 1 (.tmp 12))⟩, ⟨(some 14), none, false, (.lenStr (.tmp 13))⟩, ⟨(some 15), none, false, (.mov (.const (.int .i64 0)))⟩]) (.block 0 (.loop (.seq (.ops [⟨(some 16), none, false, (.bin .int .lss (.tmp 15) (.tmp 14))⟩]) (.seq (.cond (.tmp 16) .skip (.exit 0)) (.seq (.block 1 (.seq (.ops [⟨(some 17), none, false, (.mov (.tmp 15))⟩, ⟨(some 7), none, false, (.mov (.tmp 17))⟩]) (.seq (.ops [⟨(some 18), none, false, (.mov (.tmp 6))⟩, ⟨(some 19), none, false, (.mov (.tmp 0))⟩, ⟨(some 20), none, false, (.mov (.tmp 1))⟩, ⟨(some 21), none, false, (.mov (.tmp 7))⟩, ⟨(some 22), none, false, (.call false (.func 72) [(.tmp 19), (.tmp 20), (.tmp 21), (.const (.int .i64 0))])⟩, ⟨(some 23), none, false, (.conv .u8 (.tmp 22))⟩, ⟨(some 24), none, false, (.buildSlice [(.int .u8 0)] 1 1 [(0, (1, (.tmp 23)))])⟩, ⟨(some 25), none, false, (.toStr (.tmp 24))⟩, ⟨(some 26), none, false, (.bin .str .add (.tmp 18) (.tmp 25))⟩, ⟨(some 6), none, false, (.mov (.tmp 26))⟩]) (.seq (.ops [⟨(some 27), none, false, (.mov (.tmp 0))⟩, ⟨(some 28), none, false, (.mov (.tmp 1))⟩, ⟨(some 29), none, false, (.sliceS 2 (.tmp 27) (some (.tmp 28)) none)⟩, ⟨(some 30), none, false, (.len (.tmp 29))⟩, ⟨(some 31), none, false, (.mov (.const (.int .i64 0)))⟩]) (.block 2 (.loop (.seq (.ops [⟨(some 32), none, false, (.bin .int .lss (.tmp 31) (.tmp 30))⟩]) (.seq (.cond (.tmp 32) .skip (.exit 2)) (.seq (.block 3 (.seq (.ops [⟨(some 33), none, false, (.idxS 2 (.tmp 29) (.tmp 31))⟩, ⟨(some 34), none, false, (.load true 2 (.tmp 33))⟩, ⟨(some 9), none, false, (.alloc [(.int .i64 0), (.string ⟨#[]⟩)] 1)⟩, ⟨none, none, false, (.store 2 (.tmp 9) (.tmp 34))⟩]) (.seq (.opsD [⟨(some 35), none, false, (.mov (.tmp 0))⟩, ⟨(some 36), none, false, (.mov (.tmp 1))⟩, ⟨(some 37), none, false, (.mov (.tmp 7))⟩, ⟨(some 38), none, false, (.addOff 0 (.tmp 9))⟩, ⟨(some 39), none, false, (.load false 1 (.tmp 38))⟩, ⟨(some 40), none, false, (.call true (.func 72) [(.tmp 35), (.tmp 36), (.tmp 37), (.tmp 39)])⟩, ⟨(some 41), none, false, (.addOff 1 (.tmp 9))⟩, ⟨(some 42), none, true, (.load false 1 (.tmp 41))⟩, ⟨(some 43), none, false, (.mov (.tmp 7))⟩, ⟨(some 44), none, false, (.strIdx (.tmp 42) (.tmp 43))⟩, ⟨(some 45), none, false, (.conv .i64 (.tmp 44))⟩, ⟨(some 46), none, false, (.bin .int .neq (.tmp 40) (.tmp 45))⟩]) (.cond (.tmp 46) (.seq (.ops [⟨(some 4), none, false, (.mov (.const (.string ⟨#[]⟩)))⟩, ⟨(some 5), none, false, (.mov (.const (.bool false)))⟩]) .ret) .skip)))) (.ops [⟨(some 47), none, false, (.bin .int .add (.tmp 31) (.const (.int .i64 1)))⟩, ⟨(some 31), none, false, (.mov (.tmp 47))⟩])))))))))) (.ops [⟨(some 48), none, false, (.bin .int .add (.tmp 15) (.const (.int .i64 1)))⟩, ⟨(some 15), none, false, (.mov (.tmp 48))⟩]))))))) (.seq (.ops [⟨(some 49), none, false, (.mov (.tmp 6))⟩, ⟨(some 4), none, false, (.mov (.tmp 49))⟩, ⟨(some 5), none, false, (.mov (.const (.bool true)))⟩]) .ret))))
def m35 : MFun := ⟨k35, [(.tmp 4), (.tmp 5)]⟩
theorem c35 : compFn Try.prog Try.f35 = some m35 := by kernel_rfl
def k33 : MCode := (.seq (.ops [⟨(some 4), none, false, (.mov (.const (.bool false)))⟩]) (.seq (.ops [⟨(some 5), none, false, (.mov (.tmp 0))⟩, ⟨(some 6), none, false, (.mov (.tmp 1))⟩, ⟨(some 7), none, false, (.call false (.func 71) [(.tmp 5), (.tmp 6)])⟩, ⟨(some 8), none, false, (.bin .int .geq (.tmp 7) (.const (.int .i64 0)))⟩, ⟨(some 4), none, false, (.mov (.tmp 8))⟩]) .ret))
def m33 : MFun := ⟨k33, [(.tmp 4)]⟩
theorem c33 : compFn Try.prog Try.f33 = some m33 := by kernel_rfl
def k34 : MCode := (.seq (.ops [⟨(some 2), none, false, (.box 1 (.tmp 0))⟩, ⟨(some 3), none, false, (.mov (.const (.bool false)))⟩]) (.seq (.ops [⟨(some 4), none, false, (.addOff 0 (.tmp 2))⟩, ⟨(some 5), none, false, (.load false 1 (.tmp 4))⟩, ⟨(some 6), none, false, (.addOff 0 (.tmp 1))⟩, ⟨(some 7), none, false, (.load false 1 (.tmp 6))⟩, ⟨(some 8), none, false, (.bin .int .eql (.tmp 5) (.tmp 7))⟩, ⟨(some 3), none, false, (.mov (.tmp 8))⟩]) .ret))
def m34 : MFun := ⟨k34, [(.tmp 3)]⟩
theorem c34 : compFn Try.prog Try.f34 = some m34 := by kernel_rfl
def k71 : MCode := (.seq (.ops [⟨(some 4), none, false, (.mov (.const (.int .i64 0)))⟩]) (.seq (.seq (.ops [⟨(some 6), none, false, (.mov (.tmp 0))⟩, ⟨(some 7), none, false, (.len (.tmp 6))⟩, ⟨(some 8), none, false, (.mov (.const (.int .i64 0)))⟩]) (.block 0 (.loop (.seq (.ops [⟨(some 9), none, false, (.bin .int .lss (.tmp 8) (.tmp 7))⟩]) (.seq (.cond (.tmp 9) .skip (.exit 0)) (.seq (.block 1 (.seq (.ops [⟨(some 10), none, false, (.mov (.tmp 8))⟩, ⟨(some 5), none, false, (.mov (.tmp 10))⟩]) (.seq (.ops [⟨(some 11), none, false, (.mov (.tmp 1))⟩, ⟨(some 12), none, false, (.mov (.tmp 0))⟩, ⟨(some 13), none, false, (.mov (.tmp 5))⟩, ⟨(some 14), none, false, (.idxS 2 (.tmp 12) (.tmp 13))⟩, ⟨(some 15), none, false, (.load true 2 (.tmp 14))⟩, ⟨(some 16), none, false, (.call false (.tmp 11) [(.tmp 15)])⟩]) (.cond (.tmp 16) (.seq (.ops [⟨(some 17), none, false, (.mov (.tmp 5))⟩, ⟨(some 4), none, false, (.mov (.tmp 17))⟩]) .ret) .skip)))) (.ops [⟨(some 18), none, false, (.bin .int .add (.tmp 8) (.const (.int .i64 1)))⟩, ⟨(some 8), none, false, (.mov (.tmp 18))⟩]))))))) (.seq (.ops [⟨(some 4), none, false, (.mov (.const (.int .i64 (-1))))⟩]) .ret)))
def m71 : MFun := ⟨k71, [(.tmp 4)]⟩
theorem c71 : compFn Try.prog Try.f71 = some m71 := by kernel_rfl
def k7 : MCode := (.seq (.ops [⟨(some 4), none, false, (.mov (.const (.bool false)))⟩]) (.seq (.ops [⟨(some 14), none, false, (.mov (.tmp 0))⟩, ⟨(some 15), none, false, (.mov (.tmp 1))⟩, ⟨(some 16), none, false, (.call false (.func 32) [(.tmp 14), (.tmp 15)])⟩, ⟨(some 13), none, false, (.mov (.tmp 16))⟩, ⟨(some 17), none, false, (.extract (.tmp 13) 0)⟩, ⟨(some 18), none, false, (.extract (.tmp 13) 1)⟩, ⟨(some 5), none, false, (.mov (.tmp 17))⟩, ⟨(some 6), none, false, (.mov (.tmp 18))⟩]) (.seq (.ops [⟨(some 19), none, false, (.mov (.tmp 1))⟩, ⟨(some 20), none, false, (.call false (.func 14) [(.tmp 19), (.const (.int .i64 1)), (.const (.int .i64 255))])⟩, ⟨(some 21), none, false, (.un .not (.tmp 20))⟩, ⟨(some 22), none, false, (.call false (.func 21) [(.tmp 21), (.const (.int .i64 7))])⟩, ⟨(some 23), none, false, (.mov (.tmp 0))⟩, ⟨(some 24), none, false, (.len (.tmp 23))⟩, ⟨(some 25), none, false, (.mov (.tmp 1))⟩, ⟨(some 26), none, false, (.bin .int .lss (.tmp 24) (.tmp 25))⟩, ⟨(some 27), none, false, (.call false (.func 21) [(.tmp 26), (.const (.int .i64 3))])⟩, ⟨(some 28), none, false, (.mov (.tmp 0))⟩, ⟨(some 29), none, false, (.len (.tmp 28))⟩, ⟨(some 30), none, false, (.bin .int .gtr (.tmp 29) (.const (.int .i64 255)))⟩, ⟨(some 31), none, false, (.call false (.func 21) [(.tmp 30), (.const (.int .i64 8))])⟩, ⟨(some 32), none, false, (.buildSlice [(.int .i64 0), (.int .i64 0), (.int .i64 0)] 1 3 [(0, (1, (.tmp 22))), (1, (1, (.tmp 27))), (2, (1, (.tmp 31)))])⟩, ⟨(some 33), none, false, (.call false (.func 19) [(.tmp 32)])⟩, ⟨(some 7), none, false, (.mov (.tmp 33))⟩]) (.seq (.seq (.ops [⟨(some 34), none, false, (.mov (.tmp 0))⟩, ⟨(some 35), none, false, (.len (.tmp 34))⟩, ⟨(some 36), none, false, (.mov (.const (.int .i64 0)))⟩]) (.block 0 (.loop (.seq (.ops [⟨(some 37), none, false, (.bin .int .lss (.tmp 36) (.tmp 35))⟩]) (.seq (.cond (.tmp 37) .skip (.exit 0)) (.seq (.block 1 (.seq (.ops [⟨(some 38), none, false, (.mov (.tmp 36))⟩, ⟨(some 39), none, false, (.idxS 2 (.tmp 34) (.tmp 36))⟩, ⟨(some 40), none, false, (.load true 2 (.tmp 39))⟩, ⟨(some 9), none, false, (.alloc [(.int .i64 0), (.string ⟨#[]⟩)] 1)⟩, ⟨(some 8), none, false, (.mov (.tmp 38))⟩, ⟨none, none, false, (.store 2 (.tmp 9) (.tmp 40))⟩]) (.seq (.ops [⟨(some 41), none, false, (.mov (.tmp 0))⟩, ⟨(some 42), none, false, (.mov (.tmp 8))⟩, ⟨(some 43), none, false, (.sliceS 2 (.tmp 41) none (some (.tmp 42)))⟩, ⟨(some 44), none, false, (.mkFunc (.func 34) [] [(.tmp 9)])⟩, ⟨(some 45), none, false, (.call false (.func 33) [(.tmp 43), (.tmp 44)])⟩, ⟨(some 10), none, false, (.mov (.tmp 45))⟩]) (.opsD [⟨(some 46), none, false, (.mov (.tmp 7))⟩, ⟨(some 47), none, false, (.addOff 0 (.tmp 9))⟩, ⟨(some 48), none, false, (.load false 1 (.tmp 47))⟩, ⟨(some 49), none, false, (.call true (.func 14) [(.tmp 48), (.const (.int .i64 1)), (.const (.int .i64 255))])⟩, ⟨(some 50), none, false, (.un .not (.tmp 49))⟩, ⟨(some 51), none, false, (.call true (.func 21) [(.tmp 50), (.const (.int .i64 7))])⟩, ⟨(some 52), none, false, (.mov (.tmp 10))⟩, ⟨(some 53), none, false, (.call true (.func 21) [(.tmp 52), (.const (.int .i64 4))])⟩, ⟨(some 54), none, false, (.addOff 1 (.tmp 9))⟩, ⟨(some 55), none, true, (.load false 1 (.tmp 54))⟩, ⟨(some 56), none, false, (.bin .str .eql (.tmp 55) (.const (.string ⟨#[]⟩)))⟩, ⟨(some 57), none, false, (.mov (.tmp 56))⟩, ⟨(some 58), (some (57, false)), false, (.addOff 1 (.tmp 9))⟩, ⟨(some 59), (some (57, false)), false, (.load false 1 (.tmp 58))⟩, ⟨(some 60), (some (57, false)), false, (.lenStr (.tmp 59))⟩, ⟨(some 61), (some (57, false)), false, (.bin .int .gtr (.tmp 60) (.const (.int .i64 1024)))⟩, ⟨(some 62), none, false, (.pick (.tmp 57) (.const (.bool true)) (.tmp 61))⟩, ⟨(some 63), none, false, (.mov (.tmp 62))⟩, ⟨(some 64), (some (63, false)), false, (.addOff 1 (.tmp 9))⟩, ⟨(some 65), (some (63, false)), false, (.load false 1 (.tmp 64))⟩, ⟨(some 66), (some (63, false)), false, (.lenStr (.tmp 65))⟩, ⟨(some 67), (some (63, false)), false, (.mov (.tmp 0))⟩, ⟨(some 68), (some (63, false)), false, (.idxS 2 (.tmp 67) (.const (.int .i64 0)))⟩, ⟨(some 69), (some (63, false)), false, (.addOff 1 (.tmp 68))⟩, ⟨(some 70), (some (63, false)), false, (.load false 1 (.tmp 69))⟩, ⟨(some 71), (some (63, false)), false, (.lenStr (.tmp 70))⟩, ⟨(some 72), (some (63, false)), false, (.bin .int .neq (.tmp 66) (.tmp 71))⟩, ⟨(some 73), none, false, (.pick (.tmp 63) (.const (.bool true)) (.tmp 72))⟩, ⟨(some 74), none, false, (.call false (.func 21) [(.tmp 73), (.const (.int .i64 6))])⟩, ⟨(some 75), none, false, (.buildSlice [(.int .i64 0), (.int .i64 0), (.int .i64 0), (.int .i64 0)] 1 4 [(0, (1, (.tmp 46))), (1, (1, (.tmp 51))), (2, (1, (.tmp 53))), (3, (1, (.tmp 74)))])⟩, ⟨(some 76), none, false, (.call false (.func 19) [(.tmp 75)])⟩, ⟨(some 7), none, false, (.mov (.tmp 76))⟩])))) (.ops [⟨(some 77), none, false, (.bin .int .add (.tmp 36) (.const (.int .i64 1)))⟩, ⟨(some 36), none, false, (.mov (.tmp 77))⟩]))))))) (.seq (.seq (.ops [⟨(some 78), none, false, (.call false (.func 17) [])⟩, ⟨(some 79), none, false, (.un .not (.tmp 78))⟩, ⟨(some 80), none, false, (.mov (.tmp 79))⟩, ⟨(some 81), (some (80, false)), false, (.mov (.tmp 7))⟩, ⟨(some 82), (some (80, false)), false, (.bin .int .neq (.tmp 81) (.const (.int .i64 0)))⟩, ⟨(some 83), (some (80, false)), false, (.mov (.tmp 82))⟩, ⟨(some 84), (some (83, true)), false, (.mov (.tmp 7))⟩, ⟨(some 85), (some (83, true)), false, (.bin .int .neq (.tmp 84) (.const (.int .i64 3)))⟩, ⟨(some 86), (some (80, false)), false, (.pick (.tmp 83) (.tmp 85) (.const (.bool false)))⟩, ⟨(some 87), none, false, (.pick (.tmp 80) (.const (.bool true)) (.tmp 86))⟩, ⟨(some 88), none, false, (.mov (.tmp 87))⟩, ⟨(some 89), (some (88, false)), false, (.mov (.tmp 0))⟩, ⟨(some 90), (some (88, false)), false, (.len (.tmp 89))⟩, ⟨(some 91), (some (88, false)), false, (.bin .int .eql (.tmp 90) (.const (.int .i64 0)))⟩, ⟨(some 92), none, false, (.pick (.tmp 88) (.const (.bool true)) (.tmp 91))⟩, ⟨(some 93), none, false, (.mov (.tmp 92))⟩, ⟨(some 94), (some (93, false)), false, (.mov (.tmp 0))⟩, ⟨(some 95), (some (93, false)), false, (.len (.tmp 94))⟩, ⟨(some 96), (some (93, false)), false, (.bin .int .gtr (.tmp 95) (.const (.int .i64 20)))⟩, ⟨(some 97), none, false, (.pick (.tmp 93) (.const (.bool true)) (.tmp 96))⟩, ⟨(some 98), none, false, (.mov (.tmp 97))⟩, ⟨(some 99), (some (98, false)), false, (.mov (.tmp 0))⟩, ⟨(some 100), (some (98, false)), false, (.idxS 2 (.tmp 99) (.const (.int .i64 0)))⟩, ⟨(some 101), (some (98, false)), false, (.addOff 1 (.tmp 100))⟩, ⟨(some 102), (some (98, false)), false, (.load false 1 (.tmp 101))⟩, ⟨(some 103), (some (98, false)), false, (.lenStr (.tmp 102))⟩, ⟨(some 104), (some (98, false)), false, (.bin .int .gtr (.tmp 103) (.const (.int .i64 40)))⟩, ⟨(some 105), none, false, (.pick (.tmp 98) (.const (.bool true)) (.tmp 104))⟩]) (.cond (.tmp 105) (.seq (.ops [⟨(some 106), none, false, (.call false (.func 17) [])⟩, ⟨(some 107), none, false, (.mov (.tmp 106))⟩, ⟨(some 108), (some (107, true)), false, (.mov (.tmp 7))⟩, ⟨(some 109), (some (107, true)), false, (.bin .int .eql (.tmp 108) (.const (.int .i64 0)))⟩, ⟨(some 110), (some (107, true)), false, (.mov (.tmp 109))⟩, ⟨(some 111), (some (110, false)), false, (.mov (.tmp 5))⟩, ⟨(some 112), (some (110, false)), false, (.bin .str .eql (.tmp 111) (.const (.string ⟨#[]⟩)))⟩, ⟨(some 113), (some (110, false)), false, (.mov (.tmp 112))⟩, ⟨(some 114), (some (113, true)), false, (.mov (.tmp 6))⟩, ⟨(some 115), (some (113, true)), false, (.mov (.tmp 7))⟩, ⟨(some 116), (some (113, true)), false, (.bin .int .eql (.tmp 114) (.tmp 115))⟩, ⟨(some 117), (some (110, false)), false, (.pick (.tmp 113) (.tmp 116) (.const (.bool false)))⟩, ⟨(some 118), (some (107, true)), false, (.pick (.tmp 110) (.const (.bool true)) (.tmp 117))⟩, ⟨(some 119), none, false, (.pick (.tmp 107) (.tmp 118) (.const (.bool false)))⟩, ⟨(some 4), none, false, (.mov (.tmp 119))⟩]) .ret) .skip)) (.seq (.seq (.ops [⟨(some 120), none, false, (.mov (.tmp 7))⟩, ⟨(some 121), none, false, (.bin .int .neq (.tmp 120) (.const (.int .i64 0)))⟩]) (.cond (.tmp 121) (.seq (.ops [⟨(some 122), none, false, (.mov (.tmp 5))⟩, ⟨(some 123), none, false, (.bin .str .eql (.tmp 122) (.const (.string ⟨#[]⟩)))⟩, ⟨(some 124), none, false, (.mov (.tmp 123))⟩, ⟨(some 125), (some (124, true)), false, (.mov (.tmp 6))⟩, ⟨(some 126), (some (124, true)), false, (.mov (.tmp 7))⟩, ⟨(some 127), (some (124, true)), false, (.bin .int .eql (.tmp 125) (.tmp 126))⟩, ⟨(some 128), none, false, (.pick (.tmp 124) (.tmp 127) (.const (.bool false)))⟩, ⟨(some 4), none, false, (.mov (.tmp 128))⟩]) .ret) .skip)) (.seq (.ops [⟨(some 130), none, false, (.mov (.tmp 0))⟩, ⟨(some 131), none, false, (.mov (.tmp 1))⟩, ⟨(some 132), none, false, (.call false (.func 35) [(.tmp 130), (.tmp 131)])⟩, ⟨(some 129), none, false, (.mov (.tmp 132))⟩, ⟨(some 133), none, false, (.extract (.tmp 129) 0)⟩, ⟨(some 134), none, false, (.extract (.tmp 129) 1)⟩, ⟨(some 11), none, false, (.mov (.tmp 133))⟩, ⟨(some 12), none, false, (.mov (.tmp 134))⟩]) (.seq (.ops [⟨(some 135), none, false, (.mov (.tmp 5))⟩, ⟨(some 136), none, false, (.mov (.tmp 6))⟩, ⟨(some 137), none, false, (.mov (.tmp 11))⟩, ⟨(some 138), none, false, (.mov (.tmp 12))⟩, ⟨(some 139), none, false, (.un .not (.tmp 138))⟩, ⟨(some 140), none, false, (.call false (.func 21) [(.tmp 139), (.const (.int .i64 18))])⟩, ⟨(some 141), none, false, (.call false (.func 23) [(.tmp 135), (.tmp 136), (.tmp 137), (.tmp 140)])⟩, ⟨(some 4), none, false, (.mov (.tmp 141))⟩]) .ret))))))))
def m7 : MFun := ⟨k7, [(.tmp 4)]⟩
theorem c7 : compFn Try.prog Try.f7 = some m7 := by kernel_rfl
end Go.Proofs.Ytildhljhbbhmmaa.AM
namespace Go.Proofs.Ytildhljhbbhmmaa.AM
open Go
set_option linter.all false
set_option maxRecDepth 10000
variable {tbl : Tbl} [hT : TMono tbl]

theorem and8 (a b : UInt8) : bitsK .and .u8 (a.toNat : Int) (b.toNat : Int) = ((a &&& b).toNat : Int) := by
  simp only [bitsK, BitVec.toNat_and, ofInt_nat]
  have h1 := UInt8.toNat_lt a
  have h2 := UInt8.toNat_lt b
  have e1 : a.toNat % 2 ^ IntKind.u8.bits = a.toNat := Nat.mod_eq_of_lt h1
  have e2 : b.toNat % 2 ^ IntKind.u8.bits = b.toNat := Nat.mod_eq_of_lt h2
  rw [e1, e2, UInt8.toNat_and, IntKind.wrap_u8]
  have := Nat.and_lt_two_pow (n := 8) a.toNat h2
  omega
theorem shl8_1 (a : UInt8) : shiftK .shl .u8 (a.toNat : Int) 1 = ((a <<< 1).toNat : Int) := by
  have h : (a <<< 1).toNat = a.toNat * 2 % 256 := by
    rw [UInt8.toNat_shiftLeft, show (1 : UInt8).toNat % 8 = 1 from rfl, Nat.shiftLeft_eq]
  simp only [shiftK]
  rw [show (2 : Int) ^ Nat.min (1 : Int).toNat IntKind.u8.bits = 2 from rfl, IntKind.wrap_u8, h]
  omega
theorem shr8_1 (a : UInt8) : shiftK .shr .u8 (a.toNat : Int) 1 = ((a >>> 1).toNat : Int) := by
  have h : (a >>> 1).toNat = a.toNat / 2 := by
    rw [UInt8.toNat_shiftRight, show (1 : UInt8).toNat % 8 = 1 from rfl, Nat.shiftRight_eq_div_pow]
  simp only [shiftK]
  rw [show (2 : Int) ^ Nat.min (1 : Int).toNat IntKind.u8.bits = 2 from rfl, Int.fdiv_eq_ediv_of_nonneg _ (by omega), h]
  omega
theorem gML_none (a o : UInt8) : ∀ n, gML n a 0 o = o
  | 0 => rfl
  | n + 1 => by
    have := gML_none (gMx a) o n
    simp only [gML]
    rw [if_neg (by decide)]
    exact this
theorem v73 (h73 : tbl 73 = some (.code m73)) (a b : UInt8) (H : AH) : Val tbl 73 [.int .u8 (a.toNat : Int), .int .u8 (b.toNat : Int)] H (.int .u8 ((gM a b).toNat : Int)) H := by
  refine Val.of_all fun Q hQ => ?_
  rw [rn_fun h73, k73]
  simp only [go_sem, Nat.reduceEqDiff, Nat.reduceAdd, Nat.reduceLeDiff, Int.reduceEq, Int.reduceLT, Int.reduceLE, Int.reduceAdd, Int.reduceSub, Int.reduceMul, Int.reduceNeg, Int.reduceToNat, Nat.reduceMul]
  refine rn_loop (fun m f H' => ∃ (a' b' o : UInt8), b'.toNat < 2 ^ m ∧ gML m a' b' o = gM a b ∧ f 0 = .int .u8 (a'.toNat : Int) ∧ f 1 = .int .u8 (b'.toNat : Int) ∧ f 5 = .int .u8 (o.toNat : Int) ∧ H' = H.enter) ?_ (n := 8)
    ⟨a, b, 0, UInt8.toNat_lt b, rfl, by simp only [go_sem, Nat.reduceEqDiff, Nat.reduceAdd, Nat.reduceLeDiff, Int.reduceEq, Int.reduceLT, Int.reduceLE, Int.reduceAdd, Int.reduceSub, Int.reduceMul, Int.reduceNeg, Int.reduceToNat, Nat.reduceMul], by simp only [go_sem, Nat.reduceEqDiff, Nat.reduceAdd, Nat.reduceLeDiff, Int.reduceEq, Int.reduceLT, Int.reduceLE, Int.reduceAdd, Int.reduceSub, Int.reduceMul, Int.reduceNeg, Int.reduceToNat, Nat.reduceMul], by simp only [go_sem, Nat.reduceEqDiff, Nat.reduceAdd, Nat.reduceLeDiff, Int.reduceEq, Int.reduceLT, Int.reduceLE, Int.reduceAdd, Int.reduceSub, Int.reduceMul, Int.reduceNeg, Int.reduceToNat, Nat.reduceMul] <;> rfl, rfl⟩
  rintro m f H' ⟨a', b', o, hb, he, f0, f1, f5, rfl⟩
  by_cases hz : b' = 0
  · subst hz
    rw [gML_none] at he
    subst he
    have h0 : ¬ ((0 : Int) < ((0 : UInt8).toNat : Int)) := by decide
    simp only [f0, f1, f5, h0, go_sem, Nat.reduceEqDiff, Nat.reduceAdd, Nat.reduceLeDiff, Int.reduceEq, Int.reduceLT, Int.reduceLE, Int.reduceAdd, Int.reduceSub, Int.reduceMul, Int.reduceNeg, Int.reduceToNat, Nat.reduceMul]
    exact hQ
  · have hp : (0 : Int) < (b'.toNat : Int) := by
      have : b'.toNat ≠ 0 := fun e => hz (UInt8.toNat_inj.1 e)
      omega
    obtain ⟨k, rfl⟩ : ∃ k, m = k + 1 := by
      refine ⟨m - 1, ?_⟩
      have : m ≠ 0 := fun e => by subst e; rw [Nat.pow_zero] at hb; omega
      omega
    have hb2 : (b' >>> 1).toNat < 2 ^ k := by
      have h : (b' >>> 1).toNat = b'.toNat / 2 := by
        rw [UInt8.toNat_shiftRight, show (1 : UInt8).toNat % 8 = 1 from rfl, Nat.shiftRight_eq_div_pow]
      rw [Nat.pow_succ] at hb
      omega
    have x1 : bitsK .and .u8 (b'.toNat : Int) 1 = ((b' &&& 1).toNat : Int) := and8 b' 1
    have x2 : bitsK .and .u8 (a'.toNat : Int) 128 = ((a' &&& 128).toNat : Int) := and8 a' 128
    have x3 : bitsK .xor .u8 ((a' <<< 1).toNat : Int) 27 = ((a' <<< 1 ^^^ 27).toNat : Int) := xor8 (a' <<< 1) 27
    have x4 := xor8 o a'
    have x5 := shl8_1 a'
    have x6 := shr8_1 b'
    rw [gML] at he
    have one1 : ((1 : UInt8).toNat : Int) = 1 := rfl
    have zer1 : ((0 : UInt8).toNat : Int) = 0 := rfl
    have hun1 : ((128 : UInt8).toNat : Int) = 128 := rfl
    rcases gLo_bit b' with hl | hl <;> rcases gHi_bit a' with hh | hh
    all_goals
      rw [hl] at x1 he
      rw [hh] at x2
      simp only [f0, f1, f5, hp, x1, x2, x3, x4, x5, x6, one1, zer1, hun1, go_sem, Nat.reduceEqDiff, Nat.reduceAdd, Nat.reduceLeDiff, Int.reduceEq, Int.reduceLT, Int.reduceLE, Int.reduceAdd, Int.reduceSub, Int.reduceMul, Int.reduceNeg, Int.reduceToNat, Nat.reduceMul]
      refine ⟨k, by omega, gMx a', b' >>> 1, _, hb2, he, ?_, by simp only [go_sem, Nat.reduceEqDiff, Nat.reduceAdd, Nat.reduceLeDiff, Int.reduceEq, Int.reduceLT, Int.reduceLE, Int.reduceAdd, Int.reduceSub, Int.reduceMul, Int.reduceNeg, Int.reduceToNat, Nat.reduceMul], ?_, rfl⟩
      · unfold gMx
        rw [hh]
        simp only [go_sem, Nat.reduceEqDiff, Nat.reduceAdd, Nat.reduceLeDiff, Int.reduceEq, Int.reduceLT, Int.reduceLE, Int.reduceAdd, Int.reduceSub, Int.reduceMul, Int.reduceNeg, Int.reduceToNat, Nat.reduceMul] <;> rfl
      · simp only [f5, go_sem, Nat.reduceEqDiff, Nat.reduceAdd, Nat.reduceLeDiff, Int.reduceEq, Int.reduceLT, Int.reduceLE, Int.reduceAdd, Int.reduceSub, Int.reduceMul, Int.reduceNeg, Int.reduceToNat, Nat.reduceMul] <;> rfl
theorem v117 (h73 : tbl 73 = some (.code m73)) (h117 : tbl 117 = some (.code m117)) (a : UInt8) (H : AH) : Val tbl 117 [.int .u8 (a.toNat : Int)] H (.int .u8 ((gI a).toNat : Int)) H := by
  refine Val.of_all fun Q hQ => ?_
  rw [rn_fun h117, k117]
  simp only [go_sem, Nat.reduceEqDiff, Nat.reduceAdd, Nat.reduceLeDiff, Int.reduceEq, Int.reduceLT, Int.reduceLE, Int.reduceAdd, Int.reduceSub, Int.reduceMul, Int.reduceNeg, Int.reduceToNat, Nat.reduceMul]
  refine rn_loop (fun m f H' => ∃ (a' o : UInt8) (n : Nat), n < 2 ^ m ∧ n < 1000 ∧ gIL m n a' o = gI a ∧ f 0 = .int .u8 (a'.toNat : Int) ∧ f 4 = .int .i64 (n : Int) ∧ f 3 = .int .u8 (o.toNat : Int) ∧ H' = H.enter) ?_ (n := 8)
    ⟨a, 1, 254, by decide, by decide, rfl, by simp only [go_sem, Nat.reduceEqDiff, Nat.reduceAdd, Nat.reduceLeDiff, Int.reduceEq, Int.reduceLT, Int.reduceLE, Int.reduceAdd, Int.reduceSub, Int.reduceMul, Int.reduceNeg, Int.reduceToNat, Nat.reduceMul], by simp only [go_sem, Nat.reduceEqDiff, Nat.reduceAdd, Nat.reduceLeDiff, Int.reduceEq, Int.reduceLT, Int.reduceLE, Int.reduceAdd, Int.reduceSub, Int.reduceMul, Int.reduceNeg, Int.reduceToNat, Nat.reduceMul] <;> rfl, by simp only [go_sem, Nat.reduceEqDiff, Nat.reduceAdd, Nat.reduceLeDiff, Int.reduceEq, Int.reduceLT, Int.reduceLE, Int.reduceAdd, Int.reduceSub, Int.reduceMul, Int.reduceNeg, Int.reduceToNat, Nat.reduceMul] <;> rfl, rfl⟩
  rintro m f H' ⟨a', o, n, hb, hn, he, f0, f4, f3, rfl⟩
  by_cases hz : n = 0
  · subst hz
    have h0 : ¬ ((0 : Int) < ((0 : Nat) : Int)) := by decide
    have hend : ∀ m a' o, gIL m 0 a' o = o := by
      intro m
      induction m with
      | zero => intro a' o; rfl
      | succ m ih => intro a' o; simp only [gIL]; rw [if_neg (by decide)]; exact ih _ _
    rw [hend] at he
    subst he
    simp only [f0, f4, f3, h0, go_sem, Nat.reduceEqDiff, Nat.reduceAdd, Nat.reduceLeDiff, Int.reduceEq, Int.reduceLT, Int.reduceLE, Int.reduceAdd, Int.reduceSub, Int.reduceMul, Int.reduceNeg, Int.reduceToNat, Nat.reduceMul]
    exact hQ
  · have hp : (0 : Int) < (n : Int) := by omega
    obtain ⟨k, rfl⟩ : ∃ k, m = k + 1 := by
      refine ⟨m - 1, ?_⟩
      have : m ≠ 0 := fun e => by subst e; rw [Nat.pow_zero] at hb; omega
      omega
    have hb2 : n / 2 < 2 ^ k := by rw [Nat.pow_succ] at hb; omega
    have x1 : bitsK .and .i64 (n : Int) 1 = ((n % 2 : Nat) : Int) := by rw [and63_1 (by omega)]; omega
    have x6 : shiftK .shr .i64 (n : Int) 1 = ((n / 2 : Nat) : Int) := shr63n n 1 (by omega)
    rw [gIL] at he
    by_cases h1 : n % 2 = 1
    · rw [if_pos h1] at he
      have e1 : (((n % 2 : Nat) : Int) = 1) := by omega
      simp only [f0, f4, f3, hp, x1, x6, e1, ↓(v73 h73 _ _ _).run, go_sem, Nat.reduceEqDiff, Nat.reduceAdd, Nat.reduceLeDiff, Int.reduceEq, Int.reduceLT, Int.reduceLE, Int.reduceAdd, Int.reduceSub, Int.reduceMul, Int.reduceNeg, Int.reduceToNat, Nat.reduceMul]
      exact ⟨k, by omega, _, _, n / 2, hb2, by omega, he, by simp only [go_sem, Nat.reduceEqDiff, Nat.reduceAdd, Nat.reduceLeDiff, Int.reduceEq, Int.reduceLT, Int.reduceLE, Int.reduceAdd, Int.reduceSub, Int.reduceMul, Int.reduceNeg, Int.reduceToNat, Nat.reduceMul], by simp only [go_sem, Nat.reduceEqDiff, Nat.reduceAdd, Nat.reduceLeDiff, Int.reduceEq, Int.reduceLT, Int.reduceLE, Int.reduceAdd, Int.reduceSub, Int.reduceMul, Int.reduceNeg, Int.reduceToNat, Nat.reduceMul], by simp only [go_sem, Nat.reduceEqDiff, Nat.reduceAdd, Nat.reduceLeDiff, Int.reduceEq, Int.reduceLT, Int.reduceLE, Int.reduceAdd, Int.reduceSub, Int.reduceMul, Int.reduceNeg, Int.reduceToNat, Nat.reduceMul], rfl⟩
    · rw [if_neg h1] at he
      have e1 : ¬ (((n % 2 : Nat) : Int) = 1) := by omega
      simp only [f0, f4, f3, hp, x1, x6, e1, ↓(v73 h73 _ _ _).run, go_sem, Nat.reduceEqDiff, Nat.reduceAdd, Nat.reduceLeDiff, Int.reduceEq, Int.reduceLT, Int.reduceLE, Int.reduceAdd, Int.reduceSub, Int.reduceMul, Int.reduceNeg, Int.reduceToNat, Nat.reduceMul]
      exact ⟨k, by omega, _, _, n / 2, hb2, by omega, he, by simp only [go_sem, Nat.reduceEqDiff, Nat.reduceAdd, Nat.reduceLeDiff, Int.reduceEq, Int.reduceLT, Int.reduceLE, Int.reduceAdd, Int.reduceSub, Int.reduceMul, Int.reduceNeg, Int.reduceToNat, Nat.reduceMul], by simp only [go_sem, Nat.reduceEqDiff, Nat.reduceAdd, Nat.reduceLeDiff, Int.reduceEq, Int.reduceLT, Int.reduceLE, Int.reduceAdd, Int.reduceSub, Int.reduceMul, Int.reduceNeg, Int.reduceToNat, Nat.reduceMul], by simp only [f3, go_sem, Nat.reduceEqDiff, Nat.reduceAdd, Nat.reduceLeDiff, Int.reduceEq, Int.reduceLT, Int.reduceLE, Int.reduceAdd, Int.reduceSub, Int.reduceMul, Int.reduceNeg, Int.reduceToNat, Nat.reduceMul], rfl⟩
theorem v74 (h74 : tbl 74 = some (.code m74)) (a b : UInt8) (H : AH) : Val tbl 74 [.int .i64 (a.toNat : Int), .int .i64 (b.toNat : Int)] H (.int .i64 ((gM a b).toNat : Int)) H := by
  refine Val.of_all fun Q hQ => ?_
  have ha := UInt8.toNat_lt a
  have hb := UInt8.toNat_lt b
  rw [← fldN_eq] at hQ
  rw [rn_fun h74, k74]
  simp only [go_sem, Nat.reduceEqDiff, Nat.reduceAdd, Nat.reduceLeDiff, Int.reduceEq, Int.reduceLT, Int.reduceLE, Int.reduceAdd, Int.reduceSub, Int.reduceMul, Int.reduceNeg, Int.reduceToNat, Nat.reduceMul]
  refine rn_loop (fun m f H' => ∃ (j : Nat), j ≤ 8 ∧ m = 8 - j ∧ f 0 = .int .i64 (a.toNat : Int) ∧ f 1 = .int .i64 (b.toNat : Int) ∧ f 5 = .int .i64 (clS a.toNat b.toNat j : Nat) ∧ f 8 = .int .i64 (j : Int) ∧ H' = H.enter) ?_ (n := 8)
    ⟨0, by decide, rfl, by simp only [go_sem, Nat.reduceEqDiff, Nat.reduceAdd, Nat.reduceLeDiff, Int.reduceEq, Int.reduceLT, Int.reduceLE, Int.reduceAdd, Int.reduceSub, Int.reduceMul, Int.reduceNeg, Int.reduceToNat, Nat.reduceMul], by simp only [go_sem, Nat.reduceEqDiff, Nat.reduceAdd, Nat.reduceLeDiff, Int.reduceEq, Int.reduceLT, Int.reduceLE, Int.reduceAdd, Int.reduceSub, Int.reduceMul, Int.reduceNeg, Int.reduceToNat, Nat.reduceMul], by simp only [go_sem, Nat.reduceEqDiff, Nat.reduceAdd, Nat.reduceLeDiff, Int.reduceEq, Int.reduceLT, Int.reduceLE, Int.reduceAdd, Int.reduceSub, Int.reduceMul, Int.reduceNeg, Int.reduceToNat, Nat.reduceMul] <;> rfl, by simp only [go_sem, Nat.reduceEqDiff, Nat.reduceAdd, Nat.reduceLeDiff, Int.reduceEq, Int.reduceLT, Int.reduceLE, Int.reduceAdd, Int.reduceSub, Int.reduceMul, Int.reduceNeg, Int.reduceToNat, Nat.reduceMul] <;> rfl, rfl⟩
  rintro m f H' ⟨j, hj, rfl, f0, f1, f5, f8, rfl⟩
  by_cases hlt : (j : Int) < 8
  · have j0 : ¬ (j : Int) < 0 := by omega
    have hc := clS_lt (b := b.toNat) ha j (by omega)
    have wj := w64 (x := (j : Int) + 1) (by omega) (by omega)
    have hpow : 2 ^ j ≤ 2 ^ 7 := Nat.pow_le_pow_right (by decide) (by omega)
    have hprod : a.toNat * 2 ^ j ≤ 255 * 2 ^ 7 := Nat.mul_le_mul (by omega) hpow
    have x1 := shr63n b.toNat j (by omega)
    have hq : b.toNat / 2 ^ j ≤ b.toNat := Nat.div_le_self _ _
    have x2 : bitsK .and .i64 ((b.toNat / 2 ^ j : Nat) : Int) 1 = ((b.toNat / 2 ^ j % 2 : Nat) : Int) := by
      generalize b.toNat / 2 ^ j = q at hq ⊢
      rw [and63_1 (by omega)]; omega
    have x3 := shl63n a.toNat j (by omega) (by omega)
    have x4 := xor63 (clS a.toNat b.toNat j) (a.toNat * 2 ^ j) hc (by omega)
    have cs : clS a.toNat b.toNat (j + 1) = if (b.toNat / 2 ^ j) % 2 = 1 then clS a.toNat b.toNat j ^^^ (a.toNat * 2 ^ j) else clS a.toNat b.toNat j := rfl
    by_cases h1 : b.toNat / 2 ^ j % 2 = 1
    · rw [if_pos h1] at cs
      have e1 : (((b.toNat / 2 ^ j % 2 : Nat) : Int) = 1) := by omega
      simp only [f0, f1, f5, f8, hlt, j0, wj, x1, x2, x3, x4, e1, go_sem, Nat.reduceEqDiff, Nat.reduceAdd, Nat.reduceLeDiff, Int.reduceEq, Int.reduceLT, Int.reduceLE, Int.reduceAdd, Int.reduceSub, Int.reduceMul, Int.reduceNeg, Int.reduceToNat, Nat.reduceMul]
      exact ⟨8 - (j + 1), by omega, j + 1, by omega, rfl, by simp only [f0, go_sem, Nat.reduceEqDiff, Nat.reduceAdd, Nat.reduceLeDiff, Int.reduceEq, Int.reduceLT, Int.reduceLE, Int.reduceAdd, Int.reduceSub, Int.reduceMul, Int.reduceNeg, Int.reduceToNat, Nat.reduceMul], by simp only [f1, go_sem, Nat.reduceEqDiff, Nat.reduceAdd, Nat.reduceLeDiff, Int.reduceEq, Int.reduceLT, Int.reduceLE, Int.reduceAdd, Int.reduceSub, Int.reduceMul, Int.reduceNeg, Int.reduceToNat, Nat.reduceMul], by rw [cs]; simp only [go_sem, Nat.reduceEqDiff, Nat.reduceAdd, Nat.reduceLeDiff, Int.reduceEq, Int.reduceLT, Int.reduceLE, Int.reduceAdd, Int.reduceSub, Int.reduceMul, Int.reduceNeg, Int.reduceToNat, Nat.reduceMul], by simp only [go_sem, Nat.reduceEqDiff, Nat.reduceAdd, Nat.reduceLeDiff, Int.reduceEq, Int.reduceLT, Int.reduceLE, Int.reduceAdd, Int.reduceSub, Int.reduceMul, Int.reduceNeg, Int.reduceToNat, Nat.reduceMul] <;> rfl, rfl⟩
    · rw [if_neg h1] at cs
      have e1 : ¬ (((b.toNat / 2 ^ j % 2 : Nat) : Int) = 1) := by omega
      simp only [f0, f1, f5, f8, hlt, j0, wj, x1, x2, x3, x4, e1, go_sem, Nat.reduceEqDiff, Nat.reduceAdd, Nat.reduceLeDiff, Int.reduceEq, Int.reduceLT, Int.reduceLE, Int.reduceAdd, Int.reduceSub, Int.reduceMul, Int.reduceNeg, Int.reduceToNat, Nat.reduceMul]
      exact ⟨8 - (j + 1), by omega, j + 1, by omega, rfl, by simp only [f0, go_sem, Nat.reduceEqDiff, Nat.reduceAdd, Nat.reduceLeDiff, Int.reduceEq, Int.reduceLT, Int.reduceLE, Int.reduceAdd, Int.reduceSub, Int.reduceMul, Int.reduceNeg, Int.reduceToNat, Nat.reduceMul], by simp only [f1, go_sem, Nat.reduceEqDiff, Nat.reduceAdd, Nat.reduceLeDiff, Int.reduceEq, Int.reduceLT, Int.reduceLE, Int.reduceAdd, Int.reduceSub, Int.reduceMul, Int.reduceNeg, Int.reduceToNat, Nat.reduceMul], by rw [cs]; simp only [f5, go_sem, Nat.reduceEqDiff, Nat.reduceAdd, Nat.reduceLeDiff, Int.reduceEq, Int.reduceLT, Int.reduceLE, Int.reduceAdd, Int.reduceSub, Int.reduceMul, Int.reduceNeg, Int.reduceToNat, Nat.reduceMul], by simp only [go_sem, Nat.reduceEqDiff, Nat.reduceAdd, Nat.reduceLeDiff, Int.reduceEq, Int.reduceLT, Int.reduceLE, Int.reduceAdd, Int.reduceSub, Int.reduceMul, Int.reduceNeg, Int.reduceToNat, Nat.reduceMul] <;> rfl, rfl⟩
  · have hj8 : j = 8 := by omega
    subst hj8
    have hc := clS_lt (b := b.toNat) ha 8 (by omega)
    simp only [f0, f1, f5, f8, hlt, go_sem, Nat.reduceEqDiff, Nat.reduceAdd, Nat.reduceLeDiff, Int.reduceEq, Int.reduceLT, Int.reduceLE, Int.reduceAdd, Int.reduceSub, Int.reduceMul, Int.reduceNeg, Int.reduceToNat, Nat.reduceMul]
    refine rn_loop (fun m f H' => ∃ (k : Nat), k ≤ 7 ∧ m = 7 - k ∧ f 5 = .int .i64 (rdS (clS a.toNat b.toNat 8) k : Nat) ∧ f 7 = .int .i64 (14 - k : Int) ∧ H' = H.enter) ?_ (n := 7)
      ⟨0, by decide, rfl, by simp only [f5, go_sem, Nat.reduceEqDiff, Nat.reduceAdd, Nat.reduceLeDiff, Int.reduceEq, Int.reduceLT, Int.reduceLE, Int.reduceAdd, Int.reduceSub, Int.reduceMul, Int.reduceNeg, Int.reduceToNat, Nat.reduceMul] <;> rfl, by simp only [go_sem, Nat.reduceEqDiff, Nat.reduceAdd, Nat.reduceLeDiff, Int.reduceEq, Int.reduceLT, Int.reduceLE, Int.reduceAdd, Int.reduceSub, Int.reduceMul, Int.reduceNeg, Int.reduceToNat, Nat.reduceMul] <;> rfl, rfl⟩
    rintro m f H' ⟨k, hk, rfl, f5, f7, rfl⟩
    by_cases hlt : (8 : Int) ≤ 14 - k
    · have hr := rdS_lt hc k
      have k0 : ¬ (14 - k : Int) < 0 := by omega
      have e6 : (14 - k : Int) - 8 = ((6 - k : Nat) : Int) := by omega
      have e14 : (14 - k : Int) = ((14 - k : Nat) : Int) := by omega
      have k1 : ¬ (((6 - k : Nat) : Int)) < 0 := by omega
      have wj := w64 (x := (14 - k : Int) - 1) (by omega) (by omega)
      have w6 := w64 (x := (14 - k : Int) - 8) (by omega) (by omega)
      rw [e6] at w6
      have hpow : 2 ^ (6 - k) ≤ 2 ^ 6 := Nat.pow_le_pow_right (by decide) (by omega)
      have hprod : 283 * 2 ^ (6 - k) ≤ 283 * 2 ^ 6 := Nat.mul_le_mul (by omega) hpow
      have x1 := shr63n (rdS (clS a.toNat b.toNat 8) k) (14 - k) (by omega)
      rw [← e14] at x1
      have hq : rdS (clS a.toNat b.toNat 8) k / 2 ^ (14 - k) ≤ rdS (clS a.toNat b.toNat 8) k := Nat.div_le_self _ _
      have x2 : bitsK .and .i64 ((rdS (clS a.toNat b.toNat 8) k / 2 ^ (14 - k) : Nat) : Int) 1 = ((rdS (clS a.toNat b.toNat 8) k / 2 ^ (14 - k) % 2 : Nat) : Int) := by
        generalize rdS (clS a.toNat b.toNat 8) k / 2 ^ (14 - k) = q at hq ⊢
        rw [and63_1 (by omega)]; omega
      have x3 : shiftK .shl .i64 283 ((6 - k : Nat) : Int) = ((283 * 2 ^ (6 - k) : Nat) : Int) := shl63n 283 (6 - k) (by omega) (by omega)
      have x4 := xor63 (rdS (clS a.toNat b.toNat 8) k) (283 * 2 ^ (6 - k)) hr (by omega)
      have cs : rdS (clS a.toNat b.toNat 8) (k + 1) = if (rdS (clS a.toNat b.toNat 8) k / 2 ^ (14 - k)) % 2 = 1 then rdS (clS a.toNat b.toNat 8) k ^^^ (283 * 2 ^ (6 - k)) else rdS (clS a.toNat b.toNat 8) k := rfl
      by_cases h1 : rdS (clS a.toNat b.toNat 8) k / 2 ^ (14 - k) % 2 = 1
      · rw [if_pos h1] at cs
        have e1 : (((rdS (clS a.toNat b.toNat 8) k / 2 ^ (14 - k) % 2 : Nat) : Int) = 1) := by omega
        simp only [f5, f7, hlt, k0, k1, e6, wj, w6, x1, x2, x3, x4, e1, go_sem, Nat.reduceEqDiff, Nat.reduceAdd, Nat.reduceLeDiff, Int.reduceEq, Int.reduceLT, Int.reduceLE, Int.reduceAdd, Int.reduceSub, Int.reduceMul, Int.reduceNeg, Int.reduceToNat, Nat.reduceMul]
        exact ⟨7 - (k + 1), by omega, k + 1, by omega, rfl, by rw [cs]; simp only [go_sem, Nat.reduceEqDiff, Nat.reduceAdd, Nat.reduceLeDiff, Int.reduceEq, Int.reduceLT, Int.reduceLE, Int.reduceAdd, Int.reduceSub, Int.reduceMul, Int.reduceNeg, Int.reduceToNat, Nat.reduceMul], by simp only [go_sem, Nat.reduceEqDiff, Nat.reduceAdd, Nat.reduceLeDiff, Int.reduceEq, Int.reduceLT, Int.reduceLE, Int.reduceAdd, Int.reduceSub, Int.reduceMul, Int.reduceNeg, Int.reduceToNat, Nat.reduceMul]; congr 1; omega, rfl⟩
      · rw [if_neg h1] at cs
        have e1 : ¬ (((rdS (clS a.toNat b.toNat 8) k / 2 ^ (14 - k) % 2 : Nat) : Int) = 1) := by omega
        simp only [f5, f7, hlt, k0, k1, e6, wj, w6, x1, x2, x3, x4, e1, go_sem, Nat.reduceEqDiff, Nat.reduceAdd, Nat.reduceLeDiff, Int.reduceEq, Int.reduceLT, Int.reduceLE, Int.reduceAdd, Int.reduceSub, Int.reduceMul, Int.reduceNeg, Int.reduceToNat, Nat.reduceMul]
        exact ⟨7 - (k + 1), by omega, k + 1, by omega, rfl, by rw [cs]; simp only [f5, go_sem, Nat.reduceEqDiff, Nat.reduceAdd, Nat.reduceLeDiff, Int.reduceEq, Int.reduceLT, Int.reduceLE, Int.reduceAdd, Int.reduceSub, Int.reduceMul, Int.reduceNeg, Int.reduceToNat, Nat.reduceMul], by simp only [go_sem, Nat.reduceEqDiff, Nat.reduceAdd, Nat.reduceLeDiff, Int.reduceEq, Int.reduceLT, Int.reduceLE, Int.reduceAdd, Int.reduceSub, Int.reduceMul, Int.reduceNeg, Int.reduceToNat, Nat.reduceMul]; congr 1; omega, rfl⟩
    · have hk7 : k = 7 := by omega
      subst hk7
      simp only [f5, f7, hlt, go_sem, Nat.reduceEqDiff, Nat.reduceAdd, Nat.reduceLeDiff, Int.reduceEq, Int.reduceLT, Int.reduceLE, Int.reduceAdd, Int.reduceSub, Int.reduceMul, Int.reduceNeg, Int.reduceToNat, Nat.reduceMul]
      exact hQ
end Go.Proofs.Ytildhljhbbhmmaa.AM
namespace Go.Proofs.Ytildhljhbbhmmaa.AM
open Go
set_option linter.all false
set_option maxRecDepth 10000

/-! ### Shares -/
/-- A share: its place and its bytes. -/
abbrev Sh := Int × List UInt8
def shc (l : List Sh) : List Value := l.flatMap fun p => [.int .i64 p.1, .string (tx p.2)]
theorem shc_at : ∀ (l : List Sh) (i : Nat) (h : i < l.length), ((shc l).drop (i * 2)).take 2 = [.int .i64 l[i].1, .string (tx l[i].2)] := by
  intro l
  induction l with
  | nil => intro i h; simp at h
  | cons p l ih =>
    intro i h
    cases i with
    | zero => rfl
    | succ i =>
      have := ih i (by simpa using h)
      rw [Nat.succ_mul]
      simpa [shc] using this
theorem shc_len (l : List Sh) : (shc l).length = l.length * 2 := by
  induction l with
  | nil => rfl
  | cons p l ih =>
    have : shc (p :: l) = .int .i64 p.1 :: .string (tx p.2) :: shc l := rfl
    rw [this, List.length_cons, List.length_cons, ih, List.length_cons]
    omega
theorem shc_p1 (l : List Sh) : (shc l).all p1 = true := by
  induction l with
  | nil => rfl
  | cons p l ih =>
    have : shc (p :: l) = .int .i64 p.1 :: .string (tx p.2) :: shc l := rfl
    rw [this, List.all_cons, List.all_cons, ih]
    rfl
/-- New blocks alone. -/
structure Junk (H H' : AH) : Prop where
  old : ∀ id, id < H.next → H'.get id = H.get id
  nx : H.next ≤ H'.next
  low : H.next ≤ H'.low
theorem Junk.enter (H : AH) : Junk H H.enter := ⟨fun _ _ => rfl, Nat.le_refl _, Nat.le_refl _⟩
theorem Junk.push {H H' : AH} (h : Junk H H') (b : Blk) : Junk H (H'.push b) := by
  have := h.nx
  have := h.low
  exact ⟨fun id hid => by rw [AH.get_push_lt _ _ (by omega)]; exact h.old id hid, by rw [AH.next_push]; omega, by rw [lw_push]; omega⟩
theorem Junk.set {H H' : AH} (h : Junk H H') {k : Nat} (hk : H.next ≤ k) (x : Option Blk) : Junk H (H'.set k x) := by
  have := h.nx
  have := h.low
  exact ⟨fun id hid => by rw [AH.get_set_ne _ _ (by omega)]; exact h.old id hid, by rw [AH.next_set]; omega, by rw [lw_set]; omega⟩
/-- Of a block that is pushed and then set, that alone is left. -/
theorem ps_get {H' : AH} {b c : Blk} : ((H'.push b).set H'.next (some c)).get H'.next = some c := AH.get_set_eq _ _ (by rw [AH.next_push]; omega)
theorem ps_old {H' : AH} {b c : Blk} {k : Nat} (h : k < H'.next) : ((H'.push b).set H'.next (some c)).get k = H'.get k := by
  rw [AH.get_set_ne _ _ (by omega), AH.get_push_lt _ _ h]
theorem ps_next {H' : AH} {b c : Blk} : ((H'.push b).set H'.next (some c)).next = H'.next + 1 := by rw [AH.next_set, AH.next_push]
/-- The place of a share, as a number of the field. -/
def xb (l : List Sh) (i : Nat) : UInt8 := UInt8.ofNat (l.getD i (0, [])).1.toNat
theorem xb_at {l : List Sh} {i : Nat} (h : i < l.length) (hx : 0 ≤ l[i].1 ∧ l[i].1 ≤ 255) : ((xb l i).toNat : Int) = l[i].1 := by
  have e : xb l i = UInt8.ofNat l[i].1.toNat := by simp [xb, h]
  rw [e, UInt8.toNat_ofNat']
  omega
theorem xb_wrap {l : List Sh} {i : Nat} (h : i < l.length) (hx : 0 ≤ l[i].1 ∧ l[i].1 ≤ 255) : IntKind.wrap .u8 l[i].1 = ((xb l i).toNat : Int) := by
  rw [xb_at h hx, IntKind.wrap_u8]
  omega
/-- The weights of shares at a place. -/
def wL (l : List Sh) (z : UInt8) : List UInt8 := (List.range l.length).map fun i => wS (xb l) z i l.length
theorem wL_len {l : List Sh} {z : UInt8} : (wL l z).length = l.length := by simp [wL]
theorem zb_cons {n i : Nat} (h : i < n) : zb (n - i) = 0 :: zb (n - (i + 1)) := by
  rw [show n - i = (n - (i + 1)) + 1 by omega]
  simp only [zb, List.replicate_succ]
theorem row_first (f : Nat → UInt8) {n i : Nat} (h : i < n) (x : UInt8) : ((List.range i).map f ++ zb (n - i)).set i x = (List.range i).map f ++ x :: zb (n - (i + 1)) := by
  rw [zb_cons h, set_mid (y := 0) (i := 0) (by simp)]
  rfl
theorem row_again (f : Nat → UInt8) {i : Nat} (x y : UInt8) (Z : List UInt8) : ((List.range i).map f ++ x :: Z).set i y = (List.range i).map f ++ y :: Z := by
  rw [set_mid (y := 0) (i := 0) (by simp)]
  rfl
theorem row_done (f : Nat → UInt8) (i : Nat) (Z : List UInt8) : (List.range i).map f ++ f i :: Z = (List.range (i + 1)).map f ++ Z := by
  rw [map_range_succ, List.append_assoc]
  rfl
theorem row_gb (f : Nat → UInt8) (i : Nat) (x : UInt8) (Z : List UInt8) : gb ((List.range i).map f ++ x :: Z) i = x := by
  rw [gb_app (j := 0) (by simp)]
  rfl
theorem row_len' (f : Nat → UInt8) {i n : Nat} (h : i < n) (x : UInt8) : ((List.range i).map f ++ x :: zb (n - (i + 1))).length = n := by
  simp [zb]; omega
theorem relow' {H : AH} : (⟨H.enter.blks, H.low⟩ : AH) = H := rfl
variable {tbl : Tbl} [hT : TMono tbl]
theorem v100 (h73 : tbl 73 = some (.code m73)) (h117 : tbl 117 = some (.code m117)) (h100 : tbl 100 = some (.code m100)) (l : List Sh) (hg : ∀ i (h : i < l.length), 0 ≤ l[i].1 ∧ l[i].1 ≤ 255) (h0 : 0 < l.length) (h1 : l.length ≤ 1000) {H : AH} {v : Value} (hs : Sl H 2 v l.length (shc l)) (z : UInt8) :
    Val tbl 100 [v, .int .u8 (z.toNat : Int)] H (mkS H l.length) (mkH H 1 l.length (bc (wL l z))) := by
  refine Val.of_all fun Q hQ => ?_
  obtain ⟨ad, cp, hv⟩ := hs.shape
  subst hv
  rw [rn_fun h100, k100]
  have c0 : (0 : Int) ≤ l.length := by omega
  have c1 : (l.length : Int) ≤ 9223372036854775807 := by omega
  have c2 : l.length ≤ 140737488355328 := by omega
  simp only [Int.toNat_natCast, rep_zb, c0, c1, c2, Int.le_refl, go_sem, Nat.reduceEqDiff, Nat.reduceAdd, Nat.reduceLeDiff, Int.reduceEq, Int.reduceLT, Int.reduceLE, Int.reduceAdd, Int.reduceSub, Int.reduceMul, Int.reduceNeg, Int.reduceToNat, Nat.reduceMul]
  refine rn_loop (fun m f H' => ∃ i : Nat, i ≤ l.length ∧ m = l.length - i ∧ f 0 = .slice ad l.length cp ∧ f 1 = .int .u8 (z.toNat : Int) ∧ f 5 = .slice (some ⟨H.next, 0, none⟩) l.length l.length ∧ f 13 = .slice ad l.length cp ∧ f 14 = .int .i64 l.length ∧ f 15 = .int .i64 i ∧ Junk H H' ∧ H.next < H'.next ∧ H'.get H.next = some (u8r ((List.range i).map (fun i => wS (xb l) z i l.length) ++ zb (l.length - i)))) ?_ (n := l.length)
    ⟨0, by omega, rfl, by simp only [go_sem, Nat.reduceEqDiff, Nat.reduceAdd, Nat.reduceLeDiff, Int.reduceEq, Int.reduceLT, Int.reduceLE, Int.reduceAdd, Int.reduceSub, Int.reduceMul, Int.reduceNeg, Int.reduceToNat, Nat.reduceMul], by simp only [go_sem, Nat.reduceEqDiff, Nat.reduceAdd, Nat.reduceLeDiff, Int.reduceEq, Int.reduceLT, Int.reduceLE, Int.reduceAdd, Int.reduceSub, Int.reduceMul, Int.reduceNeg, Int.reduceToNat, Nat.reduceMul], by simp only [go_sem, Nat.reduceEqDiff, Nat.reduceAdd, Nat.reduceLeDiff, Int.reduceEq, Int.reduceLT, Int.reduceLE, Int.reduceAdd, Int.reduceSub, Int.reduceMul, Int.reduceNeg, Int.reduceToNat, Nat.reduceMul], by simp only [go_sem, Nat.reduceEqDiff, Nat.reduceAdd, Nat.reduceLeDiff, Int.reduceEq, Int.reduceLT, Int.reduceLE, Int.reduceAdd, Int.reduceSub, Int.reduceMul, Int.reduceNeg, Int.reduceToNat, Nat.reduceMul], by simp only [go_sem, Nat.reduceEqDiff, Nat.reduceAdd, Nat.reduceLeDiff, Int.reduceEq, Int.reduceLT, Int.reduceLE, Int.reduceAdd, Int.reduceSub, Int.reduceMul, Int.reduceNeg, Int.reduceToNat, Nat.reduceMul], by simp only [go_sem, Nat.reduceEqDiff, Nat.reduceAdd, Nat.reduceLeDiff, Int.reduceEq, Int.reduceLT, Int.reduceLE, Int.reduceAdd, Int.reduceSub, Int.reduceMul, Int.reduceNeg, Int.reduceToNat, Nat.reduceMul] <;> rfl, (Junk.enter H).push _, by rw [AH.next_push, nx_enter]; omega, AH.get_push_eq H.enter _⟩
  rintro m f H' ⟨i, hi, rfl, f0, f1, f5, f13, f14, f15, st, n1, g5⟩
  by_cases hlt : (i : Int) < l.length
  · have hi2 : i < l.length := by omega
    have i0 : (0 : Int) ≤ i := by omega
    have hp2 : H'.next < H'.next + 1 := by omega
    have wi := w64 (x := (i : Int) + 1) (by omega) (by omega)
    have hlen : ((List.range i).map (fun i => wS (xb l) z i l.length) ++ zb (l.length - i)).length = l.length := by simp [zb]; omega
    have hi3 : i + 1 ≤ l.length := by omega
    simp only [f0, f1, f5, f13, f14, f15, hlt, go_sem, Nat.reduceEqDiff, Nat.reduceAdd, Nat.reduceLeDiff, Int.reduceEq, Int.reduceLT, Int.reduceLE, Int.reduceAdd, Int.reduceSub, Int.reduceMul, Int.reduceNeg, Int.reduceToNat, Nat.reduceMul]
    refine (hs.keep st.old).at_ hi2 fun q hq1 hq2 => ?_
    rw [shc_at _ _ hi2] at hq2
    simp only [f0, f1, f5, f13, f14, f15, hlt, hq2, hp2, stc_eq, stB_some, go_sem, Nat.reduceEqDiff, Nat.reduceAdd, Nat.reduceLeDiff, Int.reduceEq, Int.reduceLT, Int.reduceLE, Int.reduceAdd, Int.reduceSub, Int.reduceMul, Int.reduceNeg, Int.reduceToNat, Nat.reduceMul]
    have st2 := (st.push ⟨[.int .i64 0, .string ⟨#[]⟩], 1, false⟩).set st.nx (some ⟨[.int .i64 l[i].1, .string (tx l[i].2)], 1, false⟩)
    have g7 := ps_get (H' := H') (b := ⟨[.int .i64 0, .string ⟨#[]⟩], 1, false⟩) (c := ⟨[.int .i64 l[i].1, .string (tx l[i].2)], 1, false⟩)
    have g5b := (ps_old (H' := H') (b := ⟨[.int .i64 0, .string ⟨#[]⟩], 1, false⟩) (c := ⟨[.int .i64 l[i].1, .string (tx l[i].2)], 1, false⟩) n1).trans g5
    have n2 := ps_next (H' := H') (b := ⟨[.int .i64 0, .string ⟨#[]⟩], 1, false⟩) (c := ⟨[.int .i64 l[i].1, .string (tx l[i].2)], 1, false⟩)
    generalize (H'.push ⟨[.int .i64 0, .string ⟨#[]⟩], 1, false⟩).set H'.next (some ⟨[.int .i64 l[i].1, .string (tx l[i].2)], 1, false⟩) = H2 at st2 g7 g5b n2 ⊢
    have one1 : (Value.int .u8 1) = .int .u8 ((1 : UInt8).toNat : Int) := rfl
    have hrow := row_first (fun i => wS (xb l) z i l.length) hi2 1
    simp only [f0, f1, f5, f13, f14, f15, g5b, i0, hi3, hlt, idxSP_slc, Int.toNat_natCast, u8r_len, u8r_ro, u8r_es, hlen, addA, Nat.zero_add, Nat.mul_one, stc_eq, stB_some, splice_one, one1, u8r_set, hrow, go_sem, Nat.reduceEqDiff, Nat.reduceAdd, Nat.reduceLeDiff, Int.reduceEq, Int.reduceLT, Int.reduceLE, Int.reduceAdd, Int.reduceSub, Int.reduceMul, Int.reduceNeg, Int.reduceToNat, Nat.reduceMul]
    have g7c : (H2.set H.next (some (u8r ((List.range i).map (fun i => wS (xb l) z i l.length) ++ 1 :: zb (l.length - (i + 1)))))).get H'.next = _ := (AH.get_set_ne H2 _ (by omega)).trans g7
    have g5c : (H2.set H.next (some (u8r ((List.range i).map (fun i => wS (xb l) z i l.length) ++ 1 :: zb (l.length - (i + 1)))))).get H.next = _ := AH.get_set_eq H2 _ (by omega)
    have n3 : (H2.set H.next (some (u8r ((List.range i).map (fun i => wS (xb l) z i l.length) ++ 1 :: zb (l.length - (i + 1)))))).next = _ := (AH.next_set H2 _ _).trans n2
    have st3 := st2.set (Nat.le_refl H.next) (some (u8r ((List.range i).map (fun i => wS (xb l) z i l.length) ++ 1 :: zb (l.length - (i + 1)))))
    generalize H2.set H.next (some (u8r ((List.range i).map (fun i => wS (xb l) z i l.length) ++ 1 :: zb (l.length - (i + 1))))) = H3 at st3 g7c g5c n3 ⊢
    clear hlen hrow g5b g7 st2 hq2
    refine rn_loop (fun m f H4 => ∃ k : Nat, k ≤ l.length ∧ m = l.length - k ∧ f 0 = .slice ad l.length cp ∧ f 1 = .int .u8 (z.toNat : Int) ∧ f 5 = .slice (some ⟨H.next, 0, none⟩) l.length l.length ∧ f 13 = .slice ad l.length cp ∧ f 14 = .int .i64 l.length ∧ f 15 = .int .i64 i ∧ f 6 = .int .i64 i ∧ f 7 = .pointer (some ⟨H'.next, 0, none⟩) ∧ f 23 = .slice ad l.length cp ∧ f 24 = .int .i64 l.length ∧ f 25 = .int .i64 k ∧ Junk H H4 ∧ H'.next < H4.next ∧ H4.get H'.next = some ⟨[.int .i64 l[i].1, .string (tx l[i].2)], 1, false⟩ ∧ H4.get H.next = some (u8r ((List.range i).map (fun i => wS (xb l) z i l.length) ++ wS (xb l) z i k :: zb (l.length - (i + 1))))) ?_ (n := l.length)
      ⟨0, by omega, rfl, by simp only [f0, go_sem, Nat.reduceEqDiff, Nat.reduceAdd, Nat.reduceLeDiff, Int.reduceEq, Int.reduceLT, Int.reduceLE, Int.reduceAdd, Int.reduceSub, Int.reduceMul, Int.reduceNeg, Int.reduceToNat, Nat.reduceMul], by simp only [f1, go_sem, Nat.reduceEqDiff, Nat.reduceAdd, Nat.reduceLeDiff, Int.reduceEq, Int.reduceLT, Int.reduceLE, Int.reduceAdd, Int.reduceSub, Int.reduceMul, Int.reduceNeg, Int.reduceToNat, Nat.reduceMul], by simp only [f5, go_sem, Nat.reduceEqDiff, Nat.reduceAdd, Nat.reduceLeDiff, Int.reduceEq, Int.reduceLT, Int.reduceLE, Int.reduceAdd, Int.reduceSub, Int.reduceMul, Int.reduceNeg, Int.reduceToNat, Nat.reduceMul], by simp only [f13, go_sem, Nat.reduceEqDiff, Nat.reduceAdd, Nat.reduceLeDiff, Int.reduceEq, Int.reduceLT, Int.reduceLE, Int.reduceAdd, Int.reduceSub, Int.reduceMul, Int.reduceNeg, Int.reduceToNat, Nat.reduceMul], by simp only [f14, go_sem, Nat.reduceEqDiff, Nat.reduceAdd, Nat.reduceLeDiff, Int.reduceEq, Int.reduceLT, Int.reduceLE, Int.reduceAdd, Int.reduceSub, Int.reduceMul, Int.reduceNeg, Int.reduceToNat, Nat.reduceMul], by simp only [f15, go_sem, Nat.reduceEqDiff, Nat.reduceAdd, Nat.reduceLeDiff, Int.reduceEq, Int.reduceLT, Int.reduceLE, Int.reduceAdd, Int.reduceSub, Int.reduceMul, Int.reduceNeg, Int.reduceToNat, Nat.reduceMul], by simp only [go_sem, Nat.reduceEqDiff, Nat.reduceAdd, Nat.reduceLeDiff, Int.reduceEq, Int.reduceLT, Int.reduceLE, Int.reduceAdd, Int.reduceSub, Int.reduceMul, Int.reduceNeg, Int.reduceToNat, Nat.reduceMul], by simp only [go_sem, Nat.reduceEqDiff, Nat.reduceAdd, Nat.reduceLeDiff, Int.reduceEq, Int.reduceLT, Int.reduceLE, Int.reduceAdd, Int.reduceSub, Int.reduceMul, Int.reduceNeg, Int.reduceToNat, Nat.reduceMul], by simp only [go_sem, Nat.reduceEqDiff, Nat.reduceAdd, Nat.reduceLeDiff, Int.reduceEq, Int.reduceLT, Int.reduceLE, Int.reduceAdd, Int.reduceSub, Int.reduceMul, Int.reduceNeg, Int.reduceToNat, Nat.reduceMul], by simp only [go_sem, Nat.reduceEqDiff, Nat.reduceAdd, Nat.reduceLeDiff, Int.reduceEq, Int.reduceLT, Int.reduceLE, Int.reduceAdd, Int.reduceSub, Int.reduceMul, Int.reduceNeg, Int.reduceToNat, Nat.reduceMul], by simp only [go_sem, Nat.reduceEqDiff, Nat.reduceAdd, Nat.reduceLeDiff, Int.reduceEq, Int.reduceLT, Int.reduceLE, Int.reduceAdd, Int.reduceSub, Int.reduceMul, Int.reduceNeg, Int.reduceToNat, Nat.reduceMul] <;> rfl, st3, by omega, g7c, g5c⟩
    clear f0 f1 f5 f13 f14 f15 g7c g5c n3 st3 n2
    rintro m f H4 ⟨k, hk, rfl, f0, f1, f5, f13, f14, f15, f6, f7, f23, f24, f25, st4, n4, g7, g5⟩
    by_cases hltk : (k : Int) < l.length
    · have hk2 : k < l.length := by omega
      have hp4 : H4.next < H4.next + 1 := by omega
      have wk := w64 (x := (k : Int) + 1) (by omega) (by omega)
      have hwk : wS (xb l) z i (k + 1) = if k = i then wS (xb l) z i k else gM (wS (xb l) z i k) (gM (z ^^^ xb l k) (gI (xb l i ^^^ xb l k))) := rfl
      simp only [f0, f1, f5, f13, f14, f15, f6, f7, f23, f24, f25, hltk, go_sem, Nat.reduceEqDiff, Nat.reduceAdd, Nat.reduceLeDiff, Int.reduceEq, Int.reduceLT, Int.reduceLE, Int.reduceAdd, Int.reduceSub, Int.reduceMul, Int.reduceNeg, Int.reduceToNat, Nat.reduceMul]
      refine (hs.keep st4.old).at_ hk2 fun q2 hq3 hq4 => ?_
      rw [shc_at _ _ hk2] at hq4
      simp only [f0, f1, f5, f13, f14, f15, f6, f7, f23, f24, f25, hltk, hq4, hp4, stc_eq, stB_some, go_sem, Nat.reduceEqDiff, Nat.reduceAdd, Nat.reduceLeDiff, Int.reduceEq, Int.reduceLT, Int.reduceLE, Int.reduceAdd, Int.reduceSub, Int.reduceMul, Int.reduceNeg, Int.reduceToNat, Nat.reduceMul]
      have st5 := (st4.push ⟨[.int .i64 0, .string ⟨#[]⟩], 1, false⟩).set st4.nx (some ⟨[.int .i64 l[k].1, .string (tx l[k].2)], 1, false⟩)
      have g9 := ps_get (H' := H4) (b := ⟨[.int .i64 0, .string ⟨#[]⟩], 1, false⟩) (c := ⟨[.int .i64 l[k].1, .string (tx l[k].2)], 1, false⟩)
      have g5b := (ps_old (H' := H4) (b := ⟨[.int .i64 0, .string ⟨#[]⟩], 1, false⟩) (c := ⟨[.int .i64 l[k].1, .string (tx l[k].2)], 1, false⟩) (by omega)).trans g5
      have g7b := (ps_old (H' := H4) (b := ⟨[.int .i64 0, .string ⟨#[]⟩], 1, false⟩) (c := ⟨[.int .i64 l[k].1, .string (tx l[k].2)], 1, false⟩) n4).trans g7
      have n5 := ps_next (H' := H4) (b := ⟨[.int .i64 0, .string ⟨#[]⟩], 1, false⟩) (c := ⟨[.int .i64 l[k].1, .string (tx l[k].2)], 1, false⟩)
      generalize (H4.push ⟨[.int .i64 0, .string ⟨#[]⟩], 1, false⟩).set H4.next (some ⟨[.int .i64 l[k].1, .string (tx l[k].2)], 1, false⟩) = H5 at st5 g9 g5b g7b n5 ⊢
      by_cases hki : k = i
      · rw [if_pos hki] at hwk
        obtain rfl : k = i := hki
        simp only [f0, f1, f5, f13, f14, f15, f6, f7, f23, f24, f25, wk, go_sem, Nat.reduceEqDiff, Nat.reduceAdd, Nat.reduceLeDiff, Int.reduceEq, Int.reduceLT, Int.reduceLE, Int.reduceAdd, Int.reduceSub, Int.reduceMul, Int.reduceNeg, Int.reduceToNat, Nat.reduceMul]
        exact ⟨l.length - (k + 1), by omega, k + 1, by omega, rfl, by simp only [f0, go_sem, Nat.reduceEqDiff, Nat.reduceAdd, Nat.reduceLeDiff, Int.reduceEq, Int.reduceLT, Int.reduceLE, Int.reduceAdd, Int.reduceSub, Int.reduceMul, Int.reduceNeg, Int.reduceToNat, Nat.reduceMul], by simp only [f1, go_sem, Nat.reduceEqDiff, Nat.reduceAdd, Nat.reduceLeDiff, Int.reduceEq, Int.reduceLT, Int.reduceLE, Int.reduceAdd, Int.reduceSub, Int.reduceMul, Int.reduceNeg, Int.reduceToNat, Nat.reduceMul], by simp only [f5, go_sem, Nat.reduceEqDiff, Nat.reduceAdd, Nat.reduceLeDiff, Int.reduceEq, Int.reduceLT, Int.reduceLE, Int.reduceAdd, Int.reduceSub, Int.reduceMul, Int.reduceNeg, Int.reduceToNat, Nat.reduceMul], by simp only [f13, go_sem, Nat.reduceEqDiff, Nat.reduceAdd, Nat.reduceLeDiff, Int.reduceEq, Int.reduceLT, Int.reduceLE, Int.reduceAdd, Int.reduceSub, Int.reduceMul, Int.reduceNeg, Int.reduceToNat, Nat.reduceMul], by simp only [f14, go_sem, Nat.reduceEqDiff, Nat.reduceAdd, Nat.reduceLeDiff, Int.reduceEq, Int.reduceLT, Int.reduceLE, Int.reduceAdd, Int.reduceSub, Int.reduceMul, Int.reduceNeg, Int.reduceToNat, Nat.reduceMul], by simp only [f15, go_sem, Nat.reduceEqDiff, Nat.reduceAdd, Nat.reduceLeDiff, Int.reduceEq, Int.reduceLT, Int.reduceLE, Int.reduceAdd, Int.reduceSub, Int.reduceMul, Int.reduceNeg, Int.reduceToNat, Nat.reduceMul], by simp only [f6, go_sem, Nat.reduceEqDiff, Nat.reduceAdd, Nat.reduceLeDiff, Int.reduceEq, Int.reduceLT, Int.reduceLE, Int.reduceAdd, Int.reduceSub, Int.reduceMul, Int.reduceNeg, Int.reduceToNat, Nat.reduceMul], by simp only [f7, go_sem, Nat.reduceEqDiff, Nat.reduceAdd, Nat.reduceLeDiff, Int.reduceEq, Int.reduceLT, Int.reduceLE, Int.reduceAdd, Int.reduceSub, Int.reduceMul, Int.reduceNeg, Int.reduceToNat, Nat.reduceMul], by simp only [f23, go_sem, Nat.reduceEqDiff, Nat.reduceAdd, Nat.reduceLeDiff, Int.reduceEq, Int.reduceLT, Int.reduceLE, Int.reduceAdd, Int.reduceSub, Int.reduceMul, Int.reduceNeg, Int.reduceToNat, Nat.reduceMul], by simp only [f24, go_sem, Nat.reduceEqDiff, Nat.reduceAdd, Nat.reduceLeDiff, Int.reduceEq, Int.reduceLT, Int.reduceLE, Int.reduceAdd, Int.reduceSub, Int.reduceMul, Int.reduceNeg, Int.reduceToNat, Nat.reduceMul], by simp only [go_sem, Nat.reduceEqDiff, Nat.reduceAdd, Nat.reduceLeDiff, Int.reduceEq, Int.reduceLT, Int.reduceLE, Int.reduceAdd, Int.reduceSub, Int.reduceMul, Int.reduceNeg, Int.reduceToNat, Nat.reduceMul] <;> rfl, st5, by omega, g7b, by rw [hwk]; exact g5b⟩
      · have hki2 : ¬ ((k : Int) = (i : Int)) := by omega
        rw [if_neg hki] at hwk
        have hlen2 := row_len' (fun i => wS (xb l) z i l.length) hi2 (wS (xb l) z i k)
        have hgb := row_gb (fun i => wS (xb l) z i l.length) i (wS (xb l) z i k) (zb (l.length - (i + 1)))
        have hrow2 := row_again (fun i => wS (xb l) z i l.length) (i := i) (wS (xb l) z i k) (wS (xb l) z i (k + 1)) (zb (l.length - (i + 1)))
        have wx1 := xb_wrap hi2 (hg i hi2)
        have wx2 := xb_wrap hk2 (hg k hk2)
        have hat := u8r_at (l := (List.range i).map (fun i => wS (xb l) z i l.length) ++ wS (xb l) z i k :: zb (l.length - (i + 1))) (i := i) (by omega)
        rw [hgb] at hat
        simp only [f0, f1, f5, f13, f14, f15, f6, f7, f23, f24, f25, hki2, wk, g5b, g7b, g9, i0, hi3, hlt, wx1, wx2, xor8, hat, hlen2, ↓(v117 h73 h117 _ _).run, ↓(v73 h73 _ _ _).run, idxSP_slc, Int.toNat_natCast, u8r_len, u8r_ro, u8r_es, addA, Nat.zero_add, Nat.add_zero, Nat.mul_one, stc_eq, stB_some, splice_one, ← hwk, relow', u8r_set, hrow2, go_sem, Nat.reduceEqDiff, Nat.reduceAdd, Nat.reduceLeDiff, Int.reduceEq, Int.reduceLT, Int.reduceLE, Int.reduceAdd, Int.reduceSub, Int.reduceMul, Int.reduceNeg, Int.reduceToNat, Nat.reduceMul]
        exact ⟨l.length - (k + 1), by omega, k + 1, by omega, rfl, by simp only [f0, go_sem, Nat.reduceEqDiff, Nat.reduceAdd, Nat.reduceLeDiff, Int.reduceEq, Int.reduceLT, Int.reduceLE, Int.reduceAdd, Int.reduceSub, Int.reduceMul, Int.reduceNeg, Int.reduceToNat, Nat.reduceMul], by simp only [f1, go_sem, Nat.reduceEqDiff, Nat.reduceAdd, Nat.reduceLeDiff, Int.reduceEq, Int.reduceLT, Int.reduceLE, Int.reduceAdd, Int.reduceSub, Int.reduceMul, Int.reduceNeg, Int.reduceToNat, Nat.reduceMul], by simp only [f5, go_sem, Nat.reduceEqDiff, Nat.reduceAdd, Nat.reduceLeDiff, Int.reduceEq, Int.reduceLT, Int.reduceLE, Int.reduceAdd, Int.reduceSub, Int.reduceMul, Int.reduceNeg, Int.reduceToNat, Nat.reduceMul], by simp only [f13, go_sem, Nat.reduceEqDiff, Nat.reduceAdd, Nat.reduceLeDiff, Int.reduceEq, Int.reduceLT, Int.reduceLE, Int.reduceAdd, Int.reduceSub, Int.reduceMul, Int.reduceNeg, Int.reduceToNat, Nat.reduceMul], by simp only [f14, go_sem, Nat.reduceEqDiff, Nat.reduceAdd, Nat.reduceLeDiff, Int.reduceEq, Int.reduceLT, Int.reduceLE, Int.reduceAdd, Int.reduceSub, Int.reduceMul, Int.reduceNeg, Int.reduceToNat, Nat.reduceMul], by simp only [f15, go_sem, Nat.reduceEqDiff, Nat.reduceAdd, Nat.reduceLeDiff, Int.reduceEq, Int.reduceLT, Int.reduceLE, Int.reduceAdd, Int.reduceSub, Int.reduceMul, Int.reduceNeg, Int.reduceToNat, Nat.reduceMul], by simp only [f6, go_sem, Nat.reduceEqDiff, Nat.reduceAdd, Nat.reduceLeDiff, Int.reduceEq, Int.reduceLT, Int.reduceLE, Int.reduceAdd, Int.reduceSub, Int.reduceMul, Int.reduceNeg, Int.reduceToNat, Nat.reduceMul], by simp only [f7, go_sem, Nat.reduceEqDiff, Nat.reduceAdd, Nat.reduceLeDiff, Int.reduceEq, Int.reduceLT, Int.reduceLE, Int.reduceAdd, Int.reduceSub, Int.reduceMul, Int.reduceNeg, Int.reduceToNat, Nat.reduceMul], by simp only [f23, go_sem, Nat.reduceEqDiff, Nat.reduceAdd, Nat.reduceLeDiff, Int.reduceEq, Int.reduceLT, Int.reduceLE, Int.reduceAdd, Int.reduceSub, Int.reduceMul, Int.reduceNeg, Int.reduceToNat, Nat.reduceMul], by simp only [f24, go_sem, Nat.reduceEqDiff, Nat.reduceAdd, Nat.reduceLeDiff, Int.reduceEq, Int.reduceLT, Int.reduceLE, Int.reduceAdd, Int.reduceSub, Int.reduceMul, Int.reduceNeg, Int.reduceToNat, Nat.reduceMul], by simp only [go_sem, Nat.reduceEqDiff, Nat.reduceAdd, Nat.reduceLeDiff, Int.reduceEq, Int.reduceLT, Int.reduceLE, Int.reduceAdd, Int.reduceSub, Int.reduceMul, Int.reduceNeg, Int.reduceToNat, Nat.reduceMul] <;> rfl, st5.set (Nat.le_refl _) _, by rw [AH.next_set]; omega, (AH.get_set_ne H5 _ (by omega)).trans g7b, AH.get_set_eq H5 _ (by omega)⟩
    · have hke : k = l.length := by omega
      subst hke
      have hdone := row_done (fun i => wS (xb l) z i l.length) i (zb (l.length - (i + 1)))
      rw [hdone] at g5
      simp only [f0, f1, f5, f13, f14, f15, f6, f7, f23, f24, f25, hltk, wi, go_sem, Nat.reduceEqDiff, Nat.reduceAdd, Nat.reduceLeDiff, Int.reduceEq, Int.reduceLT, Int.reduceLE, Int.reduceAdd, Int.reduceSub, Int.reduceMul, Int.reduceNeg, Int.reduceToNat, Nat.reduceMul]
      exact ⟨l.length - (i + 1), by omega, i + 1, by omega, rfl, by simp only [f0, go_sem, Nat.reduceEqDiff, Nat.reduceAdd, Nat.reduceLeDiff, Int.reduceEq, Int.reduceLT, Int.reduceLE, Int.reduceAdd, Int.reduceSub, Int.reduceMul, Int.reduceNeg, Int.reduceToNat, Nat.reduceMul], by simp only [f1, go_sem, Nat.reduceEqDiff, Nat.reduceAdd, Nat.reduceLeDiff, Int.reduceEq, Int.reduceLT, Int.reduceLE, Int.reduceAdd, Int.reduceSub, Int.reduceMul, Int.reduceNeg, Int.reduceToNat, Nat.reduceMul], by simp only [f5, go_sem, Nat.reduceEqDiff, Nat.reduceAdd, Nat.reduceLeDiff, Int.reduceEq, Int.reduceLT, Int.reduceLE, Int.reduceAdd, Int.reduceSub, Int.reduceMul, Int.reduceNeg, Int.reduceToNat, Nat.reduceMul], by simp only [f13, go_sem, Nat.reduceEqDiff, Nat.reduceAdd, Nat.reduceLeDiff, Int.reduceEq, Int.reduceLT, Int.reduceLE, Int.reduceAdd, Int.reduceSub, Int.reduceMul, Int.reduceNeg, Int.reduceToNat, Nat.reduceMul], by simp only [f14, go_sem, Nat.reduceEqDiff, Nat.reduceAdd, Nat.reduceLeDiff, Int.reduceEq, Int.reduceLT, Int.reduceLE, Int.reduceAdd, Int.reduceSub, Int.reduceMul, Int.reduceNeg, Int.reduceToNat, Nat.reduceMul], by simp only [go_sem, Nat.reduceEqDiff, Nat.reduceAdd, Nat.reduceLeDiff, Int.reduceEq, Int.reduceLT, Int.reduceLE, Int.reduceAdd, Int.reduceSub, Int.reduceMul, Int.reduceNeg, Int.reduceToNat, Nat.reduceMul] <;> rfl, st4, by omega, g5⟩
  · have hie : i = l.length := by omega
    subst hie
    have hw : (List.range l.length).map (fun i => wS (xb l) z i l.length) ++ zb (l.length - l.length) = wL l z := by simp [wL, zb]
    rw [hw] at g5
    have ho : Own H.next H' 1 (.slice (some ⟨H.next, 0, none⟩) l.length l.length) l.length (bc (wL l z)) := .inr ⟨H.next, rfl, g5, by rw [bc_len, wL_len]; omega, Nat.le_refl _, h0⟩
    simp only [f0, f1, f5, f13, f14, f15, hlt, go_sem, Nat.reduceEqDiff, Nat.reduceAdd, Nat.reduceLeDiff, Int.reduceEq, Int.reduceLT, Int.reduceLE, Int.reduceAdd, Int.reduceSub, Int.reduceMul, Int.reduceNeg, Int.reduceToNat, Nat.reduceMul]
    rw [back_own ho (Nat.le_refl _) st.low (bc_p1 _)]
    exact hQ
end Go.Proofs.Ytildhljhbbhmmaa.AM
namespace Go.Proofs.Ytildhljhbbhmmaa.AM
open Go
set_option linter.all false
set_option maxRecDepth 10000

theorem ldcB_two {ob : Option Blk} {off : Nat} {x y : Value} (h : ldcB ob off 2 = some [x, y]) : ldcB ob off 1 = some [x] ∧ ldcB ob (off + 1) 1 = some [y] := by
  cases ob with
  | none => simp [ldcB] at h
  | some b =>
    rw [ldcB_some] at h
    split at h
    · rename_i hle
      simp only [Option.some.injEq] at h
      have h1 : off < b.cells.length := by omega
      have h2 : off + 1 < b.cells.length := by omega
      rw [List.drop_eq_getElem_cons h1, List.drop_eq_getElem_cons h2] at h
      simp only [List.take_succ_cons, List.take_zero, List.cons.injEq, and_true] at h
      obtain ⟨e1, e2⟩ := h
      rw [ldcB_some, ldcB_some, if_pos (by omega), if_pos (by omega), take_one h1, take_one h2, e1, e2]
      exact ⟨rfl, rfl⟩
    · simp at h
/-- Element 0 is read. -/
theorem Sl.at0 {H : AH} {es n : Nat} {v : Value} {l : List Value} (h : Sl H es v n l) (hi : 0 < n) {K : Value → Prop} (hK : ∀ p : Addr, p.block < H.next → ldcB (H.get p.block) p.off es = some ((l.drop 0).take es) → K (.pointer (some p))) : (@idxSP v es (0 : Int) ⟨K⟩) :=
  h.at_ (i := 0) hi fun p h1 h2 => hK p h1 (by rwa [Nat.zero_mul] at h2)
/-- Byte j of share i. -/
def yb (l : List Sh) (j i : Nat) : UInt8 := gb (l.getD i (0, [])).2 j
theorem yb_at {l : List Sh} {i j : Nat} (h : i < l.length) : yb l j i = gb l[i].2 j := by simp [yb, h]
/-- The values of shares at a place: m of them. -/
def vL (l : List Sh) (m : Nat) (z : UInt8) : List UInt8 := (List.range m).map fun j => vS (xb l) (yb l j) l.length z l.length
theorem vL_len {l : List Sh} {m : Nat} {z : UInt8} : (vL l m z).length = m := by simp [vL]
def mixR (l : List Sh) (m : Nat) (z : UInt8) (i j : Nat) : List UInt8 := (List.range m).map fun j' => if j' < j then vS (xb l) (yb l j') l.length z (i + 1) else vS (xb l) (yb l j') l.length z i
theorem mixR_len {l : List Sh} {m : Nat} {z : UInt8} {i j : Nat} : (mixR l m z i j).length = m := by simp [mixR]
theorem mixR_gb {l : List Sh} {m : Nat} {z : UInt8} {i j : Nat} (h : j < m) : gb (mixR l m z i j) j = vS (xb l) (yb l j) l.length z i := by
  simp [gb, mixR, h]
theorem mixR_set {l : List Sh} {m : Nat} {z : UInt8} {i j : Nat} (h : j < m) : (mixR l m z i j).set j (vS (xb l) (yb l j) l.length z (i + 1)) = mixR l m z i (j + 1) := by
  refine List.ext_getElem (by simp [mixR]) fun k h1 h2 => ?_
  rw [List.getElem_set]
  simp only [mixR, List.getElem_map, List.getElem_range]
  by_cases hk : j = k
  · subst hk
    rw [if_pos rfl, if_pos (by omega)]
  · rw [if_neg hk]
    by_cases hj : k < j
    · rw [if_pos hj, if_pos (by omega)]
    · rw [if_neg hj, if_neg (by omega)]
theorem mixR_end {l : List Sh} {m : Nat} {z : UInt8} {i : Nat} : mixR l m z i m = mixR l m z (i + 1) 0 := by
  refine List.ext_getElem (by simp [mixR]) fun k h1 h2 => ?_
  simp only [mixR, List.getElem_map, List.getElem_range]
  rw [mixR_len] at h1
  rw [if_pos h1, if_neg (by omega)]
theorem mixR_start {l : List Sh} {m : Nat} {z : UInt8} : mixR l m z 0 0 = zb m := by
  refine List.ext_getElem (by simp [mixR, zb]) fun k h1 h2 => ?_
  simp only [mixR, List.getElem_map, List.getElem_range, zb, List.getElem_replicate]
  rw [if_neg (by omega)]
  rfl
theorem mixR_all {l : List Sh} {m : Nat} {z : UInt8} : mixR l m z l.length 0 = vL l m z := by
  refine List.ext_getElem (by simp [mixR, vL]) fun k h1 h2 => ?_
  simp only [mixR, vL, List.getElem_map, List.getElem_range]
  rw [if_neg (by omega)]
theorem wL_gb {l : List Sh} {z : UInt8} {i : Nat} (h : i < l.length) : gb (wL l z) i = wS (xb l) z i l.length := by
  simp [gb, wL, h]
variable {tbl : Tbl} [hT : TMono tbl]
theorem v70 (h73 : tbl 73 = some (.code m73)) (h117 : tbl 117 = some (.code m117)) (h100 : tbl 100 = some (.code m100)) (h70 : tbl 70 = some (.code m70)) (l : List Sh) (hg : ∀ i (h : i < l.length), 0 ≤ l[i].1 ∧ l[i].1 ≤ 255) (h0 : 0 < l.length) (h1 : l.length ≤ 1000) (m : Nat) (hm : ∀ i (h : i < l.length), l[i].2.length = m) (hm2 : m ≤ 1000000) {H : AH} {v : Value} (hs : Sl H 2 v l.length (shc l)) (z : UInt8) :
    Val tbl 70 [v, .int .u8 (z.toNat : Int)] H (.string (tx (vL l m z))) H := by
  refine Val.of_all fun Q hQ => ?_
  obtain ⟨ad, cp, hv⟩ := hs.shape
  subst hv
  rw [rn_fun h70, k70]
  have hsE : Sl H.enter 2 (.slice ad l.length cp) l.length (shc l) := hs
  have hw := v100 h73 h117 h100 l hg h0 h1 hsE z
  rw [mkS_pos h0, mkH_pos h0] at hw
  have hu : (⟨bc (wL l z), 1, false⟩ : Blk) = u8r (wL l z) := rfl
  rw [hu] at hw
  have st1 := (Junk.enter H).push (u8r (wL l z))
  have gw := AH.get_push_eq H.enter (u8r (wL l z))
  have hn1 : (H.enter.push (u8r (wL l z))).next = H.next + 1 := by rw [AH.next_push, nx_enter]
  rw [nx_enter] at hw gw
  simp only [↓hw.run, go_sem, Nat.reduceEqDiff, Nat.reduceAdd, Nat.reduceLeDiff, Int.reduceEq, Int.reduceLT, Int.reduceLE, Int.reduceAdd, Int.reduceSub, Int.reduceMul, Int.reduceNeg, Int.reduceToNat, Nat.reduceMul]
  generalize H.enter.push (u8r (wL l z)) = H1 at st1 gw hn1 ⊢
  have c0 : (0 : Int) ≤ m := by omega
  have c1 : (m : Int) ≤ 9223372036854775807 := by omega
  have c2 : m ≤ 140737488355328 := by omega
  refine (hs.keep st1.old).at0 h0 fun q hq1 hq2 => ?_
  have hq3 := shc_at l 0 h0
  rw [Nat.zero_mul] at hq3
  rw [hq3] at hq2
  obtain ⟨_, hq4⟩ := ldcB_two hq2
  have hm0 := hm 0 h0
  simp only [hq4, tx_size, hm0, addA, Int.toNat_natCast, rep_zb, c0, c1, c2, Int.le_refl, go_sem, Nat.reduceEqDiff, Nat.reduceAdd, Nat.reduceLeDiff, Int.reduceEq, Int.reduceLT, Int.reduceLE, Int.reduceAdd, Int.reduceSub, Int.reduceMul, Int.reduceNeg, Int.reduceToNat, Nat.reduceMul]
  refine rn_loop (fun mm f H' => ∃ i : Nat, i ≤ l.length ∧ mm = l.length - i ∧ f 5 = .slice (some ⟨H.next, 0, none⟩) l.length l.length ∧ f 6 = .slice (some ⟨H.next + 1, 0, none⟩) m m ∧ f 19 = .slice ad l.length cp ∧ f 20 = .int .i64 l.length ∧ f 21 = .int .i64 i ∧ Junk H H' ∧ H.next + 1 < H'.next ∧ H'.get H.next = some (u8r (wL l z)) ∧ H'.get (H.next + 1) = some (u8r (mixR l m z i 0))) ?_ (n := l.length)
    ⟨0, by omega, rfl, by simp only [go_sem, Nat.reduceEqDiff, Nat.reduceAdd, Nat.reduceLeDiff, Int.reduceEq, Int.reduceLT, Int.reduceLE, Int.reduceAdd, Int.reduceSub, Int.reduceMul, Int.reduceNeg, Int.reduceToNat, Nat.reduceMul], by simp only [hn1, go_sem, Nat.reduceEqDiff, Nat.reduceAdd, Nat.reduceLeDiff, Int.reduceEq, Int.reduceLT, Int.reduceLE, Int.reduceAdd, Int.reduceSub, Int.reduceMul, Int.reduceNeg, Int.reduceToNat, Nat.reduceMul], by simp only [go_sem, Nat.reduceEqDiff, Nat.reduceAdd, Nat.reduceLeDiff, Int.reduceEq, Int.reduceLT, Int.reduceLE, Int.reduceAdd, Int.reduceSub, Int.reduceMul, Int.reduceNeg, Int.reduceToNat, Nat.reduceMul], by simp only [go_sem, Nat.reduceEqDiff, Nat.reduceAdd, Nat.reduceLeDiff, Int.reduceEq, Int.reduceLT, Int.reduceLE, Int.reduceAdd, Int.reduceSub, Int.reduceMul, Int.reduceNeg, Int.reduceToNat, Nat.reduceMul], by simp only [go_sem, Nat.reduceEqDiff, Nat.reduceAdd, Nat.reduceLeDiff, Int.reduceEq, Int.reduceLT, Int.reduceLE, Int.reduceAdd, Int.reduceSub, Int.reduceMul, Int.reduceNeg, Int.reduceToNat, Nat.reduceMul] <;> rfl, st1.push _, by rw [AH.next_push]; omega, (AH.get_push_lt H1 _ (by omega)).trans gw, by rw [← hn1, mixR_start]; exact AH.get_push_eq H1 _⟩
  rintro mm f H' ⟨i, hi, rfl, f5, f6, f19, f20, f21, st, n1, g5, g6⟩
  by_cases hlt : (i : Int) < l.length
  · have hi2 : i < l.length := by omega
    have i0 : (0 : Int) ≤ i := by omega
    have hi3 : i + 1 ≤ l.length := by omega
    have hp2 : H'.next < H'.next + 1 := by omega
    have wi := w64 (x := (i : Int) + 1) (by omega) (by omega)
    simp only [f5, f6, f19, f20, f21, hlt, go_sem, Nat.reduceEqDiff, Nat.reduceAdd, Nat.reduceLeDiff, Int.reduceEq, Int.reduceLT, Int.reduceLE, Int.reduceAdd, Int.reduceSub, Int.reduceMul, Int.reduceNeg, Int.reduceToNat, Nat.reduceMul]
    refine (hs.keep st.old).at_ hi2 fun q hq1 hq2 => ?_
    rw [shc_at _ _ hi2] at hq2
    simp only [f5, f6, f19, f20, f21, hlt, hq2, hp2, stc_eq, stB_some, go_sem, Nat.reduceEqDiff, Nat.reduceAdd, Nat.reduceLeDiff, Int.reduceEq, Int.reduceLT, Int.reduceLE, Int.reduceAdd, Int.reduceSub, Int.reduceMul, Int.reduceNeg, Int.reduceToNat, Nat.reduceMul]
    have st2 := (st.push ⟨[.int .i64 0, .string ⟨#[]⟩], 1, false⟩).set st.nx (some ⟨[.int .i64 l[i].1, .string (tx l[i].2)], 1, false⟩)
    have g8 := ps_get (H' := H') (b := ⟨[.int .i64 0, .string ⟨#[]⟩], 1, false⟩) (c := ⟨[.int .i64 l[i].1, .string (tx l[i].2)], 1, false⟩)
    have g5b := (ps_old (H' := H') (b := ⟨[.int .i64 0, .string ⟨#[]⟩], 1, false⟩) (c := ⟨[.int .i64 l[i].1, .string (tx l[i].2)], 1, false⟩) (by omega)).trans g5
    have g6b := (ps_old (H' := H') (b := ⟨[.int .i64 0, .string ⟨#[]⟩], 1, false⟩) (c := ⟨[.int .i64 l[i].1, .string (tx l[i].2)], 1, false⟩) n1).trans g6
    have n2 := ps_next (H' := H') (b := ⟨[.int .i64 0, .string ⟨#[]⟩], 1, false⟩) (c := ⟨[.int .i64 l[i].1, .string (tx l[i].2)], 1, false⟩)
    generalize (H'.push ⟨[.int .i64 0, .string ⟨#[]⟩], 1, false⟩).set H'.next (some ⟨[.int .i64 l[i].1, .string (tx l[i].2)], 1, false⟩) = H2 at st2 g8 g5b g6b n2 ⊢
    refine rn_loop (fun mm f H4 => ∃ j : Nat, j ≤ m ∧ mm = m - j ∧ f 5 = .slice (some ⟨H.next, 0, none⟩) l.length l.length ∧ f 6 = .slice (some ⟨H.next + 1, 0, none⟩) m m ∧ f 19 = .slice ad l.length cp ∧ f 20 = .int .i64 l.length ∧ f 21 = .int .i64 i ∧ f 7 = .int .i64 i ∧ f 8 = .pointer (some ⟨H'.next, 0, none⟩) ∧ f 27 = .int .i64 m ∧ f 28 = .int .i64 j ∧ Junk H H4 ∧ H'.next < H4.next ∧ H4.get H.next = some (u8r (wL l z)) ∧ H4.get (H.next + 1) = some (u8r (mixR l m z i j)) ∧ H4.get H'.next = some ⟨[.int .i64 l[i].1, .string (tx l[i].2)], 1, false⟩) ?_ (n := m)
      ⟨0, by omega, rfl, by simp only [f5, go_sem, Nat.reduceEqDiff, Nat.reduceAdd, Nat.reduceLeDiff, Int.reduceEq, Int.reduceLT, Int.reduceLE, Int.reduceAdd, Int.reduceSub, Int.reduceMul, Int.reduceNeg, Int.reduceToNat, Nat.reduceMul], by simp only [f6, go_sem, Nat.reduceEqDiff, Nat.reduceAdd, Nat.reduceLeDiff, Int.reduceEq, Int.reduceLT, Int.reduceLE, Int.reduceAdd, Int.reduceSub, Int.reduceMul, Int.reduceNeg, Int.reduceToNat, Nat.reduceMul], by simp only [f19, go_sem, Nat.reduceEqDiff, Nat.reduceAdd, Nat.reduceLeDiff, Int.reduceEq, Int.reduceLT, Int.reduceLE, Int.reduceAdd, Int.reduceSub, Int.reduceMul, Int.reduceNeg, Int.reduceToNat, Nat.reduceMul], by simp only [f20, go_sem, Nat.reduceEqDiff, Nat.reduceAdd, Nat.reduceLeDiff, Int.reduceEq, Int.reduceLT, Int.reduceLE, Int.reduceAdd, Int.reduceSub, Int.reduceMul, Int.reduceNeg, Int.reduceToNat, Nat.reduceMul], by simp only [f21, go_sem, Nat.reduceEqDiff, Nat.reduceAdd, Nat.reduceLeDiff, Int.reduceEq, Int.reduceLT, Int.reduceLE, Int.reduceAdd, Int.reduceSub, Int.reduceMul, Int.reduceNeg, Int.reduceToNat, Nat.reduceMul], by simp only [go_sem, Nat.reduceEqDiff, Nat.reduceAdd, Nat.reduceLeDiff, Int.reduceEq, Int.reduceLT, Int.reduceLE, Int.reduceAdd, Int.reduceSub, Int.reduceMul, Int.reduceNeg, Int.reduceToNat, Nat.reduceMul], by simp only [go_sem, Nat.reduceEqDiff, Nat.reduceAdd, Nat.reduceLeDiff, Int.reduceEq, Int.reduceLT, Int.reduceLE, Int.reduceAdd, Int.reduceSub, Int.reduceMul, Int.reduceNeg, Int.reduceToNat, Nat.reduceMul], by simp only [go_sem, Nat.reduceEqDiff, Nat.reduceAdd, Nat.reduceLeDiff, Int.reduceEq, Int.reduceLT, Int.reduceLE, Int.reduceAdd, Int.reduceSub, Int.reduceMul, Int.reduceNeg, Int.reduceToNat, Nat.reduceMul], by simp only [go_sem, Nat.reduceEqDiff, Nat.reduceAdd, Nat.reduceLeDiff, Int.reduceEq, Int.reduceLT, Int.reduceLE, Int.reduceAdd, Int.reduceSub, Int.reduceMul, Int.reduceNeg, Int.reduceToNat, Nat.reduceMul] <;> rfl, st2, by omega, g5b, g6b, g8⟩
    clear f5 f6 f19 f20 f21 g5b g6b g8 st2 n2 hq2 g5 g6 gw hq4
    rintro mm f H4 ⟨j, hj, rfl, f5, f6, f19, f20, f21, f7, f8, f27, f28, st4, n4, g5, g6, g8⟩
    by_cases hltj : (j : Int) < m
    · have hj2 : j < m := by omega
      have j0 : (0 : Int) ≤ j := by omega
      have hj3 : j + 1 ≤ m := by omega
      have wj := w64 (x := (j : Int) + 1) (by omega) (by omega)
      have hvs : vS (xb l) (yb l j) l.length z (i + 1) = vS (xb l) (yb l j) l.length z i ^^^ gM (wS (xb l) z i l.length) (gb l[i].2 j) := by rw [← yb_at hi2]; rfl
      have hat1 := u8r_at (l := mixR l m z i j) (i := j) (by rw [mixR_len]; omega)
      rw [mixR_gb hj2] at hat1
      have hat2 := u8r_at (l := wL l z) (i := i) (by rw [wL_len]; omega)
      rw [wL_gb hi2] at hat2
      have hrow := mixR_set (l := l) (z := z) (i := i) hj2
      have hmi := hm i hi2
      simp only [f5, f6, f19, f20, f21, f7, f8, f27, f28, hltj, i0, j0, hi3, hj3, hlt, wj, g5, g6, g8, hat1, hat2, hmi, tx_size, byteAt_tx, xor8, ↓(v73 h73 _ _ _).run, idxSP_slc, Int.toNat_natCast, u8r_len, u8r_ro, u8r_es, mixR_len, wL_len, addA, Nat.zero_add, Nat.add_zero, Nat.mul_one, stc_eq, stB_some, splice_one, ← hvs, relow', u8r_set, hrow, go_sem, Nat.reduceEqDiff, Nat.reduceAdd, Nat.reduceLeDiff, Int.reduceEq, Int.reduceLT, Int.reduceLE, Int.reduceAdd, Int.reduceSub, Int.reduceMul, Int.reduceNeg, Int.reduceToNat, Nat.reduceMul]
      exact ⟨m - (j + 1), by omega, j + 1, by omega, rfl, by simp only [f5, go_sem, Nat.reduceEqDiff, Nat.reduceAdd, Nat.reduceLeDiff, Int.reduceEq, Int.reduceLT, Int.reduceLE, Int.reduceAdd, Int.reduceSub, Int.reduceMul, Int.reduceNeg, Int.reduceToNat, Nat.reduceMul], by simp only [f6, go_sem, Nat.reduceEqDiff, Nat.reduceAdd, Nat.reduceLeDiff, Int.reduceEq, Int.reduceLT, Int.reduceLE, Int.reduceAdd, Int.reduceSub, Int.reduceMul, Int.reduceNeg, Int.reduceToNat, Nat.reduceMul], by simp only [f19, go_sem, Nat.reduceEqDiff, Nat.reduceAdd, Nat.reduceLeDiff, Int.reduceEq, Int.reduceLT, Int.reduceLE, Int.reduceAdd, Int.reduceSub, Int.reduceMul, Int.reduceNeg, Int.reduceToNat, Nat.reduceMul], by simp only [f20, go_sem, Nat.reduceEqDiff, Nat.reduceAdd, Nat.reduceLeDiff, Int.reduceEq, Int.reduceLT, Int.reduceLE, Int.reduceAdd, Int.reduceSub, Int.reduceMul, Int.reduceNeg, Int.reduceToNat, Nat.reduceMul], by simp only [f21, go_sem, Nat.reduceEqDiff, Nat.reduceAdd, Nat.reduceLeDiff, Int.reduceEq, Int.reduceLT, Int.reduceLE, Int.reduceAdd, Int.reduceSub, Int.reduceMul, Int.reduceNeg, Int.reduceToNat, Nat.reduceMul], by simp only [f7, go_sem, Nat.reduceEqDiff, Nat.reduceAdd, Nat.reduceLeDiff, Int.reduceEq, Int.reduceLT, Int.reduceLE, Int.reduceAdd, Int.reduceSub, Int.reduceMul, Int.reduceNeg, Int.reduceToNat, Nat.reduceMul], by simp only [f8, go_sem, Nat.reduceEqDiff, Nat.reduceAdd, Nat.reduceLeDiff, Int.reduceEq, Int.reduceLT, Int.reduceLE, Int.reduceAdd, Int.reduceSub, Int.reduceMul, Int.reduceNeg, Int.reduceToNat, Nat.reduceMul], by simp only [f27, go_sem, Nat.reduceEqDiff, Nat.reduceAdd, Nat.reduceLeDiff, Int.reduceEq, Int.reduceLT, Int.reduceLE, Int.reduceAdd, Int.reduceSub, Int.reduceMul, Int.reduceNeg, Int.reduceToNat, Nat.reduceMul], by simp only [go_sem, Nat.reduceEqDiff, Nat.reduceAdd, Nat.reduceLeDiff, Int.reduceEq, Int.reduceLT, Int.reduceLE, Int.reduceAdd, Int.reduceSub, Int.reduceMul, Int.reduceNeg, Int.reduceToNat, Nat.reduceMul] <;> rfl, st4.set (by omega) _, by rw [AH.next_set]; omega, (AH.get_set_ne H4 _ (by omega)).trans g5, AH.get_set_eq H4 _ (by omega), (AH.get_set_ne H4 _ (by omega)).trans g8⟩
    · have hje : j = m := by omega
      subst hje
      rw [mixR_end] at g6
      simp only [f5, f6, f19, f20, f21, f7, f8, f27, f28, hltj, wi, go_sem, Nat.reduceEqDiff, Nat.reduceAdd, Nat.reduceLeDiff, Int.reduceEq, Int.reduceLT, Int.reduceLE, Int.reduceAdd, Int.reduceSub, Int.reduceMul, Int.reduceNeg, Int.reduceToNat, Nat.reduceMul]
      exact ⟨l.length - (i + 1), by omega, i + 1, by omega, rfl, by simp only [f5, go_sem, Nat.reduceEqDiff, Nat.reduceAdd, Nat.reduceLeDiff, Int.reduceEq, Int.reduceLT, Int.reduceLE, Int.reduceAdd, Int.reduceSub, Int.reduceMul, Int.reduceNeg, Int.reduceToNat, Nat.reduceMul], by simp only [f6, go_sem, Nat.reduceEqDiff, Nat.reduceAdd, Nat.reduceLeDiff, Int.reduceEq, Int.reduceLT, Int.reduceLE, Int.reduceAdd, Int.reduceSub, Int.reduceMul, Int.reduceNeg, Int.reduceToNat, Nat.reduceMul], by simp only [f19, go_sem, Nat.reduceEqDiff, Nat.reduceAdd, Nat.reduceLeDiff, Int.reduceEq, Int.reduceLT, Int.reduceLE, Int.reduceAdd, Int.reduceSub, Int.reduceMul, Int.reduceNeg, Int.reduceToNat, Nat.reduceMul], by simp only [f20, go_sem, Nat.reduceEqDiff, Nat.reduceAdd, Nat.reduceLeDiff, Int.reduceEq, Int.reduceLT, Int.reduceLE, Int.reduceAdd, Int.reduceSub, Int.reduceMul, Int.reduceNeg, Int.reduceToNat, Nat.reduceMul], by simp only [go_sem, Nat.reduceEqDiff, Nat.reduceAdd, Nat.reduceLeDiff, Int.reduceEq, Int.reduceLT, Int.reduceLE, Int.reduceAdd, Int.reduceSub, Int.reduceMul, Int.reduceNeg, Int.reduceToNat, Nat.reduceMul] <;> rfl, st4, by omega, g5, g6⟩
  · have hie : i = l.length := by omega
    subst hie
    rw [mixR_all] at g6
    have hsb := slcBytes_row (n := m) (c := m) g6 vL_len.symm
    have hnl : ¬ H'.low < H.next := by
      have := st.low
      omega
    simp only [f5, f6, f19, f20, f21, hlt, hsb, hnl, go_sem, Nat.reduceEqDiff, Nat.reduceAdd, Nat.reduceLeDiff, Int.reduceEq, Int.reduceLT, Int.reduceLE, Int.reduceAdd, Int.reduceSub, Int.reduceMul, Int.reduceNeg, Int.reduceToNat, Nat.reduceMul]
    exact hQ
end Go.Proofs.Ytildhljhbbhmmaa.AM
namespace Go.Proofs.Ytildhljhbbhmmaa.AM
open Go
set_option linter.all false
set_option maxRecDepth 10000

theorem xor63u (a b : UInt8) : bitsK .xor .i64 (a.toNat : Int) (b.toNat : Int) = ((a ^^^ b).toNat : Int) := by
  have h1 := UInt8.toNat_lt a
  have h2 := UInt8.toNat_lt b
  rw [xor63 _ _ (by omega) (by omega), UInt8.toNat_xor]
theorem wS_congr {x x' : Nat → UInt8} {z : UInt8} {i : Nat} : ∀ {k : Nat}, (∀ j, j < k → x j = x' j) → x i = x' i → wS x z i k = wS x' z i k
  | 0, _, _ => rfl
  | k + 1, h, e => by
    simp only [wS]
    rw [wS_congr (fun j hj => h j (by omega)) e, h k (by omega), e]
theorem vS_congr {x x' y y' : Nat → UInt8} {n : Nat} {z : UInt8} (hx : ∀ j, j < n → x j = x' j) (hy : ∀ j, j < n → y j = y' j) : ∀ {i : Nat}, i ≤ n → vS x y n z i = vS x' y' n z i
  | 0, _ => rfl
  | i + 1, h => by
    simp only [vS]
    rw [vS_congr hx hy (by omega), wS_congr hx (hx i (by omega)), hy i (by omega)]
theorem tS_wS (x y : Nat → UInt8) (n : Nat) (z : UInt8) (i : Nat) : vS x y n z (i + 1) = vS x y n z i ^^^ tS x y z i n := by
  rw [tS_eq]; rfl
variable {tbl : Tbl} [hT : TMono tbl]
theorem v101 (h74 : tbl 74 = some (.code m74)) (h101 : tbl 101 = some (.code m101)) (a : UInt8) (ha : a ≠ 0) (H : AH) : Val tbl 101 [.int .i64 (a.toNat : Int)] H (.int .i64 ((gI a).toNat : Int)) H := by
  refine Val.of_all fun Q hQ => ?_
  rw [rn_fun h101, k101]
  have hg := UInt8.toNat_lt (gI a)
  simp only [go_sem, Nat.reduceEqDiff, Nat.reduceAdd, Nat.reduceLeDiff, Int.reduceEq, Int.reduceLT, Int.reduceLE, Int.reduceAdd, Int.reduceSub, Int.reduceMul, Int.reduceNeg, Int.reduceToNat, Nat.reduceMul]
  refine rn_loop (fun m f H' => ∃ (j : Nat), j ≤ (gI a).toNat ∧ m = 256 - j ∧ f 0 = .int .i64 (a.toNat : Int) ∧ f 4 = .int .i64 (j : Int) ∧ H' = H.enter) ?_ (n := 256)
    ⟨0, by omega, rfl, by simp only [go_sem, Nat.reduceEqDiff, Nat.reduceAdd, Nat.reduceLeDiff, Int.reduceEq, Int.reduceLT, Int.reduceLE, Int.reduceAdd, Int.reduceSub, Int.reduceMul, Int.reduceNeg, Int.reduceToNat, Nat.reduceMul], by simp only [go_sem, Nat.reduceEqDiff, Nat.reduceAdd, Nat.reduceLeDiff, Int.reduceEq, Int.reduceLT, Int.reduceLE, Int.reduceAdd, Int.reduceSub, Int.reduceMul, Int.reduceNeg, Int.reduceToNat, Nat.reduceMul] <;> rfl, rfl⟩
  rintro m f H' ⟨j, hj, rfl, f0, f4, rfl⟩
  have hlt : (j : Int) < 256 := by omega
  have hjb : ((j : Nat) : Int) = ((UInt8.ofNat j).toNat : Int) := by
    rw [UInt8.toNat_ofNat']; omega
  have wj := w64 (x := (j : Int) + 1) (by omega) (by omega)
  have hv := fun X => v74 h74 a (UInt8.ofNat j) X
  rw [← hjb] at hv
  by_cases h1 : gM a (UInt8.ofNat j) = 1
  · have he : UInt8.ofNat j = gI a := gM_cancel ha (by rw [h1, gM_I a ha])
    have e1 : (((gM a (UInt8.ofNat j)).toNat : Int) = 1) := by rw [h1]; rfl
    have hjg : ((j : Nat) : Int) = ((gI a).toNat : Int) := by rw [hjb, he]
    simp only [f0, f4, hlt, wj, ↓(hv _).run, e1, go_sem, Nat.reduceEqDiff, Nat.reduceAdd, Nat.reduceLeDiff, Int.reduceEq, Int.reduceLT, Int.reduceLE, Int.reduceAdd, Int.reduceSub, Int.reduceMul, Int.reduceNeg, Int.reduceToNat, Nat.reduceMul]
    rw [hjg]
    exact hQ
  · have e1 : ¬ (((gM a (UInt8.ofNat j)).toNat : Int) = 1) := fun e => h1 (by
      apply UInt8.toNat_inj.1
      have : (gM a (UInt8.ofNat j)).toNat = 1 := by omega
      rw [this]; rfl)
    have hne : j ≠ (gI a).toNat := fun e => h1 (by
      rw [e, UInt8.ofNat_toNat, gM_I a ha])
    simp only [f0, f4, hlt, wj, ↓(hv _).run, e1, go_sem, Nat.reduceEqDiff, Nat.reduceAdd, Nat.reduceLeDiff, Int.reduceEq, Int.reduceLT, Int.reduceLE, Int.reduceAdd, Int.reduceSub, Int.reduceMul, Int.reduceNeg, Int.reduceToNat, Nat.reduceMul]
    exact ⟨256 - (j + 1), by omega, j + 1, by omega, rfl, by simp only [f0, go_sem, Nat.reduceEqDiff, Nat.reduceAdd, Nat.reduceLeDiff, Int.reduceEq, Int.reduceLT, Int.reduceLE, Int.reduceAdd, Int.reduceSub, Int.reduceMul, Int.reduceNeg, Int.reduceToNat, Nat.reduceMul], by simp only [go_sem, Nat.reduceEqDiff, Nat.reduceAdd, Nat.reduceLeDiff, Int.reduceEq, Int.reduceLT, Int.reduceLE, Int.reduceAdd, Int.reduceSub, Int.reduceMul, Int.reduceNeg, Int.reduceToNat, Nat.reduceMul] <;> rfl, rfl⟩
theorem v72 (h74 : tbl 74 = some (.code m74)) (h101 : tbl 101 = some (.code m101)) (h72 : tbl 72 = some (.code m72)) (l : List Sh) (n : Nat) (hn : n ≤ l.length) (hn2 : n ≤ 1000) (hg : ∀ i (h : i < l.length), 0 ≤ l[i].1 ∧ l[i].1 ≤ 255) (hd : ∀ i k, i < n → k < n → i ≠ k → xb l i ≠ xb l k) (j : Nat) (hj : ∀ i (h : i < l.length), j < l[i].2.length) (hj2 : j ≤ 1000000) {H : AH} {v : Value} (hs : Sl H 2 v l.length (shc l)) (z : UInt8) :
    Val tbl 72 [v, .int .i64 n, .int .i64 j, .int .i64 (z.toNat : Int)] H (.int .i64 ((vS (xb l) (yb l j) n z n).toNat : Int)) H := by
  refine Val.of_all fun Q hQ => ?_
  obtain ⟨ad, cp, hv⟩ := hs.shape
  subst hv
  rw [rn_fun h72, k72]
  simp only [go_sem, Nat.reduceEqDiff, Nat.reduceAdd, Nat.reduceLeDiff, Int.reduceEq, Int.reduceLT, Int.reduceLE, Int.reduceAdd, Int.reduceSub, Int.reduceMul, Int.reduceNeg, Int.reduceToNat, Nat.reduceMul]
  refine rn_loop (fun mm f H' => ∃ i : Nat, i ≤ n ∧ mm = n - i ∧ f 0 = .slice ad l.length cp ∧ f 1 = .int .i64 n ∧ f 2 = .int .i64 j ∧ f 3 = .int .i64 (z.toNat : Int) ∧ f 9 = .int .i64 ((vS (xb l) (yb l j) n z i).toNat : Int) ∧ f 13 = .int .i64 n ∧ f 14 = .int .i64 i ∧ H' = H.enter) ?_ (n := n)
    ⟨0, by omega, rfl, by simp only [go_sem, Nat.reduceEqDiff, Nat.reduceAdd, Nat.reduceLeDiff, Int.reduceEq, Int.reduceLT, Int.reduceLE, Int.reduceAdd, Int.reduceSub, Int.reduceMul, Int.reduceNeg, Int.reduceToNat, Nat.reduceMul], by simp only [go_sem, Nat.reduceEqDiff, Nat.reduceAdd, Nat.reduceLeDiff, Int.reduceEq, Int.reduceLT, Int.reduceLE, Int.reduceAdd, Int.reduceSub, Int.reduceMul, Int.reduceNeg, Int.reduceToNat, Nat.reduceMul], by simp only [go_sem, Nat.reduceEqDiff, Nat.reduceAdd, Nat.reduceLeDiff, Int.reduceEq, Int.reduceLT, Int.reduceLE, Int.reduceAdd, Int.reduceSub, Int.reduceMul, Int.reduceNeg, Int.reduceToNat, Nat.reduceMul], by simp only [go_sem, Nat.reduceEqDiff, Nat.reduceAdd, Nat.reduceLeDiff, Int.reduceEq, Int.reduceLT, Int.reduceLE, Int.reduceAdd, Int.reduceSub, Int.reduceMul, Int.reduceNeg, Int.reduceToNat, Nat.reduceMul], by simp only [go_sem, Nat.reduceEqDiff, Nat.reduceAdd, Nat.reduceLeDiff, Int.reduceEq, Int.reduceLT, Int.reduceLE, Int.reduceAdd, Int.reduceSub, Int.reduceMul, Int.reduceNeg, Int.reduceToNat, Nat.reduceMul] <;> rfl, by simp only [go_sem, Nat.reduceEqDiff, Nat.reduceAdd, Nat.reduceLeDiff, Int.reduceEq, Int.reduceLT, Int.reduceLE, Int.reduceAdd, Int.reduceSub, Int.reduceMul, Int.reduceNeg, Int.reduceToNat, Nat.reduceMul], by simp only [go_sem, Nat.reduceEqDiff, Nat.reduceAdd, Nat.reduceLeDiff, Int.reduceEq, Int.reduceLT, Int.reduceLE, Int.reduceAdd, Int.reduceSub, Int.reduceMul, Int.reduceNeg, Int.reduceToNat, Nat.reduceMul] <;> rfl, rfl⟩
  rintro mm f H' ⟨i, hi, rfl, f0, f1, f2, f3, f9, f13, f14, rfl⟩
  have hsE : Sl H.enter 2 (.slice ad l.length cp) l.length (shc l) := hs
  by_cases hlt : (i : Int) < n
  · have hi2 : i < n := by omega
    have hi3 : i < l.length := by omega
    have j0 : (0 : Int) ≤ j := by omega
    have wi := w64 (x := (i : Int) + 1) (by omega) (by omega)
    have hji := hj i hi3
    have hji1 : (j : Int) < l[i].2.length := by omega
    have hji2 : j + 1 ≤ l[i].2.length := by omega
    have hb := (gb l[i].2 j).toNat_lt
    have wb := w64 (x := ((gb l[i].2 j).toNat : Int)) (by omega) (by omega)
    simp only [f0, f1, f2, f3, f9, f13, f14, hlt, go_sem, Nat.reduceEqDiff, Nat.reduceAdd, Nat.reduceLeDiff, Int.reduceEq, Int.reduceLT, Int.reduceLE, Int.reduceAdd, Int.reduceSub, Int.reduceMul, Int.reduceNeg, Int.reduceToNat, Nat.reduceMul]
    refine hs.at_ hi3 fun q hq1 hq2 => ?_
    rw [shc_at _ _ hi3] at hq2
    obtain ⟨_, hq4⟩ := ldcB_two hq2
    simp only [f0, f1, f2, f3, f9, f13, f14, hlt, hq4, addA, j0, hji1, hji2, wb, tx_size, byteAt_tx, Int.toNat_natCast, go_sem, Nat.reduceEqDiff, Nat.reduceAdd, Nat.reduceLeDiff, Int.reduceEq, Int.reduceLT, Int.reduceLE, Int.reduceAdd, Int.reduceSub, Int.reduceMul, Int.reduceNeg, Int.reduceToNat, Nat.reduceMul]
    refine rn_loop (fun mm f H' => ∃ k : Nat, k ≤ n ∧ mm = n - k ∧ f 0 = .slice ad l.length cp ∧ f 1 = .int .i64 n ∧ f 2 = .int .i64 j ∧ f 3 = .int .i64 (z.toNat : Int) ∧ f 9 = .int .i64 ((vS (xb l) (yb l j) n z i).toNat : Int) ∧ f 13 = .int .i64 n ∧ f 14 = .int .i64 i ∧ f 10 = .int .i64 i ∧ f 11 = .int .i64 ((tS (xb l) (yb l j) z i k).toNat : Int) ∧ f 25 = .int .i64 n ∧ f 26 = .int .i64 k ∧ H' = H.enter) ?_ (n := n)
      ⟨0, by omega, rfl, by simp only [f0, go_sem, Nat.reduceEqDiff, Nat.reduceAdd, Nat.reduceLeDiff, Int.reduceEq, Int.reduceLT, Int.reduceLE, Int.reduceAdd, Int.reduceSub, Int.reduceMul, Int.reduceNeg, Int.reduceToNat, Nat.reduceMul], by simp only [f1, go_sem, Nat.reduceEqDiff, Nat.reduceAdd, Nat.reduceLeDiff, Int.reduceEq, Int.reduceLT, Int.reduceLE, Int.reduceAdd, Int.reduceSub, Int.reduceMul, Int.reduceNeg, Int.reduceToNat, Nat.reduceMul], by simp only [f2, go_sem, Nat.reduceEqDiff, Nat.reduceAdd, Nat.reduceLeDiff, Int.reduceEq, Int.reduceLT, Int.reduceLE, Int.reduceAdd, Int.reduceSub, Int.reduceMul, Int.reduceNeg, Int.reduceToNat, Nat.reduceMul], by simp only [f3, go_sem, Nat.reduceEqDiff, Nat.reduceAdd, Nat.reduceLeDiff, Int.reduceEq, Int.reduceLT, Int.reduceLE, Int.reduceAdd, Int.reduceSub, Int.reduceMul, Int.reduceNeg, Int.reduceToNat, Nat.reduceMul], by simp only [f9, go_sem, Nat.reduceEqDiff, Nat.reduceAdd, Nat.reduceLeDiff, Int.reduceEq, Int.reduceLT, Int.reduceLE, Int.reduceAdd, Int.reduceSub, Int.reduceMul, Int.reduceNeg, Int.reduceToNat, Nat.reduceMul], by simp only [f13, go_sem, Nat.reduceEqDiff, Nat.reduceAdd, Nat.reduceLeDiff, Int.reduceEq, Int.reduceLT, Int.reduceLE, Int.reduceAdd, Int.reduceSub, Int.reduceMul, Int.reduceNeg, Int.reduceToNat, Nat.reduceMul], by simp only [f14, go_sem, Nat.reduceEqDiff, Nat.reduceAdd, Nat.reduceLeDiff, Int.reduceEq, Int.reduceLT, Int.reduceLE, Int.reduceAdd, Int.reduceSub, Int.reduceMul, Int.reduceNeg, Int.reduceToNat, Nat.reduceMul], by simp only [go_sem, Nat.reduceEqDiff, Nat.reduceAdd, Nat.reduceLeDiff, Int.reduceEq, Int.reduceLT, Int.reduceLE, Int.reduceAdd, Int.reduceSub, Int.reduceMul, Int.reduceNeg, Int.reduceToNat, Nat.reduceMul], by simp only [go_sem, Nat.reduceEqDiff, Nat.reduceAdd, Nat.reduceLeDiff, Int.reduceEq, Int.reduceLT, Int.reduceLE, Int.reduceAdd, Int.reduceSub, Int.reduceMul, Int.reduceNeg, Int.reduceToNat, Nat.reduceMul]; rw [show tS (xb l) (yb l j) z i 0 = gb l[i].2 j from yb_at hi3], by simp only [go_sem, Nat.reduceEqDiff, Nat.reduceAdd, Nat.reduceLeDiff, Int.reduceEq, Int.reduceLT, Int.reduceLE, Int.reduceAdd, Int.reduceSub, Int.reduceMul, Int.reduceNeg, Int.reduceToNat, Nat.reduceMul], by simp only [go_sem, Nat.reduceEqDiff, Nat.reduceAdd, Nat.reduceLeDiff, Int.reduceEq, Int.reduceLT, Int.reduceLE, Int.reduceAdd, Int.reduceSub, Int.reduceMul, Int.reduceNeg, Int.reduceToNat, Nat.reduceMul] <;> rfl, rfl⟩
    clear f0 f1 f2 f3 f9 f13 f14
    rintro mm f H' ⟨k, hk, rfl, f0, f1, f2, f3, f9, f13, f14, f10, f11, f25, f26, rfl⟩
    by_cases hltk : (k : Int) < n
    · have hk2 : k < n := by omega
      have hk3 : k < l.length := by omega
      have wk := w64 (x := (k : Int) + 1) (by omega) (by omega)
      have htk : tS (xb l) (yb l j) z i (k + 1) = if k = i then tS (xb l) (yb l j) z i k else gM (tS (xb l) (yb l j) z i k) (gM (z ^^^ xb l k) (gI (xb l i ^^^ xb l k))) := rfl
      by_cases hki : k = i
      · rw [if_pos hki] at htk
        obtain rfl : k = i := hki
        simp only [f0, f1, f2, f3, f9, f13, f14, f10, f11, f25, f26, hltk, wk, go_sem, Nat.reduceEqDiff, Nat.reduceAdd, Nat.reduceLeDiff, Int.reduceEq, Int.reduceLT, Int.reduceLE, Int.reduceAdd, Int.reduceSub, Int.reduceMul, Int.reduceNeg, Int.reduceToNat, Nat.reduceMul]
        exact ⟨n - (k + 1), by omega, k + 1, by omega, rfl, by simp only [f0, go_sem, Nat.reduceEqDiff, Nat.reduceAdd, Nat.reduceLeDiff, Int.reduceEq, Int.reduceLT, Int.reduceLE, Int.reduceAdd, Int.reduceSub, Int.reduceMul, Int.reduceNeg, Int.reduceToNat, Nat.reduceMul], by simp only [f1, go_sem, Nat.reduceEqDiff, Nat.reduceAdd, Nat.reduceLeDiff, Int.reduceEq, Int.reduceLT, Int.reduceLE, Int.reduceAdd, Int.reduceSub, Int.reduceMul, Int.reduceNeg, Int.reduceToNat, Nat.reduceMul], by simp only [f2, go_sem, Nat.reduceEqDiff, Nat.reduceAdd, Nat.reduceLeDiff, Int.reduceEq, Int.reduceLT, Int.reduceLE, Int.reduceAdd, Int.reduceSub, Int.reduceMul, Int.reduceNeg, Int.reduceToNat, Nat.reduceMul], by simp only [f3, go_sem, Nat.reduceEqDiff, Nat.reduceAdd, Nat.reduceLeDiff, Int.reduceEq, Int.reduceLT, Int.reduceLE, Int.reduceAdd, Int.reduceSub, Int.reduceMul, Int.reduceNeg, Int.reduceToNat, Nat.reduceMul], by simp only [f9, go_sem, Nat.reduceEqDiff, Nat.reduceAdd, Nat.reduceLeDiff, Int.reduceEq, Int.reduceLT, Int.reduceLE, Int.reduceAdd, Int.reduceSub, Int.reduceMul, Int.reduceNeg, Int.reduceToNat, Nat.reduceMul], by simp only [f13, go_sem, Nat.reduceEqDiff, Nat.reduceAdd, Nat.reduceLeDiff, Int.reduceEq, Int.reduceLT, Int.reduceLE, Int.reduceAdd, Int.reduceSub, Int.reduceMul, Int.reduceNeg, Int.reduceToNat, Nat.reduceMul], by simp only [f14, go_sem, Nat.reduceEqDiff, Nat.reduceAdd, Nat.reduceLeDiff, Int.reduceEq, Int.reduceLT, Int.reduceLE, Int.reduceAdd, Int.reduceSub, Int.reduceMul, Int.reduceNeg, Int.reduceToNat, Nat.reduceMul], by simp only [f10, go_sem, Nat.reduceEqDiff, Nat.reduceAdd, Nat.reduceLeDiff, Int.reduceEq, Int.reduceLT, Int.reduceLE, Int.reduceAdd, Int.reduceSub, Int.reduceMul, Int.reduceNeg, Int.reduceToNat, Nat.reduceMul], by simp only [f11, go_sem, Nat.reduceEqDiff, Nat.reduceAdd, Nat.reduceLeDiff, Int.reduceEq, Int.reduceLT, Int.reduceLE, Int.reduceAdd, Int.reduceSub, Int.reduceMul, Int.reduceNeg, Int.reduceToNat, Nat.reduceMul]; rw [htk], by simp only [f25, go_sem, Nat.reduceEqDiff, Nat.reduceAdd, Nat.reduceLeDiff, Int.reduceEq, Int.reduceLT, Int.reduceLE, Int.reduceAdd, Int.reduceSub, Int.reduceMul, Int.reduceNeg, Int.reduceToNat, Nat.reduceMul], by simp only [go_sem, Nat.reduceEqDiff, Nat.reduceAdd, Nat.reduceLeDiff, Int.reduceEq, Int.reduceLT, Int.reduceLE, Int.reduceAdd, Int.reduceSub, Int.reduceMul, Int.reduceNeg, Int.reduceToNat, Nat.reduceMul] <;> rfl, rfl⟩
      · rw [if_neg hki] at htk
        have hki2 : ¬ ((k : Int) = (i : Int)) := by omega
        have hx1 := xb_at hi3 (hg i hi3)
        have hx2 := xb_at hk3 (hg k hk3)
        have hne : xb l i ^^^ xb l k ≠ 0 := xor_ne (hd i k hi2 hk2 (fun e => hki e.symm))
        simp only [f0, f1, f2, f3, f9, f13, f14, f10, f11, f25, f26, hltk, wk, hki2, go_sem, Nat.reduceEqDiff, Nat.reduceAdd, Nat.reduceLeDiff, Int.reduceEq, Int.reduceLT, Int.reduceLE, Int.reduceAdd, Int.reduceSub, Int.reduceMul, Int.reduceNeg, Int.reduceToNat, Nat.reduceMul]
        refine hs.at_ hk3 fun q2 hq1 hq2 => ?_
        rw [shc_at _ _ hk3, ← hx2] at hq2
        obtain ⟨hq5, _⟩ := ldcB_two hq2
        simp only [f0, f1, f2, f3, f9, f13, f14, f10, f11, f25, f26, hltk, wk, hki2, hq5, xor63u, addA, Nat.add_zero, go_sem, Nat.reduceEqDiff, Nat.reduceAdd, Nat.reduceLeDiff, Int.reduceEq, Int.reduceLT, Int.reduceLE, Int.reduceAdd, Int.reduceSub, Int.reduceMul, Int.reduceNeg, Int.reduceToNat, Nat.reduceMul]
        refine hs.at_ hi3 fun q3 hq1 hq2 => ?_
        rw [shc_at _ _ hi3, ← hx1] at hq2
        obtain ⟨hq6, _⟩ := ldcB_two hq2
        simp only [f0, f1, f2, f3, f9, f13, f14, f10, f11, f25, f26, hltk, wk, hki2, hq5, hq6, xor63u, addA, Nat.add_zero, go_sem, Nat.reduceEqDiff, Nat.reduceAdd, Nat.reduceLeDiff, Int.reduceEq, Int.reduceLT, Int.reduceLE, Int.reduceAdd, Int.reduceSub, Int.reduceMul, Int.reduceNeg, Int.reduceToNat, Nat.reduceMul]
        refine hs.at_ hk3 fun q4 hq1 hq2 => ?_
        rw [shc_at _ _ hk3, ← hx2] at hq2
        obtain ⟨hq7, _⟩ := ldcB_two hq2
        simp only [f0, f1, f2, f3, f9, f13, f14, f10, f11, f25, f26, hltk, wk, hki2, hq5, hq6, hq7, xor63u, ↓(v101 h74 h101 _ hne _).run, ↓(v74 h74 _ _ _).run, relow', addA, Nat.add_zero, go_sem, Nat.reduceEqDiff, Nat.reduceAdd, Nat.reduceLeDiff, Int.reduceEq, Int.reduceLT, Int.reduceLE, Int.reduceAdd, Int.reduceSub, Int.reduceMul, Int.reduceNeg, Int.reduceToNat, Nat.reduceMul]
        exact ⟨n - (k + 1), by omega, k + 1, by omega, rfl, by simp only [f0, go_sem, Nat.reduceEqDiff, Nat.reduceAdd, Nat.reduceLeDiff, Int.reduceEq, Int.reduceLT, Int.reduceLE, Int.reduceAdd, Int.reduceSub, Int.reduceMul, Int.reduceNeg, Int.reduceToNat, Nat.reduceMul], by simp only [f1, go_sem, Nat.reduceEqDiff, Nat.reduceAdd, Nat.reduceLeDiff, Int.reduceEq, Int.reduceLT, Int.reduceLE, Int.reduceAdd, Int.reduceSub, Int.reduceMul, Int.reduceNeg, Int.reduceToNat, Nat.reduceMul], by simp only [f2, go_sem, Nat.reduceEqDiff, Nat.reduceAdd, Nat.reduceLeDiff, Int.reduceEq, Int.reduceLT, Int.reduceLE, Int.reduceAdd, Int.reduceSub, Int.reduceMul, Int.reduceNeg, Int.reduceToNat, Nat.reduceMul], by simp only [f3, go_sem, Nat.reduceEqDiff, Nat.reduceAdd, Nat.reduceLeDiff, Int.reduceEq, Int.reduceLT, Int.reduceLE, Int.reduceAdd, Int.reduceSub, Int.reduceMul, Int.reduceNeg, Int.reduceToNat, Nat.reduceMul], by simp only [f9, go_sem, Nat.reduceEqDiff, Nat.reduceAdd, Nat.reduceLeDiff, Int.reduceEq, Int.reduceLT, Int.reduceLE, Int.reduceAdd, Int.reduceSub, Int.reduceMul, Int.reduceNeg, Int.reduceToNat, Nat.reduceMul], by simp only [f13, go_sem, Nat.reduceEqDiff, Nat.reduceAdd, Nat.reduceLeDiff, Int.reduceEq, Int.reduceLT, Int.reduceLE, Int.reduceAdd, Int.reduceSub, Int.reduceMul, Int.reduceNeg, Int.reduceToNat, Nat.reduceMul], by simp only [f14, go_sem, Nat.reduceEqDiff, Nat.reduceAdd, Nat.reduceLeDiff, Int.reduceEq, Int.reduceLT, Int.reduceLE, Int.reduceAdd, Int.reduceSub, Int.reduceMul, Int.reduceNeg, Int.reduceToNat, Nat.reduceMul], by simp only [f10, go_sem, Nat.reduceEqDiff, Nat.reduceAdd, Nat.reduceLeDiff, Int.reduceEq, Int.reduceLT, Int.reduceLE, Int.reduceAdd, Int.reduceSub, Int.reduceMul, Int.reduceNeg, Int.reduceToNat, Nat.reduceMul], by simp only [go_sem, Nat.reduceEqDiff, Nat.reduceAdd, Nat.reduceLeDiff, Int.reduceEq, Int.reduceLT, Int.reduceLE, Int.reduceAdd, Int.reduceSub, Int.reduceMul, Int.reduceNeg, Int.reduceToNat, Nat.reduceMul]; rw [htk], by simp only [f25, go_sem, Nat.reduceEqDiff, Nat.reduceAdd, Nat.reduceLeDiff, Int.reduceEq, Int.reduceLT, Int.reduceLE, Int.reduceAdd, Int.reduceSub, Int.reduceMul, Int.reduceNeg, Int.reduceToNat, Nat.reduceMul], by simp only [go_sem, Nat.reduceEqDiff, Nat.reduceAdd, Nat.reduceLeDiff, Int.reduceEq, Int.reduceLT, Int.reduceLE, Int.reduceAdd, Int.reduceSub, Int.reduceMul, Int.reduceNeg, Int.reduceToNat, Nat.reduceMul] <;> rfl, rfl⟩
    · have hke : k = n := by omega
      subst hke
      have hnext := tS_wS (xb l) (yb l j) k z i
      simp only [f0, f1, f2, f3, f9, f13, f14, f10, f11, f25, f26, hltk, wi, xor63u, go_sem, Nat.reduceEqDiff, Nat.reduceAdd, Nat.reduceLeDiff, Int.reduceEq, Int.reduceLT, Int.reduceLE, Int.reduceAdd, Int.reduceSub, Int.reduceMul, Int.reduceNeg, Int.reduceToNat, Nat.reduceMul]
      exact ⟨k - (i + 1), by omega, i + 1, by omega, rfl, by simp only [f0, go_sem, Nat.reduceEqDiff, Nat.reduceAdd, Nat.reduceLeDiff, Int.reduceEq, Int.reduceLT, Int.reduceLE, Int.reduceAdd, Int.reduceSub, Int.reduceMul, Int.reduceNeg, Int.reduceToNat, Nat.reduceMul], by simp only [f1, go_sem, Nat.reduceEqDiff, Nat.reduceAdd, Nat.reduceLeDiff, Int.reduceEq, Int.reduceLT, Int.reduceLE, Int.reduceAdd, Int.reduceSub, Int.reduceMul, Int.reduceNeg, Int.reduceToNat, Nat.reduceMul], by simp only [f2, go_sem, Nat.reduceEqDiff, Nat.reduceAdd, Nat.reduceLeDiff, Int.reduceEq, Int.reduceLT, Int.reduceLE, Int.reduceAdd, Int.reduceSub, Int.reduceMul, Int.reduceNeg, Int.reduceToNat, Nat.reduceMul], by simp only [f3, go_sem, Nat.reduceEqDiff, Nat.reduceAdd, Nat.reduceLeDiff, Int.reduceEq, Int.reduceLT, Int.reduceLE, Int.reduceAdd, Int.reduceSub, Int.reduceMul, Int.reduceNeg, Int.reduceToNat, Nat.reduceMul], by simp only [go_sem, Nat.reduceEqDiff, Nat.reduceAdd, Nat.reduceLeDiff, Int.reduceEq, Int.reduceLT, Int.reduceLE, Int.reduceAdd, Int.reduceSub, Int.reduceMul, Int.reduceNeg, Int.reduceToNat, Nat.reduceMul]; rw [hnext], by simp only [f13, go_sem, Nat.reduceEqDiff, Nat.reduceAdd, Nat.reduceLeDiff, Int.reduceEq, Int.reduceLT, Int.reduceLE, Int.reduceAdd, Int.reduceSub, Int.reduceMul, Int.reduceNeg, Int.reduceToNat, Nat.reduceMul], by simp only [go_sem, Nat.reduceEqDiff, Nat.reduceAdd, Nat.reduceLeDiff, Int.reduceEq, Int.reduceLT, Int.reduceLE, Int.reduceAdd, Int.reduceSub, Int.reduceMul, Int.reduceNeg, Int.reduceToNat, Nat.reduceMul] <;> rfl, rfl⟩
  · have hie : i = n := by omega
    subst hie
    simp only [f0, f1, f2, f3, f9, f13, f14, hlt, go_sem, Nat.reduceEqDiff, Nat.reduceAdd, Nat.reduceLeDiff, Int.reduceEq, Int.reduceLT, Int.reduceLE, Int.reduceAdd, Int.reduceSub, Int.reduceMul, Int.reduceNeg, Int.reduceToNat, Nat.reduceMul]
    exact hQ
end Go.Proofs.Ytildhljhbbhmmaa.AM
namespace Go.Proofs.Ytildhljhbbhmmaa.AM
open Go
set_option linter.all false
set_option maxRecDepth 10000

/-! ### Slices of shares, parts of them -/
/-- A slice of shares: some of them, in a block of its kind. -/
structure Ss (H : AH) (v : Value) (p : Addr) (c : Nat) (l : List Sh) : Prop where
  eq : v = .slice (some p) l.length c
  le : l.length ≤ c
  blk : ∃ b, H.get p.block = some b ∧ b.es = 2
  cells : ldc H p (l.length * 2) = some (shc l)
theorem Ss.sl {H : AH} {v : Value} {p : Addr} {c : Nat} {l : List Sh} (h : Ss H v p c l) : Sl H 2 v l.length (shc l) := .inr ⟨p, c, h.eq, h.cells⟩
theorem Ss.keep {H H' : AH} {v : Value} {p : Addr} {c : Nat} {l : List Sh} (h : Ss H v p c l) (hk : ∀ id, id < H.next → H'.get id = H.get id) : Ss H' v p c l := by
  have hlt := ldc_lt h.cells
  refine ⟨h.eq, h.le, ?_, ?_⟩
  · obtain ⟨b, h1, h2⟩ := h.blk
    exact ⟨b, by rw [hk _ hlt]; exact h1, h2⟩
  · rw [ldc_eq, hk _ hlt, ← ldc_eq]
    exact h.cells
theorem shc_take (l : List Sh) (k : Nat) : (shc l).take (k * 2) = shc (l.take k) := by
  induction l generalizing k with
  | nil => simp [shc]
  | cons p l ih =>
    cases k with
    | zero => simp [shc]
    | succ k =>
      have := ih k
      rw [Nat.succ_mul]
      simpa [shc] using this
theorem shc_drop (l : List Sh) (k : Nat) : (shc l).drop (k * 2) = shc (l.drop k) := by
  induction l generalizing k with
  | nil => simp [shc]
  | cons p l ih =>
    cases k with
    | zero => simp [shc]
    | succ k =>
      have := ih k
      rw [Nat.succ_mul]
      simpa [shc] using this
theorem Ss.pre {H : AH} {p : Addr} {c : Nat} {l : List Sh} (h : Ss H (.slice (some p) l.length c) p c l) {k : Nat} (hk : k ≤ l.length) : slcAt H 2 (.slice (some p) l.length c) 0 k = some (.slice (some p) k c) ∧ Sl H 2 (.slice (some p) k c) (l.take k).length (shc (l.take k)) := by
  obtain ⟨b, h1, h2⟩ := h.blk
  have hlen : (l.take k).length = k := by rw [List.length_take]; omega
  refine ⟨?_, .inr ⟨p, c, by rw [hlen], ?_⟩⟩
  · have := h.le
    simp only [slcAt, h1]
    rw [if_pos (by omega), if_pos h2, if_pos trivial]
  · have := ldc_sub h.cells (i := 0) (m := k * 2) (by have := Nat.mul_le_mul_right 2 hk; omega)
    rw [hlen, ← shc_take, ldc_eq]
    rw [ldc_eq] at this
    simpa [addA] using this
theorem Ss.suf {H : AH} {p : Addr} {c : Nat} {l : List Sh} (h : Ss H (.slice (some p) l.length c) p c l) (hd : H.get 0 = none) {k : Nat} (hk : k ≤ l.length) : ∃ ad n c', slcAt H 2 (.slice (some p) l.length c) k l.length = some (.slice ad n c') ∧ n = (l.drop k).length ∧ Sl H 2 (.slice ad n c') (l.drop k).length (shc (l.drop k)) := by
  obtain ⟨b, h1, h2⟩ := h.blk
  have hle := h.le
  have hlen : (l.drop k).length = l.length - k := by rw [List.length_drop]
  by_cases h0 : k = 0
  · subst h0
    refine ⟨some p, l.length, c, ?_, by simp, by simpa using h.sl⟩
    simp only [slcAt, h1]
    rw [if_pos (by omega), if_pos h2, if_pos trivial]
  · by_cases hc : k < c
    · refine ⟨some (addA p (k * 2)), l.length - k, c - k, ?_, hlen.symm, .inr ⟨addA p (k * 2), c - k, by rw [hlen], ?_⟩⟩
      · simp only [slcAt, h1]
        rw [if_pos (by omega), if_pos h2, if_neg h0, if_pos hc]
      · have := ldc_sub h.cells (i := k * 2) (m := (l.length - k) * 2) (by omega)
        rw [hlen, this, shc_drop, List.take_of_length_le (by rw [shc_len, hlen]; omega)]
    · have hkl : k = l.length := by omega
      refine ⟨some ⟨0, 0, none⟩, 0, 0, ?_, by rw [hlen]; omega, ?_⟩
      · simp only [slcAt, h1]
        rw [if_pos (by omega), if_pos h2, if_neg h0, if_neg hc, if_pos hd]
      · rw [hkl, List.drop_length]
        exact .inl ⟨_, 0, rfl, rfl, rfl⟩
/-! ### What is wrong with shares -/
def seenB (l : List Sh) (i : Nat) (x : Int) : Bool := (l.take i).any fun p => decide (p.1 = x)
def sn (l : List Sh) (i : Nat) : List Value := (List.range 256).map fun x : Nat => .bool (seenB l i (x : Int))
theorem sn_len {l : List Sh} {i : Nat} : (sn l i).length = 256 := by simp [sn]
theorem sn_start {l : List Sh} : List.replicate 256 (.bool false) = sn l 0 := by
  refine List.ext_getElem (by rw [sn_len, List.length_replicate]) fun k h1 h2 => ?_
  rw [List.getElem_replicate]
  simp only [sn, List.getElem_map, seenB, List.take_zero, List.any_nil]
theorem seenB_succ {l : List Sh} {i : Nat} (h : i < l.length) (x : Int) : seenB l (i + 1) x = (seenB l i x || decide (l[i].1 = x)) := by
  unfold seenB
  rw [List.take_succ, List.any_append, List.getElem?_eq_getElem h]
  simp
theorem sn_set {l : List Sh} {i : Nat} (h : i < l.length) {k : Nat} (hx : l[i].1 = (k : Int)) (hk : k < 256) : (sn l i).set k (.bool true) = sn l (i + 1) := by
  refine List.ext_getElem (by simp [sn]) fun j h1 h2 => ?_
  rw [List.getElem_set]
  simp only [sn, List.getElem_map, List.getElem_range]
  rw [seenB_succ h, hx]
  by_cases hj : k = j
  · subst hj
    rw [if_pos rfl]
    simp
  · rw [if_neg hj]
    have : decide ((k : Int) = (j : Int)) = false := decide_eq_false (by omega)
    rw [this, Bool.or_false]
theorem sn_at {l : List Sh} {i k : Nat} (h : k < 256) : List.take 1 (List.drop k (sn l i)) = [.bool (seenB l i k)] := by
  rw [take_one (by rw [sn_len]; exact h)]
  simp [sn]
/-- How long the first one's bytes are. -/
def len0 (l : List Sh) : Nat := (l.getD 0 (0, [])).2.length
def eE (l : List Sh) (i : Nat) : Int :=
  let p := l.getD i (0, [])
  if p.1 < 1 ∨ 255 < p.1 then 7 else if seenB l i p.1 = true then 4 else if p.2 = [] ∨ 1024 < p.2.length ∨ p.2.length ≠ len0 l then 6 else 0
def eF (l : List Sh) : Nat → Int
  | 0 => 0
  | i + 1 => if eF l i ≠ 0 then eF l i else eE l i
theorem eF_keep {l : List Sh} {i : Nat} (h : eF l i ≠ 0) : ∀ k, eF l (i + k) = eF l i
  | 0 => rfl
  | k + 1 => by
    show eF l (i + k + 1) = _
    simp only [eF]
    rw [eF_keep h k, if_pos h]
theorem eF_bad {l : List Sh} {i n : Nat} (h : eF l (i + 1) ≠ 0) (hn : i < n) : eF l n = eF l (i + 1) := by
  have := eF_keep h (n - (i + 1))
  rwa [show i + 1 + (n - (i + 1)) = n by omega] at this
theorem eF_zero {l : List Sh} {n : Nat} (h : eF l n = 0) : ∀ i, i < n → eE l i = 0 := by
  intro i hi
  have h1 : eF l (i + 1) = 0 := by
    by_cases h2 : eF l (i + 1) = 0
    · exact h2
    · rw [eF_bad h2 hi] at h; exact absurd h h2
  simp only [eF] at h1
  split at h1
  · rename_i h2; exact absurd h1 h2
  · exact h1
theorem eE_zero {l : List Sh} {i : Nat} (h : i < l.length) (e : eE l i = 0) : (1 ≤ l[i].1 ∧ l[i].1 ≤ 255) ∧ seenB l i l[i].1 = false ∧ l[i].2 ≠ [] ∧ l[i].2.length ≤ 1024 ∧ l[i].2.length = len0 l := by
  unfold eE at e
  have hg : l.getD i (0, []) = l[i] := by simp [h]
  simp only [hg] at e
  split at e
  · simp at e
  · rename_i h1
    split at e
    · simp at e
    · rename_i h2
      split at e
      · simp at e
      · rename_i h3
        refine ⟨by omega, by simpa using h2, fun e => h3 (.inl e), ?_, ?_⟩
        · exact Nat.le_of_not_lt fun e => h3 (.inr (.inl e))
        · exact Classical.byContradiction fun e => h3 (.inr (.inr e))
/-- What good shares are. -/
structure Good' (l : List Sh) : Prop where
  at_ : ∀ i (h : i < l.length), 1 ≤ l[i].1 ∧ l[i].1 ≤ 255
  ne : ∀ i k, i < l.length → k < l.length → i ≠ k → xb l i ≠ xb l k
  len : ∀ i (h : i < l.length), l[i].2.length = len0 l
  most : l ≠ [] → 1 ≤ len0 l ∧ len0 l ≤ 1024
theorem seenB_false {l : List Sh} {i : Nat} {x : Int} (h : seenB l i x = false) : ∀ k (hk : k < l.length), k < i → l[k].1 ≠ x := by
  intro k hk hki e
  unfold seenB at h
  rw [List.any_eq_false] at h
  have hm : l[k] ∈ l.take i := List.mem_take_iff_getElem.2 ⟨k, by omega, rfl⟩
  exact h _ hm (by simpa using e)
theorem good_of_eF {l : List Sh} (h : eF l l.length = 0) : Good' l := by
  have hz := fun i (hi : i < l.length) => eE_zero hi (eF_zero h i hi)
  have hat : ∀ i (h : i < l.length), 1 ≤ l[i].1 ∧ l[i].1 ≤ 255 := fun i hi => (hz i hi).1
  have key : ∀ i k (hi : i < l.length) (hk : k < l.length), k < i → xb l i ≠ xb l k := fun i k hi hk hki e => by
    have h1 := seenB_false (hz i hi).2.1 k hk hki
    have h2 := xb_at hi (by have := hat i hi; omega)
    have h3 := xb_at hk (by have := hat k hk; omega)
    rw [e] at h2
    exact h1 (by omega)
  refine ⟨hat, fun i k hi hk hne => ?_, fun i hi => (hz i hi).2.2.2.2, fun hne => ?_⟩
  · rcases Nat.lt_or_gt_of_ne hne with h1 | h1
    · exact (key k i hk hi h1).symm
    · exact key i k hi hk h1
  · have h0 : 0 < l.length := List.length_pos_iff.2 hne
    have h1 := hz 0 h0
    have e : len0 l = l[0].2.length := h1.2.2.2.2.symm
    have : l[0].2.length ≠ 0 := fun e => h1.2.2.1 (List.eq_nil_of_length_eq_zero e)
    omega
/-- Whether the further ones fit. -/
def fits (l : List Sh) (need : Nat) : Bool := (l.drop need).all fun p => decide (vL (l.take need) (len0 l) (UInt8.ofNat p.1.toNat) = p.2)
/-- The error of Secret, where so many are needed. -/
def secE (l : List Sh) (need : Int) : Int :=
  if need < 1 ∨ 255 < need then 7 else if (l.length : Int) < need then 3 else if 255 < l.length then 8 else
  if eF l l.length ≠ 0 then eF l l.length else if fits l need.toNat = true then 0 else 18
def secT (l : List Sh) (need : Int) : List UInt8 := if secE l need = 0 then vL (l.take need.toNat) (len0 l) 0 else []
end Go.Proofs.Ytildhljhbbhmmaa.AM
namespace Go.Proofs.Ytildhljhbbhmmaa.AM
open Go
set_option linter.all false
set_option maxRecDepth 10000

theorem secE_loop {l : List Sh} {need : Int} (h1 : ¬ (need < 1 ∨ 255 < need)) (h2 : ¬ (l.length : Int) < need) (h3 : ¬ 255 < l.length) (h : eF l l.length ≠ 0) : secE l need = eF l l.length := by
  unfold secE; rw [if_neg h1, if_neg h2, if_neg h3, if_pos h]
theorem tx_none {l : List UInt8} : (tx l = ⟨#[]⟩) = (l = []) := by
  have e : (⟨#[]⟩ : ByteArray) = tx [] := rfl
  rw [e, tx_inj]
theorem xb_nat {X : Int} (h : 1 ≤ X ∧ X ≤ 255) : IntKind.wrap .u8 X = ((UInt8.ofNat X.toNat).toNat : Int) := by
  rw [UInt8.toNat_ofNat', IntKind.wrap_u8]
  omega
variable {tbl : Tbl} [hT : TMono tbl]
structure SecTb (tbl : Tbl) : Prop where
  h73 : tbl 73 = some (.code m73)
  h117 : tbl 117 = some (.code m117)
  h100 : tbl 100 = some (.code m100)
  h70 : tbl 70 = some (.code m70)
  h32 : tbl 32 = some (.code m32)
theorem v32 (S : SecTb tbl) (l : List Sh) (need : Int) {H : AH} {ad : Option Addr} {c : Nat} (hn : ad = none ∨ l = [] ∨ ∃ p, ad = some p ∧ Ss H (.slice ad l.length c) p c l) (hn0 : ad = none → l = []) (hd : H.get 0 = none) (hd0 : 0 < H.next) :
    Val tbl 32 [.slice ad l.length c, .int .i64 need] H (.tuple #[.string (tx (secT l need)), .int .i64 (secE l need)]) H := by
  refine Val.of_all fun Q hQ => ?_
  rw [rn_fun S.h32, k32]
  by_cases a1 : need < 1
  · have e : secE l need = 7 := by unfold secE; rw [if_pos (.inl a1)]
    rw [secT, e, if_neg (by decide)] at hQ
    simp only [a1, go_sem, Nat.reduceEqDiff, Nat.reduceAdd, Nat.reduceLeDiff, Int.reduceEq, Int.reduceLT, Int.reduceLE, Int.reduceAdd, Int.reduceSub, Int.reduceMul, Int.reduceNeg, Int.reduceToNat, Nat.reduceMul]
    exact hQ
  by_cases a2 : 255 < need
  · have e : secE l need = 7 := by unfold secE; rw [if_pos (.inr a2)]
    rw [secT, e, if_neg (by decide)] at hQ
    simp only [a1, a2, go_sem, Nat.reduceEqDiff, Nat.reduceAdd, Nat.reduceLeDiff, Int.reduceEq, Int.reduceLT, Int.reduceLE, Int.reduceAdd, Int.reduceSub, Int.reduceMul, Int.reduceNeg, Int.reduceToNat, Nat.reduceMul]
    exact hQ
  have a12 : ¬ (need < 1 ∨ 255 < need) := by omega
  by_cases a3 : (l.length : Int) < need
  · have e : secE l need = 3 := by unfold secE; rw [if_neg a12, if_pos a3]
    rw [secT, e, if_neg (by decide)] at hQ
    simp only [a1, a2, a3, go_sem, Nat.reduceEqDiff, Nat.reduceAdd, Nat.reduceLeDiff, Int.reduceEq, Int.reduceLT, Int.reduceLE, Int.reduceAdd, Int.reduceSub, Int.reduceMul, Int.reduceNeg, Int.reduceToNat, Nat.reduceMul]
    exact hQ
  by_cases a4 : (255 : Int) < l.length
  · have e : secE l need = 8 := by unfold secE; rw [if_neg a12, if_neg a3, if_pos (by omega)]
    rw [secT, e, if_neg (by decide)] at hQ
    simp only [a1, a2, a3, a4, go_sem, Nat.reduceEqDiff, Nat.reduceAdd, Nat.reduceLeDiff, Int.reduceEq, Int.reduceLT, Int.reduceLE, Int.reduceAdd, Int.reduceSub, Int.reduceMul, Int.reduceNeg, Int.reduceToNat, Nat.reduceMul]
    exact hQ
  have a4' : ¬ 255 < l.length := by omega
  have hl0 : 0 < l.length := by omega
  have hlne : l ≠ [] := by intro e; rw [e] at hl0; simp at hl0
  obtain ⟨p, rfl, hs⟩ : ∃ p, ad = some p ∧ Ss H (.slice ad l.length c) p c l := by
    rcases hn with h | h | h
    · exact absurd (hn0 h) hlne
    · exact absurd h hlne
    · exact h
  obtain ⟨N, rfl⟩ : ∃ N : Nat, need = (N : Int) := ⟨need.toNat, by omega⟩
  have hN1 : 1 ≤ N := by omega
  have hN2 : N ≤ l.length := by omega
  simp only [a1, a2, a3, a4, go_sem, Nat.reduceEqDiff, Nat.reduceAdd, Nat.reduceLeDiff, Int.reduceEq, Int.reduceLT, Int.reduceLE, Int.reduceAdd, Int.reduceSub, Int.reduceMul, Int.reduceNeg, Int.reduceToNat, Nat.reduceMul]
  refine rn_loop (fun m f H' => ∃ i : Nat, i ≤ l.length ∧ m = l.length - i ∧ f 0 = .slice (some p) l.length c ∧ f 1 = .int .i64 N ∧ f 6 = .pointer (some ⟨H.next, 0, none⟩) ∧ f 27 = .slice (some p) l.length c ∧ f 28 = .int .i64 l.length ∧ f 29 = .int .i64 i ∧ Junk H H' ∧ H.next < H'.next ∧ H'.get H.next = some ⟨sn l i, 1, false⟩ ∧ eF l i = 0) ?_ (n := l.length)
    ⟨0, by omega, rfl, by simp only [go_sem, Nat.reduceEqDiff, Nat.reduceAdd, Nat.reduceLeDiff, Int.reduceEq, Int.reduceLT, Int.reduceLE, Int.reduceAdd, Int.reduceSub, Int.reduceMul, Int.reduceNeg, Int.reduceToNat, Nat.reduceMul], by simp only [go_sem, Nat.reduceEqDiff, Nat.reduceAdd, Nat.reduceLeDiff, Int.reduceEq, Int.reduceLT, Int.reduceLE, Int.reduceAdd, Int.reduceSub, Int.reduceMul, Int.reduceNeg, Int.reduceToNat, Nat.reduceMul], by simp only [go_sem, Nat.reduceEqDiff, Nat.reduceAdd, Nat.reduceLeDiff, Int.reduceEq, Int.reduceLT, Int.reduceLE, Int.reduceAdd, Int.reduceSub, Int.reduceMul, Int.reduceNeg, Int.reduceToNat, Nat.reduceMul], by simp only [go_sem, Nat.reduceEqDiff, Nat.reduceAdd, Nat.reduceLeDiff, Int.reduceEq, Int.reduceLT, Int.reduceLE, Int.reduceAdd, Int.reduceSub, Int.reduceMul, Int.reduceNeg, Int.reduceToNat, Nat.reduceMul], by simp only [go_sem, Nat.reduceEqDiff, Nat.reduceAdd, Nat.reduceLeDiff, Int.reduceEq, Int.reduceLT, Int.reduceLE, Int.reduceAdd, Int.reduceSub, Int.reduceMul, Int.reduceNeg, Int.reduceToNat, Nat.reduceMul], by simp only [go_sem, Nat.reduceEqDiff, Nat.reduceAdd, Nat.reduceLeDiff, Int.reduceEq, Int.reduceLT, Int.reduceLE, Int.reduceAdd, Int.reduceSub, Int.reduceMul, Int.reduceNeg, Int.reduceToNat, Nat.reduceMul] <;> rfl, (Junk.enter H).push _, by rw [AH.next_push, nx_enter]; omega, by rw [← sn_start]; exact AH.get_push_eq H.enter _, rfl⟩
  rintro m f H' ⟨i, hi, rfl, f0, f1, f6, f27, f28, f29, st, n1, g6, hz⟩
  by_cases hlt : (i : Int) < l.length
  · have hi2 : i < l.length := by omega
    have hp2 : H'.next < H'.next + 1 := by omega
    have wi := w64 (x := (i : Int) + 1) (by omega) (by omega)
    have hsucc : eF l (i + 1) = eE l i := by simp only [eF]; rw [hz, if_neg (by simp)]
    have hgD : l.getD i (0, []) = l[i] := by simp [hi2]
    have ret : ∀ e : Int, e ≠ 0 → eE l i = e → Q (.tuple #[.string ⟨#[]⟩, .int .i64 e]) H := fun e he h => by
      have e1 := eF_bad (i := i) (by rw [hsucc, h]; exact he) hi2
      rw [hsucc, h] at e1
      have e2 := secE_loop a12 a3 a4' (by rw [e1]; exact he)
      rw [e1] at e2
      rw [secT, e2, if_neg he] at hQ
      exact hQ
    simp only [f0, f1, f6, f27, f28, f29, hlt, go_sem, Nat.reduceEqDiff, Nat.reduceAdd, Nat.reduceLeDiff, Int.reduceEq, Int.reduceLT, Int.reduceLE, Int.reduceAdd, Int.reduceSub, Int.reduceMul, Int.reduceNeg, Int.reduceToNat, Nat.reduceMul]
    refine (hs.sl.keep st.old).at_ hi2 fun q hq1 hq2 => ?_
    rw [shc_at _ _ hi2] at hq2
    simp only [f0, f1, f6, f27, f28, f29, hlt, hq2, hp2, stc_eq, stB_some, go_sem, Nat.reduceEqDiff, Nat.reduceAdd, Nat.reduceLeDiff, Int.reduceEq, Int.reduceLT, Int.reduceLE, Int.reduceAdd, Int.reduceSub, Int.reduceMul, Int.reduceNeg, Int.reduceToNat, Nat.reduceMul]
    have st2 := (st.push ⟨[.int .i64 0, .string ⟨#[]⟩], 1, false⟩).set st.nx (some ⟨[.int .i64 l[i].1, .string (tx l[i].2)], 1, false⟩)
    have g8 := ps_get (H' := H') (b := ⟨[.int .i64 0, .string ⟨#[]⟩], 1, false⟩) (c := ⟨[.int .i64 l[i].1, .string (tx l[i].2)], 1, false⟩)
    have g6b := (ps_old (H' := H') (b := ⟨[.int .i64 0, .string ⟨#[]⟩], 1, false⟩) (c := ⟨[.int .i64 l[i].1, .string (tx l[i].2)], 1, false⟩) n1).trans g6
    have n2 := ps_next (H' := H') (b := ⟨[.int .i64 0, .string ⟨#[]⟩], 1, false⟩) (c := ⟨[.int .i64 l[i].1, .string (tx l[i].2)], 1, false⟩)
    generalize (H'.push ⟨[.int .i64 0, .string ⟨#[]⟩], 1, false⟩).set H'.next (some ⟨[.int .i64 l[i].1, .string (tx l[i].2)], 1, false⟩) = H2 at st2 g8 g6b n2 ⊢
    have hnl : ¬ H2.low < H.next := by have := st2.low; omega
    by_cases b1 : l[i].1 < 1
    · have hr := ret 7 (by decide) (by unfold eE; simp only [hgD]; rw [if_pos (.inl b1)])
      simp only [f0, f1, f6, f27, f28, f29, g8, b1, hnl, go_sem, Nat.reduceEqDiff, Nat.reduceAdd, Nat.reduceLeDiff, Int.reduceEq, Int.reduceLT, Int.reduceLE, Int.reduceAdd, Int.reduceSub, Int.reduceMul, Int.reduceNeg, Int.reduceToNat, Nat.reduceMul]
      exact hr
    by_cases b2 : 255 < l[i].1
    · have hr := ret 7 (by decide) (by unfold eE; simp only [hgD]; rw [if_pos (.inr b2)])
      simp only [f0, f1, f6, f27, f28, f29, g8, b1, b2, hnl, go_sem, Nat.reduceEqDiff, Nat.reduceAdd, Nat.reduceLeDiff, Int.reduceEq, Int.reduceLT, Int.reduceLE, Int.reduceAdd, Int.reduceSub, Int.reduceMul, Int.reduceNeg, Int.reduceToNat, Nat.reduceMul]
      exact hr
    obtain ⟨X, hX⟩ : ∃ X : Nat, l[i].1 = (X : Int) := ⟨l[i].1.toNat, by omega⟩
    have b12 : ¬ (l[i].1 < 1 ∨ 255 < l[i].1) := by omega
    have X0 : (0 : Int) ≤ X := by omega
    have X1 : (X : Int) < 256 := by omega
    have X2 : X < 256 := by omega
    have X3 : X + 1 ≤ 256 := by omega
    have hat := sn_at (l := l) (i := i) X2
    have b1' : ¬ (X : Int) < 1 := by omega
    have b2' : ¬ 255 < (X : Int) := by omega
    by_cases b3 : seenB l i X = true
    · have hr := ret 4 (by decide) (by unfold eE; simp only [hgD]; rw [if_neg b12, hX, if_pos b3])
      simp only [f0, f1, f6, f27, f28, f29, g8, hX, b1', b2', X0, X1, X3, Int.toNat_natCast, g6b, sn_len, addA, Nat.zero_add, Nat.mul_one, hat, b3, hnl, go_sem, Nat.reduceEqDiff, Nat.reduceAdd, Nat.reduceLeDiff, Int.reduceEq, Int.reduceLT, Int.reduceLE, Int.reduceAdd, Int.reduceSub, Int.reduceMul, Int.reduceNeg, Int.reduceToNat, Nat.reduceMul]
      exact hr
    have b3' : seenB l i X = false := by simpa using b3
    have e3 : ∀ h : l[i].2 = [] ∨ 1024 < l[i].2.length ∨ l[i].2.length ≠ len0 l, eE l i = 6 := fun h => by
      unfold eE; simp only [hgD]; rw [if_neg b12, hX, if_neg b3, if_pos h]
    simp only [f0, f1, f6, f27, f28, f29, g8, hX, b1', b2', X0, X1, X3, Int.toNat_natCast, g6b, sn_len, addA, Nat.zero_add, Nat.mul_one, hat, b3', hnl, go_sem, Nat.reduceEqDiff, Nat.reduceAdd, Nat.reduceLeDiff, Int.reduceEq, Int.reduceLT, Int.reduceLE, Int.reduceAdd, Int.reduceSub, Int.reduceMul, Int.reduceNeg, Int.reduceToNat, Nat.reduceMul]
    have r6 := fun h => ret 6 (by decide) (e3 h)
    by_cases b4 : l[i].2 = []
    · have hr := r6 (.inl b4)
      simp only [f0, f1, f6, f27, f28, f29, g8, tx_none, b4, hnl, go_sem, Nat.reduceEqDiff, Nat.reduceAdd, Nat.reduceLeDiff, Int.reduceEq, Int.reduceLT, Int.reduceLE, Int.reduceAdd, Int.reduceSub, Int.reduceMul, Int.reduceNeg, Int.reduceToNat, Nat.reduceMul]
      exact hr
    by_cases b5 : (1024 : Int) < l[i].2.length
    · have hr := r6 (.inr (.inl (by omega)))
      simp only [f0, f1, f6, f27, f28, f29, g8, tx_none, tx_size, b4, b5, hnl, go_sem, Nat.reduceEqDiff, Nat.reduceAdd, Nat.reduceLeDiff, Int.reduceEq, Int.reduceLT, Int.reduceLE, Int.reduceAdd, Int.reduceSub, Int.reduceMul, Int.reduceNeg, Int.reduceToNat, Nat.reduceMul]
      exact hr
    have q0 : l[0].2.length = len0 l := by simp [len0, hl0]
    simp only [f0, f1, f6, f27, f28, f29, g8, tx_none, tx_size, b4, b5, hnl, go_sem, Nat.reduceEqDiff, Nat.reduceAdd, Nat.reduceLeDiff, Int.reduceEq, Int.reduceLT, Int.reduceLE, Int.reduceAdd, Int.reduceSub, Int.reduceMul, Int.reduceNeg, Int.reduceToNat, Nat.reduceMul]
    refine (hs.sl.keep st2.old).at0 hl0 fun q0' hq3 hq4 => ?_
    have hq5 := shc_at l 0 hl0
    rw [Nat.zero_mul] at hq5
    rw [hq5] at hq4
    obtain ⟨_, hq6⟩ := ldcB_two hq4
    by_cases b6 : ((l[i].2.length : Int) = (len0 l : Int))
    case neg =>
      have hr := r6 (.inr (.inr (by omega)))
      simp only [f0, f1, f6, f27, f28, f29, g8, hq6, tx_none, tx_size, q0, addA, b4, b5, b6, hnl, go_sem, Nat.reduceEqDiff, Nat.reduceAdd, Nat.reduceLeDiff, Int.reduceEq, Int.reduceLT, Int.reduceLE, Int.reduceAdd, Int.reduceSub, Int.reduceMul, Int.reduceNeg, Int.reduceToNat, Nat.reduceMul]
      exact hr
    have hset := sn_set hi2 hX X2
    have hlt6 : H.next < H2.next := by omega
    simp only [f0, f1, f6, f27, f28, f29, g8, g6b, hq6, tx_none, tx_size, q0, addA, b4, b5, b6, hX, X0, X1, X3, Int.toNat_natCast, sn_len, stc_eq, stB_some, splice_one, Nat.zero_add, Nat.mul_one, hset, wi, hnl, go_sem, Nat.reduceEqDiff, Nat.reduceAdd, Nat.reduceLeDiff, Int.reduceEq, Int.reduceLT, Int.reduceLE, Int.reduceAdd, Int.reduceSub, Int.reduceMul, Int.reduceNeg, Int.reduceToNat, Nat.reduceMul]
    have hz2 : eF l (i + 1) = 0 := by
      rw [hsucc]
      unfold eE
      simp only [hgD]
      rw [if_neg b12, hX, if_neg b3, if_neg]
      intro h
      rcases h with h | h | h
      · exact b4 h
      · exact b5 (by omega)
      · exact h (by omega)
    exact ⟨l.length - (i + 1), by omega, i + 1, by omega, rfl, by simp only [f0, go_sem, Nat.reduceEqDiff, Nat.reduceAdd, Nat.reduceLeDiff, Int.reduceEq, Int.reduceLT, Int.reduceLE, Int.reduceAdd, Int.reduceSub, Int.reduceMul, Int.reduceNeg, Int.reduceToNat, Nat.reduceMul], by simp only [f1, go_sem, Nat.reduceEqDiff, Nat.reduceAdd, Nat.reduceLeDiff, Int.reduceEq, Int.reduceLT, Int.reduceLE, Int.reduceAdd, Int.reduceSub, Int.reduceMul, Int.reduceNeg, Int.reduceToNat, Nat.reduceMul], by simp only [f6, go_sem, Nat.reduceEqDiff, Nat.reduceAdd, Nat.reduceLeDiff, Int.reduceEq, Int.reduceLT, Int.reduceLE, Int.reduceAdd, Int.reduceSub, Int.reduceMul, Int.reduceNeg, Int.reduceToNat, Nat.reduceMul], by simp only [f27, go_sem, Nat.reduceEqDiff, Nat.reduceAdd, Nat.reduceLeDiff, Int.reduceEq, Int.reduceLT, Int.reduceLE, Int.reduceAdd, Int.reduceSub, Int.reduceMul, Int.reduceNeg, Int.reduceToNat, Nat.reduceMul], by simp only [f28, go_sem, Nat.reduceEqDiff, Nat.reduceAdd, Nat.reduceLeDiff, Int.reduceEq, Int.reduceLT, Int.reduceLE, Int.reduceAdd, Int.reduceSub, Int.reduceMul, Int.reduceNeg, Int.reduceToNat, Nat.reduceMul], by simp only [go_sem, Nat.reduceEqDiff, Nat.reduceAdd, Nat.reduceLeDiff, Int.reduceEq, Int.reduceLT, Int.reduceLE, Int.reduceAdd, Int.reduceSub, Int.reduceMul, Int.reduceNeg, Int.reduceToNat, Nat.reduceMul] <;> rfl, st2.set (Nat.le_refl _) _, by rw [AH.next_set]; omega, AH.get_set_eq H2 _ hlt6, hz2⟩
  · have hie : i = l.length := by omega
    subst hie
    have hG := good_of_eF hz
    obtain ⟨hm1, hm2⟩ := hG.most hlne
    have N0 : (0 : Int) ≤ N := by omega
    have NI : (N : Int) ≤ l.length := by omega
    have hs' := hs.keep st.old
    have hd' : H'.get 0 = none := by rw [st.old 0 hd0]; exact hd
    obtain ⟨ad2, n2, c2, hsuf, hn2, hsl2⟩ := hs'.suf hd' hN2
    subst hn2
    simp only [f0, f1, f6, f27, f28, f29, hlt, N0, hN2, Int.toNat_natCast, hsuf, go_sem, Nat.reduceEqDiff, Nat.reduceAdd, Nat.reduceLeDiff, Int.reduceEq, Int.reduceLT, Int.reduceLE, Int.reduceAdd, Int.reduceSub, Int.reduceMul, Int.reduceNeg, Int.reduceToNat, Nat.reduceMul]
    have hE0 : secE l N = if fits l N = true then 0 else 18 := by
      unfold secE
      rw [if_neg a12, if_neg a3, if_neg a4', if_neg (by rw [hz]; simp), Int.toNat_natCast]
    have hNc : N ≤ c := by have := hs.le; omega
    have htl : (l.take N).length = N := by rw [List.length_take]; omega
    have hti : ∀ i (h : i < (l.take N).length), (l.take N)[i] = l[i]'(by omega) := fun i h => by simp
    have hdi : ∀ i (h : i < (l.drop N).length), (l.drop N)[i] = l[N + i]'(by rw [List.length_drop] at h; omega) := fun i h => by simp
    have hv := fun (X : AH) (st' : Junk H X) (z : UInt8) => v70 S.h73 S.h117 S.h100 S.h70 (l.take N) (fun i h => by rw [hti i h]; have := hG.at_ i (by omega); omega) (by omega) (by omega) (len0 l) (fun i h => by rw [hti i h]; exact hG.len i (by omega)) (by omega) ((hs.keep st'.old).pre hN2).2 z
    have z8 : (Value.int .u8 0) = .int .u8 ((0 : UInt8).toNat : Int) := rfl
    refine rn_loop (fun m f H' => ∃ i : Nat, i ≤ (l.drop N).length ∧ m = (l.drop N).length - i ∧ f 0 = .slice (some p) l.length c ∧ f 1 = .int .i64 N ∧ f 74 = .slice ad2 (l.drop N).length c2 ∧ f 75 = .int .i64 (l.drop N).length ∧ f 76 = .int .i64 i ∧ Junk H H' ∧ H'.next ≥ H.next ∧ (∀ i' (h : i' < (l.drop N).length), i' < i → vL (l.take N) (len0 l) (UInt8.ofNat (l.drop N)[i'].1.toNat) = (l.drop N)[i'].2)) ?_ (n := (l.drop N).length)
      ⟨0, by omega, rfl, by simp only [f0, go_sem, Nat.reduceEqDiff, Nat.reduceAdd, Nat.reduceLeDiff, Int.reduceEq, Int.reduceLT, Int.reduceLE, Int.reduceAdd, Int.reduceSub, Int.reduceMul, Int.reduceNeg, Int.reduceToNat, Nat.reduceMul], by simp only [f1, go_sem, Nat.reduceEqDiff, Nat.reduceAdd, Nat.reduceLeDiff, Int.reduceEq, Int.reduceLT, Int.reduceLE, Int.reduceAdd, Int.reduceSub, Int.reduceMul, Int.reduceNeg, Int.reduceToNat, Nat.reduceMul], by simp only [go_sem, Nat.reduceEqDiff, Nat.reduceAdd, Nat.reduceLeDiff, Int.reduceEq, Int.reduceLT, Int.reduceLE, Int.reduceAdd, Int.reduceSub, Int.reduceMul, Int.reduceNeg, Int.reduceToNat, Nat.reduceMul], by simp only [go_sem, Nat.reduceEqDiff, Nat.reduceAdd, Nat.reduceLeDiff, Int.reduceEq, Int.reduceLT, Int.reduceLE, Int.reduceAdd, Int.reduceSub, Int.reduceMul, Int.reduceNeg, Int.reduceToNat, Nat.reduceMul], by simp only [go_sem, Nat.reduceEqDiff, Nat.reduceAdd, Nat.reduceLeDiff, Int.reduceEq, Int.reduceLT, Int.reduceLE, Int.reduceAdd, Int.reduceSub, Int.reduceMul, Int.reduceNeg, Int.reduceToNat, Nat.reduceMul] <;> rfl, st, st.nx, fun i' h h2 => absurd h2 (by omega)⟩
    clear f0 f1 f6 f27 f28 f29
    have stH := st
    have hH'n := st.nx
    clear g6 hd' hs'
    rintro m f H'' ⟨i, hi, rfl, f0, f1, f74, f75, f76, st, -, hok⟩
    have hk' : ∀ id, id < H'.next → True := fun _ _ => trivial
    by_cases hlt : (i : Int) < (l.drop N).length
    · have hi2 : i < (l.drop N).length := by omega
      have hp2 : H''.next < H''.next + 1 := by omega
      have wi := w64 (x := (i : Int) + 1) (by omega) (by rw [List.length_drop] at hi2; omega)
      simp only [f0, f1, f74, f75, f76, hlt, go_sem, Nat.reduceEqDiff, Nat.reduceAdd, Nat.reduceLeDiff, Int.reduceEq, Int.reduceLT, Int.reduceLE, Int.reduceAdd, Int.reduceSub, Int.reduceMul, Int.reduceNeg, Int.reduceToNat, Nat.reduceMul]
      have hsl3 : Sl H'' 2 (.slice ad2 (l.drop N).length c2) (l.drop N).length (shc (l.drop N)) := by
        obtain ⟨ad3, n3, c3, hsuf3, hn3, hsl3⟩ := (hs.keep st.old).suf (by rw [st.old 0 hd0]; exact hd) hN2
        obtain ⟨b1', hb1, hb2⟩ := (hs.keep stH.old).blk
        obtain ⟨b3', hb3, hb4⟩ := (hs.keep st.old).blk
        have hsame : slcAt H'' 2 (.slice (some p) l.length c) N l.length = slcAt H' 2 (.slice (some p) l.length c) N l.length := by
          have e0 : H''.get 0 = H'.get 0 := by rw [st.old 0 hd0, stH.old 0 hd0]
          simp only [slcAt, hb1, hb2, hb3, hb4, e0]
        rw [hsame, hsuf] at hsuf3
        simp only [Option.some.injEq, Value.slice.injEq] at hsuf3
        obtain ⟨rfl, -, rfl⟩ := hsuf3
        rw [hn3] at hsl3
        exact hsl3
      refine hsl3.at_ hi2 fun q hq1 hq2 => ?_
      rw [shc_at _ _ hi2] at hq2
      simp only [f0, f1, f74, f75, f76, hlt, hq2, hp2, stc_eq, stB_some, go_sem, Nat.reduceEqDiff, Nat.reduceAdd, Nat.reduceLeDiff, Int.reduceEq, Int.reduceLT, Int.reduceLE, Int.reduceAdd, Int.reduceSub, Int.reduceMul, Int.reduceNeg, Int.reduceToNat, Nat.reduceMul]
      have st2 := (st.push ⟨[.int .i64 0, .string ⟨#[]⟩], 1, false⟩).set st.nx (some ⟨[.int .i64 (l.drop N)[i].1, .string (tx (l.drop N)[i].2)], 1, false⟩)
      have g8 := ps_get (H' := H'') (b := ⟨[.int .i64 0, .string ⟨#[]⟩], 1, false⟩) (c := ⟨[.int .i64 (l.drop N)[i].1, .string (tx (l.drop N)[i].2)], 1, false⟩)
      have n2 := ps_next (H' := H'') (b := ⟨[.int .i64 0, .string ⟨#[]⟩], 1, false⟩) (c := ⟨[.int .i64 (l.drop N)[i].1, .string (tx (l.drop N)[i].2)], 1, false⟩)
      generalize (H''.push ⟨[.int .i64 0, .string ⟨#[]⟩], 1, false⟩).set H''.next (some ⟨[.int .i64 (l.drop N)[i].1, .string (tx (l.drop N)[i].2)], 1, false⟩) = H2 at st2 g8 n2 ⊢
      have hpre := ((hs.keep st2.old).pre hN2).1
      have hnl : ¬ H2.low < H.next := by have := st2.low; omega
      have hltn : H''.next < H2.next := by omega
      have hat : 1 ≤ (l.drop N)[i].1 ∧ (l.drop N)[i].1 ≤ 255 := by rw [hdi i hi2]; exact hG.at_ _ _
      have hv0 := hv H2.enter ⟨st2.old, st2.nx, st2.nx⟩ (UInt8.ofNat (l.drop N)[i].1.toNat)
      rw [← xb_nat hat] at hv0
      by_cases heq : vL (l.take N) (len0 l) (UInt8.ofNat (l.drop N)[i].1.toNat) = (l.drop N)[i].2
      · simp only [f0, f1, f74, f75, f76, hlt, N0, hNc, g8, Int.toNat_natCast, addA, Nat.add_zero, Nat.zero_add, hpre, ↓hv0.run, relow', tx_inj, heq, wi, hnl, MI.rdBlk, blkOf, hltn, go_sem, Nat.reduceEqDiff, Nat.reduceAdd, Nat.reduceLeDiff, Int.reduceEq, Int.reduceLT, Int.reduceLE, Int.reduceAdd, Int.reduceSub, Int.reduceMul, Int.reduceNeg, Int.reduceToNat, Nat.reduceMul]
        refine ⟨(l.drop N).length - (i + 1), by omega, i + 1, by omega, rfl, by simp only [f0, go_sem, Nat.reduceEqDiff, Nat.reduceAdd, Nat.reduceLeDiff, Int.reduceEq, Int.reduceLT, Int.reduceLE, Int.reduceAdd, Int.reduceSub, Int.reduceMul, Int.reduceNeg, Int.reduceToNat, Nat.reduceMul], by simp only [f1, go_sem, Nat.reduceEqDiff, Nat.reduceAdd, Nat.reduceLeDiff, Int.reduceEq, Int.reduceLT, Int.reduceLE, Int.reduceAdd, Int.reduceSub, Int.reduceMul, Int.reduceNeg, Int.reduceToNat, Nat.reduceMul], by simp only [f74, go_sem, Nat.reduceEqDiff, Nat.reduceAdd, Nat.reduceLeDiff, Int.reduceEq, Int.reduceLT, Int.reduceLE, Int.reduceAdd, Int.reduceSub, Int.reduceMul, Int.reduceNeg, Int.reduceToNat, Nat.reduceMul], by simp only [f75, go_sem, Nat.reduceEqDiff, Nat.reduceAdd, Nat.reduceLeDiff, Int.reduceEq, Int.reduceLT, Int.reduceLE, Int.reduceAdd, Int.reduceSub, Int.reduceMul, Int.reduceNeg, Int.reduceToNat, Nat.reduceMul], by simp only [go_sem, Nat.reduceEqDiff, Nat.reduceAdd, Nat.reduceLeDiff, Int.reduceEq, Int.reduceLT, Int.reduceLE, Int.reduceAdd, Int.reduceSub, Int.reduceMul, Int.reduceNeg, Int.reduceToNat, Nat.reduceMul] <;> rfl, st2, st2.nx, fun i' h h2 => ?_⟩
        by_cases hii : i' = i
        · subst hii; exact heq
        · exact hok i' h (by omega)
      · have hf : fits l N = false := by
          unfold fits
          rw [List.all_eq_false]
          exact ⟨(l.drop N)[i], List.getElem_mem hi2, by simpa using heq⟩
        rw [hf, if_neg (by simp)] at hE0
        rw [secT, hE0, if_neg (by decide)] at hQ
        simp only [f0, f1, f74, f75, f76, hlt, N0, hNc, g8, Int.toNat_natCast, addA, Nat.add_zero, Nat.zero_add, hpre, ↓hv0.run, relow', tx_inj, heq, wi, hnl, MI.rdBlk, blkOf, hltn, go_sem, Nat.reduceEqDiff, Nat.reduceAdd, Nat.reduceLeDiff, Int.reduceEq, Int.reduceLT, Int.reduceLE, Int.reduceAdd, Int.reduceSub, Int.reduceMul, Int.reduceNeg, Int.reduceToNat, Nat.reduceMul]
        exact hQ
    · have hie : i = (l.drop N).length := by omega
      subst hie
      have hf : fits l N = true := by
        unfold fits
        rw [List.all_eq_true]
        intro x hx
        obtain ⟨j, hj, rfl⟩ := List.getElem_of_mem hx
        simpa using hok j hj hj
      rw [hf, if_pos rfl] at hE0
      rw [secT, hE0, if_pos rfl, Int.toNat_natCast] at hQ
      have hpre := ((hs.keep st.old).pre hN2).1
      have hnl : ¬ H''.low < H.next := by have := st.low; omega
      have hv0 := hv H'' st 0
      simp only [f0, f1, f74, f75, f76, hlt, N0, hNc, Int.toNat_natCast, hpre, z8, ↓hv0.run, hnl, go_sem, Nat.reduceEqDiff, Nat.reduceAdd, Nat.reduceLeDiff, Int.reduceEq, Int.reduceLT, Int.reduceLE, Int.reduceAdd, Int.reduceSub, Int.reduceMul, Int.reduceNeg, Int.reduceToNat, Nat.reduceMul]
      exact hQ
end Go.Proofs.Ytildhljhbbhmmaa.AM
namespace Go.Proofs.Ytildhljhbbhmmaa.AM
open Go
set_option linter.all false
set_option maxRecDepth 10000

theorem vL_gb {l : List Sh} {m j : Nat} {z : UInt8} (h : j < m) : gb (vL l m z) j = vS (xb l) (yb l j) l.length z l.length := by simp [gb, vL, h]
theorem vS_take {l : List Sh} {N m j : Nat} {z : UInt8} (hN : N ≤ l.length) (hj : j < m) : vS (xb l) (yb l j) N z N = gb (vL (l.take N) m z) j := by
  rw [vL_gb hj]
  have htl : (l.take N).length = N := by rw [List.length_take]; omega
  rw [htl]
  refine vS_congr (fun i hi => ?_) (fun i hi => ?_) (Nat.le_refl N)
  · have h1 : i < l.length := by omega
    simp [xb, hi, h1]
  · have h1 : i < l.length := by omega
    simp [yb, hi, h1]
theorem wrap8u (x : UInt8) : IntKind.wrap .u8 (x.toNat : Int) = (x.toNat : Int) := by
  have := UInt8.toNat_lt x
  rw [IntKind.wrap_u8]; omega
theorem gb_ext {a b : List UInt8} (hl : a.length = b.length) (h : ∀ j, j < a.length → gb a j = gb b j) : a = b := by
  refine List.ext_getElem hl fun k h1 h2 => ?_
  have := h k h1
  simpa [gb, h1, h2] using this
theorem take_gb {a : List UInt8} {j : Nat} (h : j < a.length) : a.take j ++ [gb a j] = a.take (j + 1) := by
  rw [List.take_succ]
  simp [gb, h]
theorem fits_cols {l : List Sh} {N : Nat} (hG : Good' l) (hN : N ≤ l.length) : fits l N = true ↔ ∀ i (h : i < (l.drop N).length) j, j < len0 l → gb (vL (l.take N) (len0 l) (UInt8.ofNat (l.drop N)[i].1.toNat)) j = gb (l.drop N)[i].2 j := by
  unfold fits
  rw [List.all_eq_true]
  constructor
  · intro h i hi j hj
    have := h _ (List.getElem_mem hi)
    rw [decide_eq_true_eq] at this
    rw [this]
  · intro h x hx
    obtain ⟨i, hi, rfl⟩ := List.getElem_of_mem hx
    rw [decide_eq_true_eq]
    refine gb_ext ?_ fun j hj => h i hi j (by rwa [vL_len] at hj)
    rw [vL_len, List.getElem_drop]
    rw [List.length_drop] at hi
    exact (hG.len (N + i) (by omega)).symm
theorem Ss.sufAll {H : AH} {p : Addr} {c : Nat} {l : List Sh} (h : Ss H (.slice (some p) l.length c) p c l) (hd : H.get 0 = none) (hd0 : 0 < H.next) {k : Nat} (hk : k ≤ l.length) : ∃ ad c', ∀ X, Junk H X → slcAt X 2 (.slice (some p) l.length c) k l.length = some (.slice ad (l.drop k).length c') ∧ Sl X 2 (.slice ad (l.drop k).length c') (l.drop k).length (shc (l.drop k)) := by
  obtain ⟨ad, n, c', h1, rfl, h2⟩ := h.suf hd hk
  obtain ⟨b, hb1, hb2⟩ := h.blk
  refine ⟨ad, c', fun X st => ⟨?_, h2.keep st.old⟩⟩
  rw [← h1]
  have hlt : p.block < H.next := ldc_lt h.cells
  simp only [slcAt, st.old _ hlt, st.old 0 hd0]
variable {tbl : Tbl} [hT : TMono tbl]
theorem v35 (h74 : tbl 74 = some (.code m74)) (h101 : tbl 101 = some (.code m101)) (h72 : tbl 72 = some (.code m72)) (h35 : tbl 35 = some (.code m35)) (l : List Sh) (hG : Good' l) (hl : l.length ≤ 255) (N : Nat) (hN1 : 1 ≤ N) (hN2 : N ≤ l.length) {H : AH} {p : Addr} {c : Nat} (hs : Ss H (.slice (some p) l.length c) p c l) (hd : H.get 0 = none) (hd0 : 0 < H.next) :
    Val tbl 35 [.slice (some p) l.length c, .int .i64 N] H (.tuple #[.string (tx (if fits l N = true then vL (l.take N) (len0 l) 0 else [])), .bool (fits l N)]) H := by
  refine Val.of_all fun Q hQ => ?_
  rw [rn_fun h35, k35]
  have hl0 : 0 < l.length := by omega
  have hlne : l ≠ [] := by intro e; rw [e] at hl0; simp at hl0
  obtain ⟨hm1, hm2⟩ := hG.most hlne
  have N0 : (0 : Int) ≤ N := by omega
  have NI : (N : Int) ≤ l.length := by omega
  have hNc : N ≤ c := by have := hs.le; omega
  have q0 : l[0].2.length = len0 l := by simp [len0, hl0]
  have hv := fun (X : AH) (st' : Junk H X) (j : Nat) (hj : j < len0 l) (z : UInt8) => v72 h74 h101 h72 l N hN2 (by omega) (fun i h => by have := hG.at_ i h; omega) (fun i k hi hk hne => hG.ne i k (by omega) (by omega) hne) j (fun i h => by rw [hG.len i h]; exact hj) (by omega) (hs.keep st'.old).sl z
  simp only [go_sem, Nat.reduceEqDiff, Nat.reduceAdd, Nat.reduceLeDiff, Int.reduceEq, Int.reduceLT, Int.reduceLE, Int.reduceAdd, Int.reduceSub, Int.reduceMul, Int.reduceNeg, Int.reduceToNat, Nat.reduceMul]
  refine hs.sl.at0 hl0 fun q hq1 hq2 => ?_
  have hq3 := shc_at l 0 hl0
  rw [Nat.zero_mul] at hq3
  rw [hq3] at hq2
  obtain ⟨_, hq4⟩ := ldcB_two hq2
  simp only [hq4, tx_size, q0, addA, go_sem, Nat.reduceEqDiff, Nat.reduceAdd, Nat.reduceLeDiff, Int.reduceEq, Int.reduceLT, Int.reduceLE, Int.reduceAdd, Int.reduceSub, Int.reduceMul, Int.reduceNeg, Int.reduceToNat, Nat.reduceMul]
  refine rn_loop (fun mm f H' => ∃ j : Nat, j ≤ len0 l ∧ mm = len0 l - j ∧ f 0 = .slice (some p) l.length c ∧ f 1 = .int .i64 N ∧ f 6 = .string (tx ((vL (l.take N) (len0 l) 0).take j)) ∧ f 14 = .int .i64 (len0 l) ∧ f 15 = .int .i64 j ∧ Junk H H' ∧ (∀ i (h : i < (l.drop N).length) j', j' < j → gb (vL (l.take N) (len0 l) (UInt8.ofNat (l.drop N)[i].1.toNat)) j' = gb (l.drop N)[i].2 j')) ?_ (n := len0 l)
    ⟨0, by omega, rfl, by simp only [go_sem, Nat.reduceEqDiff, Nat.reduceAdd, Nat.reduceLeDiff, Int.reduceEq, Int.reduceLT, Int.reduceLE, Int.reduceAdd, Int.reduceSub, Int.reduceMul, Int.reduceNeg, Int.reduceToNat, Nat.reduceMul], by simp only [go_sem, Nat.reduceEqDiff, Nat.reduceAdd, Nat.reduceLeDiff, Int.reduceEq, Int.reduceLT, Int.reduceLE, Int.reduceAdd, Int.reduceSub, Int.reduceMul, Int.reduceNeg, Int.reduceToNat, Nat.reduceMul], by simp only [go_sem, Nat.reduceEqDiff, Nat.reduceAdd, Nat.reduceLeDiff, Int.reduceEq, Int.reduceLT, Int.reduceLE, Int.reduceAdd, Int.reduceSub, Int.reduceMul, Int.reduceNeg, Int.reduceToNat, Nat.reduceMul] <;> rfl, by simp only [go_sem, Nat.reduceEqDiff, Nat.reduceAdd, Nat.reduceLeDiff, Int.reduceEq, Int.reduceLT, Int.reduceLE, Int.reduceAdd, Int.reduceSub, Int.reduceMul, Int.reduceNeg, Int.reduceToNat, Nat.reduceMul], by simp only [go_sem, Nat.reduceEqDiff, Nat.reduceAdd, Nat.reduceLeDiff, Int.reduceEq, Int.reduceLT, Int.reduceLE, Int.reduceAdd, Int.reduceSub, Int.reduceMul, Int.reduceNeg, Int.reduceToNat, Nat.reduceMul] <;> rfl, Junk.enter H, fun i h j' h2 => absurd h2 (by omega)⟩
  rintro mm f H' ⟨j, hj, rfl, f0, f1, f6, f14, f15, st, hok⟩
  have hnl : ¬ H'.low < H.next := by have := st.low; omega
  by_cases hlt : (j : Int) < len0 l
  · have hj2 : j < len0 l := by omega
    have j0 : (0 : Int) ≤ j := by omega
    have wj := w64 (x := (j : Int) + 1) (by omega) (by omega)
    have hv0 := hv H' st j hj2 0
    rw [vS_take hN2 hj2] at hv0
    have z64 : (((0 : UInt8).toNat : Nat) : Int) = 0 := rfl
    rw [z64] at hv0
    have hu : (⟨[.int .u8 ((gb (vL (l.take N) (len0 l) 0) j).toNat : Int)], 1, false⟩ : Blk) = u8r [gb (vL (l.take N) (len0 l) 0) j] := rfl
    have hsb := slcBytes_row (H := H'.push (u8r [gb (vL (l.take N) (len0 l) 0) j])) (n := 1) (c := 1) (AH.get_push_eq H' _) rfl
    have hcat := take_gb (a := vL (l.take N) (len0 l) 0) (j := j) (by rw [vL_len]; omega)
    have hsz : (tx ((vL (l.take N) (len0 l) 0).take j)).size + (tx [gb (vL (l.take N) (len0 l) 0) j]).size ≤ 9223372036854775807 := by
      rw [tx_size, tx_size, List.length_take, vL_len]
      have : [gb (vL (l.take N) (len0 l) 0) j].length = 1 := rfl
      omega
    obtain ⟨ad2, c2, hall⟩ := hs.sufAll hd hd0 hN2
    have hsuf := (hall _ (st.push (u8r [gb (vL (l.take N) (len0 l) 0) j]))).1
    simp only [f0, f1, f6, f14, f15, hlt, ↓hv0.run, wrap8u, hu, hsb, hsz, tx_cat, hcat, N0, NI, hN2, Int.toNat_natCast, hsuf, go_sem, Nat.reduceEqDiff, Nat.reduceAdd, Nat.reduceLeDiff, Int.reduceEq, Int.reduceLT, Int.reduceLE, Int.reduceAdd, Int.reduceSub, Int.reduceMul, Int.reduceNeg, Int.reduceToNat, Nat.reduceMul]
    have st1 := st.push (u8r [gb (vL (l.take N) (len0 l) 0) j])
    generalize H'.push (u8r [gb (vL (l.take N) (len0 l) 0) j]) = H1 at st1 ⊢
    clear hsuf hsb hu hsz
    refine rn_loop (fun m f H' => ∃ i : Nat, i ≤ (l.drop N).length ∧ m = (l.drop N).length - i ∧ f 0 = .slice (some p) l.length c ∧ f 1 = .int .i64 N ∧ f 6 = .string (tx ((vL (l.take N) (len0 l) 0).take (j + 1))) ∧ f 7 = .int .i64 j ∧ f 14 = .int .i64 (len0 l) ∧ f 15 = .int .i64 j ∧ f 29 = .slice ad2 (l.drop N).length c2 ∧ f 30 = .int .i64 (l.drop N).length ∧ f 31 = .int .i64 i ∧ Junk H H' ∧ (∀ i' (h : i' < (l.drop N).length), i' < i → gb (vL (l.take N) (len0 l) (UInt8.ofNat (l.drop N)[i'].1.toNat)) j = gb (l.drop N)[i'].2 j)) ?_ (n := (l.drop N).length)
      ⟨0, by omega, rfl, by simp only [f0, go_sem, Nat.reduceEqDiff, Nat.reduceAdd, Nat.reduceLeDiff, Int.reduceEq, Int.reduceLT, Int.reduceLE, Int.reduceAdd, Int.reduceSub, Int.reduceMul, Int.reduceNeg, Int.reduceToNat, Nat.reduceMul], by simp only [f1, go_sem, Nat.reduceEqDiff, Nat.reduceAdd, Nat.reduceLeDiff, Int.reduceEq, Int.reduceLT, Int.reduceLE, Int.reduceAdd, Int.reduceSub, Int.reduceMul, Int.reduceNeg, Int.reduceToNat, Nat.reduceMul], by simp only [go_sem, Nat.reduceEqDiff, Nat.reduceAdd, Nat.reduceLeDiff, Int.reduceEq, Int.reduceLT, Int.reduceLE, Int.reduceAdd, Int.reduceSub, Int.reduceMul, Int.reduceNeg, Int.reduceToNat, Nat.reduceMul], by simp only [go_sem, Nat.reduceEqDiff, Nat.reduceAdd, Nat.reduceLeDiff, Int.reduceEq, Int.reduceLT, Int.reduceLE, Int.reduceAdd, Int.reduceSub, Int.reduceMul, Int.reduceNeg, Int.reduceToNat, Nat.reduceMul], by simp only [f14, go_sem, Nat.reduceEqDiff, Nat.reduceAdd, Nat.reduceLeDiff, Int.reduceEq, Int.reduceLT, Int.reduceLE, Int.reduceAdd, Int.reduceSub, Int.reduceMul, Int.reduceNeg, Int.reduceToNat, Nat.reduceMul], by simp only [f15, go_sem, Nat.reduceEqDiff, Nat.reduceAdd, Nat.reduceLeDiff, Int.reduceEq, Int.reduceLT, Int.reduceLE, Int.reduceAdd, Int.reduceSub, Int.reduceMul, Int.reduceNeg, Int.reduceToNat, Nat.reduceMul], by simp only [go_sem, Nat.reduceEqDiff, Nat.reduceAdd, Nat.reduceLeDiff, Int.reduceEq, Int.reduceLT, Int.reduceLE, Int.reduceAdd, Int.reduceSub, Int.reduceMul, Int.reduceNeg, Int.reduceToNat, Nat.reduceMul], by simp only [go_sem, Nat.reduceEqDiff, Nat.reduceAdd, Nat.reduceLeDiff, Int.reduceEq, Int.reduceLT, Int.reduceLE, Int.reduceAdd, Int.reduceSub, Int.reduceMul, Int.reduceNeg, Int.reduceToNat, Nat.reduceMul], by simp only [go_sem, Nat.reduceEqDiff, Nat.reduceAdd, Nat.reduceLeDiff, Int.reduceEq, Int.reduceLT, Int.reduceLE, Int.reduceAdd, Int.reduceSub, Int.reduceMul, Int.reduceNeg, Int.reduceToNat, Nat.reduceMul] <;> rfl, st1, fun i' h h2 => absurd h2 (by omega)⟩
    clear f0 f1 f6 f14 f15
    rintro m f H'' ⟨i, hi, rfl, f0, f1, f6, f7, f14, f15, f29, f30, f31, st2, hcol⟩
    have hdl : (l.drop N).length = l.length - N := by rw [List.length_drop]
    by_cases hlti : (i : Int) < (l.drop N).length
    · have hi2 : i < (l.drop N).length := by omega
      have hp2 : H''.next < H''.next + 1 := by omega
      have wi := w64 (x := (i : Int) + 1) (by omega) (by omega)
      have hdi : (l.drop N)[i] = l[N + i]'(by omega) := by simp
      have hat : 1 ≤ (l.drop N)[i].1 ∧ (l.drop N)[i].1 ≤ 255 := by rw [hdi]; exact hG.at_ _ _
      have hdat : (l.drop N)[i].2.length = len0 l := by rw [hdi]; exact hG.len _ _
      simp only [f0, f1, f6, f7, f14, f15, f29, f30, f31, hlti, go_sem, Nat.reduceEqDiff, Nat.reduceAdd, Nat.reduceLeDiff, Int.reduceEq, Int.reduceLT, Int.reduceLE, Int.reduceAdd, Int.reduceSub, Int.reduceMul, Int.reduceNeg, Int.reduceToNat, Nat.reduceMul]
      refine (hall _ st2).2.at_ hi2 fun q hq1 hq2 => ?_
      rw [shc_at _ _ hi2] at hq2
      simp only [f0, f1, f6, f7, f14, f15, f29, f30, f31, hq2, hp2, stc_eq, stB_some, go_sem, Nat.reduceEqDiff, Nat.reduceAdd, Nat.reduceLeDiff, Int.reduceEq, Int.reduceLT, Int.reduceLE, Int.reduceAdd, Int.reduceSub, Int.reduceMul, Int.reduceNeg, Int.reduceToNat, Nat.reduceMul]
      have st3 := (st2.push ⟨[.int .i64 0, .string ⟨#[]⟩], 1, false⟩).set st2.nx (some ⟨[.int .i64 (l.drop N)[i].1, .string (tx (l.drop N)[i].2)], 1, false⟩)
      have g9 := ps_get (H' := H'') (b := ⟨[.int .i64 0, .string ⟨#[]⟩], 1, false⟩) (c := ⟨[.int .i64 (l.drop N)[i].1, .string (tx (l.drop N)[i].2)], 1, false⟩)
      have n2 := ps_next (H' := H'') (b := ⟨[.int .i64 0, .string ⟨#[]⟩], 1, false⟩) (c := ⟨[.int .i64 (l.drop N)[i].1, .string (tx (l.drop N)[i].2)], 1, false⟩)
      generalize (H''.push ⟨[.int .i64 0, .string ⟨#[]⟩], 1, false⟩).set H''.next (some ⟨[.int .i64 (l.drop N)[i].1, .string (tx (l.drop N)[i].2)], 1, false⟩) = H2 at st3 g9 n2 ⊢
      have hnl2 : ¬ H2.low < H.next := by have := st3.low; omega
      have hltn : H''.next < H2.next := by omega
      have hv1 := hv H2.enter ⟨st3.old, st3.nx, st3.nx⟩ j hj2 (UInt8.ofNat (l.drop N)[i].1.toNat)
      have hxe : ((UInt8.ofNat (l.drop N)[i].1.toNat).toNat : Int) = (l.drop N)[i].1 := by
        rw [UInt8.toNat_ofNat']; omega
      rw [vS_take hN2 hj2, hxe] at hv1
      have hjd : (j : Int) < (l.drop N)[i].2.length := by omega
      have hjd2 : j + 1 ≤ (l.drop N)[i].2.length := by omega
      have hb := (gb (l.drop N)[i].2 j).toNat_lt
      have wb := w64 (x := ((gb (l.drop N)[i].2 j).toNat : Int)) (by omega) (by omega)
      by_cases heq : gb (vL (l.take N) (len0 l) (UInt8.ofNat (l.drop N)[i].1.toNat)) j = gb (l.drop N)[i].2 j
      · have heq2 : (((gb (vL (l.take N) (len0 l) (UInt8.ofNat (l.drop N)[i].1.toNat)) j).toNat : Int) = ((gb (l.drop N)[i].2 j).toNat : Int)) := by rw [heq]
        simp only [f0, f1, f6, f7, f14, f15, f29, f30, f31, j0, g9, addA, Nat.add_zero, Nat.zero_add, ↓hv1.run, relow', MI.rdBlk, blkOf, hltn, hjd, hjd2, tx_size, byteAt_tx, Int.toNat_natCast, wb, heq, wi, hnl2, go_sem, Nat.reduceEqDiff, Nat.reduceAdd, Nat.reduceLeDiff, Int.reduceEq, Int.reduceLT, Int.reduceLE, Int.reduceAdd, Int.reduceSub, Int.reduceMul, Int.reduceNeg, Int.reduceToNat, Nat.reduceMul]
        refine ⟨(l.drop N).length - (i + 1), by omega, i + 1, by omega, rfl, by simp only [f0, go_sem, Nat.reduceEqDiff, Nat.reduceAdd, Nat.reduceLeDiff, Int.reduceEq, Int.reduceLT, Int.reduceLE, Int.reduceAdd, Int.reduceSub, Int.reduceMul, Int.reduceNeg, Int.reduceToNat, Nat.reduceMul], by simp only [f1, go_sem, Nat.reduceEqDiff, Nat.reduceAdd, Nat.reduceLeDiff, Int.reduceEq, Int.reduceLT, Int.reduceLE, Int.reduceAdd, Int.reduceSub, Int.reduceMul, Int.reduceNeg, Int.reduceToNat, Nat.reduceMul], by simp only [f6, go_sem, Nat.reduceEqDiff, Nat.reduceAdd, Nat.reduceLeDiff, Int.reduceEq, Int.reduceLT, Int.reduceLE, Int.reduceAdd, Int.reduceSub, Int.reduceMul, Int.reduceNeg, Int.reduceToNat, Nat.reduceMul], by simp only [f7, go_sem, Nat.reduceEqDiff, Nat.reduceAdd, Nat.reduceLeDiff, Int.reduceEq, Int.reduceLT, Int.reduceLE, Int.reduceAdd, Int.reduceSub, Int.reduceMul, Int.reduceNeg, Int.reduceToNat, Nat.reduceMul], by simp only [f14, go_sem, Nat.reduceEqDiff, Nat.reduceAdd, Nat.reduceLeDiff, Int.reduceEq, Int.reduceLT, Int.reduceLE, Int.reduceAdd, Int.reduceSub, Int.reduceMul, Int.reduceNeg, Int.reduceToNat, Nat.reduceMul], by simp only [f15, go_sem, Nat.reduceEqDiff, Nat.reduceAdd, Nat.reduceLeDiff, Int.reduceEq, Int.reduceLT, Int.reduceLE, Int.reduceAdd, Int.reduceSub, Int.reduceMul, Int.reduceNeg, Int.reduceToNat, Nat.reduceMul], by simp only [f29, go_sem, Nat.reduceEqDiff, Nat.reduceAdd, Nat.reduceLeDiff, Int.reduceEq, Int.reduceLT, Int.reduceLE, Int.reduceAdd, Int.reduceSub, Int.reduceMul, Int.reduceNeg, Int.reduceToNat, Nat.reduceMul], by simp only [f30, go_sem, Nat.reduceEqDiff, Nat.reduceAdd, Nat.reduceLeDiff, Int.reduceEq, Int.reduceLT, Int.reduceLE, Int.reduceAdd, Int.reduceSub, Int.reduceMul, Int.reduceNeg, Int.reduceToNat, Nat.reduceMul], by simp only [go_sem, Nat.reduceEqDiff, Nat.reduceAdd, Nat.reduceLeDiff, Int.reduceEq, Int.reduceLT, Int.reduceLE, Int.reduceAdd, Int.reduceSub, Int.reduceMul, Int.reduceNeg, Int.reduceToNat, Nat.reduceMul] <;> rfl, st3, fun i' h h2 => ?_⟩
        by_cases hii : i' = i
        · subst hii; exact heq
        · exact hcol i' h (by omega)
      · have hne : ¬ (((gb (vL (l.take N) (len0 l) (UInt8.ofNat (l.drop N)[i].1.toNat)) j).toNat : Int) = ((gb (l.drop N)[i].2 j).toNat : Int)) := fun e => heq (UInt8.toNat_inj.1 (by omega))
        have hf : fits l N = false := by
          cases hx : fits l N with
          | false => rfl
          | true => exact absurd ((fits_cols hG hN2).1 hx i hi2 j hj2) heq
        rw [hf, if_neg (by simp)] at hQ
        simp only [f0, f1, f6, f7, f14, f15, f29, f30, f31, j0, g9, addA, Nat.add_zero, Nat.zero_add, ↓hv1.run, relow', MI.rdBlk, blkOf, hltn, hjd, hjd2, tx_size, byteAt_tx, Int.toNat_natCast, wb, hne, wi, hnl2, go_sem, Nat.reduceEqDiff, Nat.reduceAdd, Nat.reduceLeDiff, Int.reduceEq, Int.reduceLT, Int.reduceLE, Int.reduceAdd, Int.reduceSub, Int.reduceMul, Int.reduceNeg, Int.reduceToNat, Nat.reduceMul]
        exact hQ
    · have hie : i = (l.drop N).length := by omega
      simp only [f0, f1, f6, f7, f14, f15, f29, f30, f31, hlti, wj, go_sem, Nat.reduceEqDiff, Nat.reduceAdd, Nat.reduceLeDiff, Int.reduceEq, Int.reduceLT, Int.reduceLE, Int.reduceAdd, Int.reduceSub, Int.reduceMul, Int.reduceNeg, Int.reduceToNat, Nat.reduceMul]
      refine ⟨len0 l - (j + 1), by omega, j + 1, by omega, rfl, by simp only [f0, go_sem, Nat.reduceEqDiff, Nat.reduceAdd, Nat.reduceLeDiff, Int.reduceEq, Int.reduceLT, Int.reduceLE, Int.reduceAdd, Int.reduceSub, Int.reduceMul, Int.reduceNeg, Int.reduceToNat, Nat.reduceMul], by simp only [f1, go_sem, Nat.reduceEqDiff, Nat.reduceAdd, Nat.reduceLeDiff, Int.reduceEq, Int.reduceLT, Int.reduceLE, Int.reduceAdd, Int.reduceSub, Int.reduceMul, Int.reduceNeg, Int.reduceToNat, Nat.reduceMul], by simp only [f6, go_sem, Nat.reduceEqDiff, Nat.reduceAdd, Nat.reduceLeDiff, Int.reduceEq, Int.reduceLT, Int.reduceLE, Int.reduceAdd, Int.reduceSub, Int.reduceMul, Int.reduceNeg, Int.reduceToNat, Nat.reduceMul], by simp only [f14, go_sem, Nat.reduceEqDiff, Nat.reduceAdd, Nat.reduceLeDiff, Int.reduceEq, Int.reduceLT, Int.reduceLE, Int.reduceAdd, Int.reduceSub, Int.reduceMul, Int.reduceNeg, Int.reduceToNat, Nat.reduceMul], by simp only [go_sem, Nat.reduceEqDiff, Nat.reduceAdd, Nat.reduceLeDiff, Int.reduceEq, Int.reduceLT, Int.reduceLE, Int.reduceAdd, Int.reduceSub, Int.reduceMul, Int.reduceNeg, Int.reduceToNat, Nat.reduceMul] <;> rfl, st2, fun i' h j' h2 => ?_⟩
      by_cases hjj : j' = j
      · subst hjj; exact hcol i' h (by omega)
      · exact hok i' h j' (by omega)
  · have hje : j = len0 l := by omega
    subst hje
    have hf := (fits_cols hG hN2).2 hok
    rw [hf, if_pos rfl] at hQ
    have ht : (vL (l.take N) (len0 l) 0).take (len0 l) = vL (l.take N) (len0 l) 0 := List.take_of_length_le (by rw [vL_len]; omega)
    rw [ht] at f6
    simp only [f0, f1, f6, f14, f15, hlt, hnl, go_sem, Nat.reduceEqDiff, Nat.reduceAdd, Nat.reduceLeDiff, Int.reduceEq, Int.reduceLT, Int.reduceLE, Int.reduceAdd, Int.reduceSub, Int.reduceMul, Int.reduceNeg, Int.reduceToNat, Nat.reduceMul]
    exact hQ
end Go.Proofs.Ytildhljhbbhmmaa.AM
namespace Go.Proofs.Ytildhljhbbhmmaa.AM
open Go
set_option linter.all false
set_option maxRecDepth 10000

/-- The first place with x, or -1. -/
def fI (l : List Sh) (x : Int) : Int := match l.findIdx? (fun p => decide (p.1 = x)) with
  | some j => j
  | none => -1
theorem fI_some {l : List Sh} {x : Int} {j : Nat} (hj : j < l.length) (h : l[j].1 = x) (h0 : ∀ k (hk : k < l.length), k < j → l[k].1 ≠ x) : fI l x = j := by
  have : l.findIdx? (fun p => decide (p.1 = x)) = some j := by
    rw [List.findIdx?_eq_some_iff_getElem]
    refine ⟨hj, by simpa using h, fun k hk => ?_⟩
    simpa using h0 k (by omega) hk
  simp only [fI, this]
theorem fI_none {l : List Sh} {x : Int} (h0 : ∀ k (hk : k < l.length), l[k].1 ≠ x) : fI l x = -1 := by
  have : l.findIdx? (fun p => decide (p.1 = x)) = none := by
    rw [List.findIdx?_eq_none_iff]
    intro p hp
    obtain ⟨k, hk, rfl⟩ := List.getElem_of_mem hp
    simpa using h0 k hk
  simp only [fI, this]
theorem fI_any {l : List Sh} {x : Int} : decide (0 ≤ fI l x) = l.any fun p => decide (p.1 = x) := by
  cases h : l.findIdx? (fun p => decide (p.1 = x)) with
  | some j =>
    simp only [fI, h]
    rw [List.findIdx?_eq_some_iff_getElem] at h
    obtain ⟨hj, h1, _⟩ := h
    have : (l.any fun p => decide (p.1 = x)) = true := List.any_eq_true.2 ⟨l[j], List.getElem_mem hj, h1⟩
    rw [this]
    simp
  | none =>
    simp only [fI, h]
    rw [List.findIdx?_eq_none_iff] at h
    have : (l.any fun p => decide (p.1 = x)) = false := List.any_eq_false.2 fun p hp => by simpa using h p hp
    rw [this]
    rfl
variable {tbl : Tbl} [hT : TMono tbl]
theorem v34 (h34 : tbl 34 = some (.code m34)) {H : AH} {k : Nat} {x : Int} {d : Value} (hk : H.get k = some ⟨[.int .i64 x, d], 1, false⟩) (y : Int) (e : Value) (he : one e = true) : Val tbl 34 [.agg #[.int .i64 y, e], .pointer (some ⟨k, 0, none⟩)] H (.bool (decide (y = x))) H := by
  refine Val.of_all fun Q hQ => ?_
  rw [rn_fun h34, k34]
  have hlt := AH.get_lt hk
  have g1 : (H.enter.push ⟨[.int .i64 y, e], 1, false⟩).get k = some ⟨[.int .i64 x, d], 1, false⟩ := (AH.get_push_lt H.enter _ hlt).trans hk
  have hlt2 : k < H.next + 1 := by omega
  simp only [hlt2, g1, hk, he, go_sem, Nat.reduceEqDiff, Nat.reduceAdd, Nat.reduceLeDiff, Int.reduceEq, Int.reduceLT, Int.reduceLE, Int.reduceAdd, Int.reduceSub, Int.reduceMul, Int.reduceNeg, Int.reduceToNat, Nat.reduceMul]
  exact hQ
theorem v71 (h34 : tbl 34 = some (.code m34)) (h71 : tbl 71 = some (.code m71)) {H : AH} {k : Nat} {x : Int} {d : Value} (hk : H.get k = some ⟨[.int .i64 x, d], 1, false⟩) {v : Value} (l : List Sh) (hl : l.length ≤ 9223372036854775807) (hs : Sl H 2 v l.length (shc l)) :
    Val tbl 71 [v, .func (.func 34) #[] #[.pointer (some ⟨k, 0, none⟩)]] H (.int .i64 (fI l x)) H := by
  refine Val.of_all fun Q hQ => ?_
  obtain ⟨ad, c, rfl⟩ := hs.shape
  rw [rn_fun h71, k71]
  simp only [go_sem, Nat.reduceEqDiff, Nat.reduceAdd, Nat.reduceLeDiff, Int.reduceEq, Int.reduceLT, Int.reduceLE, Int.reduceAdd, Int.reduceSub, Int.reduceMul, Int.reduceNeg, Int.reduceToNat, Nat.reduceMul]
  refine rn_loop (fun mm f H' => ∃ j : Nat, j ≤ l.length ∧ mm = l.length - j ∧ f 0 = .slice ad l.length c ∧ f 1 = .func (.func 34) #[] #[.pointer (some ⟨k, 0, none⟩)] ∧ f 7 = .int .i64 l.length ∧ f 8 = .int .i64 j ∧ H' = H.enter ∧ (∀ i (h : i < l.length), i < j → l[i].1 ≠ x)) ?_ (n := l.length)
    ⟨0, by omega, rfl, by simp only [go_sem, Nat.reduceEqDiff, Nat.reduceAdd, Nat.reduceLeDiff, Int.reduceEq, Int.reduceLT, Int.reduceLE, Int.reduceAdd, Int.reduceSub, Int.reduceMul, Int.reduceNeg, Int.reduceToNat, Nat.reduceMul], by simp only [go_sem, Nat.reduceEqDiff, Nat.reduceAdd, Nat.reduceLeDiff, Int.reduceEq, Int.reduceLT, Int.reduceLE, Int.reduceAdd, Int.reduceSub, Int.reduceMul, Int.reduceNeg, Int.reduceToNat, Nat.reduceMul], by simp only [go_sem, Nat.reduceEqDiff, Nat.reduceAdd, Nat.reduceLeDiff, Int.reduceEq, Int.reduceLT, Int.reduceLE, Int.reduceAdd, Int.reduceSub, Int.reduceMul, Int.reduceNeg, Int.reduceToNat, Nat.reduceMul], by simp only [go_sem, Nat.reduceEqDiff, Nat.reduceAdd, Nat.reduceLeDiff, Int.reduceEq, Int.reduceLT, Int.reduceLE, Int.reduceAdd, Int.reduceSub, Int.reduceMul, Int.reduceNeg, Int.reduceToNat, Nat.reduceMul] <;> rfl, rfl, fun i h h2 => absurd h2 (by omega)⟩
  rintro mm f H' ⟨j, hj, rfl, f0, f1, f7, f8, rfl, hno⟩
  by_cases hlt : (j : Int) < l.length
  · have hj2 : j < l.length := by omega
    have wj := w64 (x := (j : Int) + 1) (by omega) (by omega)
    simp only [f0, f1, f7, f8, hlt, go_sem, Nat.reduceEqDiff, Nat.reduceAdd, Nat.reduceLeDiff, Int.reduceEq, Int.reduceLT, Int.reduceLE, Int.reduceAdd, Int.reduceSub, Int.reduceMul, Int.reduceNeg, Int.reduceToNat, Nat.reduceMul]
    refine hs.at_ hj2 fun q hq1 hq2 => ?_
    rw [shc_at _ _ hj2] at hq2
    have hkE : H.enter.get k = some ⟨[.int .i64 x, d], 1, false⟩ := hk
    have hv := v34 h34 hkE l[j].1 (.string (tx l[j].2)) rfl
    by_cases hx : l[j].1 = x
    · rw [fI_some hj2 hx hno] at hQ
      have hdx : decide (l[j].1 = x) = true := by simpa using hx
      rw [hdx] at hv
      simp only [f0, f1, f7, f8, hq2, List.toList_toArray, List.nil_append, List.cons_append, ↓hv.run, go_sem, Nat.reduceEqDiff, Nat.reduceAdd, Nat.reduceLeDiff, Int.reduceEq, Int.reduceLT, Int.reduceLE, Int.reduceAdd, Int.reduceSub, Int.reduceMul, Int.reduceNeg, Int.reduceToNat, Nat.reduceMul]
      exact hQ
    · have hdx : decide (l[j].1 = x) = false := by simpa using hx
      rw [hdx] at hv
      simp only [f0, f1, f7, f8, hq2, List.toList_toArray, List.nil_append, List.cons_append, ↓hv.run, wj, go_sem, Nat.reduceEqDiff, Nat.reduceAdd, Nat.reduceLeDiff, Int.reduceEq, Int.reduceLT, Int.reduceLE, Int.reduceAdd, Int.reduceSub, Int.reduceMul, Int.reduceNeg, Int.reduceToNat, Nat.reduceMul]
      refine ⟨l.length - (j + 1), by omega, j + 1, by omega, rfl, by simp only [f0, go_sem, Nat.reduceEqDiff, Nat.reduceAdd, Nat.reduceLeDiff, Int.reduceEq, Int.reduceLT, Int.reduceLE, Int.reduceAdd, Int.reduceSub, Int.reduceMul, Int.reduceNeg, Int.reduceToNat, Nat.reduceMul], by simp only [f1, go_sem, Nat.reduceEqDiff, Nat.reduceAdd, Nat.reduceLeDiff, Int.reduceEq, Int.reduceLT, Int.reduceLE, Int.reduceAdd, Int.reduceSub, Int.reduceMul, Int.reduceNeg, Int.reduceToNat, Nat.reduceMul], by simp only [f7, go_sem, Nat.reduceEqDiff, Nat.reduceAdd, Nat.reduceLeDiff, Int.reduceEq, Int.reduceLT, Int.reduceLE, Int.reduceAdd, Int.reduceSub, Int.reduceMul, Int.reduceNeg, Int.reduceToNat, Nat.reduceMul], by simp only [go_sem, Nat.reduceEqDiff, Nat.reduceAdd, Nat.reduceLeDiff, Int.reduceEq, Int.reduceLT, Int.reduceLE, Int.reduceAdd, Int.reduceSub, Int.reduceMul, Int.reduceNeg, Int.reduceToNat, Nat.reduceMul] <;> rfl, rfl, fun i h h2 => ?_⟩
      by_cases hij : i = j
      · subst hij; exact hx
      · exact hno i h (by omega)
  · have hje : j = l.length := by omega
    rw [fI_none fun i h => hno i h (by omega)] at hQ
    simp only [f0, f1, f7, f8, hlt, go_sem, Nat.reduceEqDiff, Nat.reduceAdd, Nat.reduceLeDiff, Int.reduceEq, Int.reduceLT, Int.reduceLE, Int.reduceAdd, Int.reduceSub, Int.reduceMul, Int.reduceNeg, Int.reduceToNat, Nat.reduceMul]
    exact hQ
theorem v33 (h34 : tbl 34 = some (.code m34)) (h71 : tbl 71 = some (.code m71)) (h33 : tbl 33 = some (.code m33)) {H : AH} {k : Nat} {x : Int} {d : Value} (hk : H.get k = some ⟨[.int .i64 x, d], 1, false⟩) {v : Value} (l : List Sh) (hl : l.length ≤ 9223372036854775807) (hs : Sl H 2 v l.length (shc l)) :
    Val tbl 33 [v, .func (.func 34) #[] #[.pointer (some ⟨k, 0, none⟩)]] H (.bool (l.any fun p => decide (p.1 = x))) H := by
  refine Val.of_all fun Q hQ => ?_
  rw [rn_fun h33, k33]
  have hkE : H.enter.get k = some ⟨[.int .i64 x, d], 1, false⟩ := hk
  have hsE : Sl H.enter 2 v l.length (shc l) := hs
  have hv := v71 h34 h71 hkE l hl hsE
  rw [← fI_any] at hQ
  simp only [↓hv.run, go_sem, Nat.reduceEqDiff, Nat.reduceAdd, Nat.reduceLeDiff, Int.reduceEq, Int.reduceLT, Int.reduceLE, Int.reduceAdd, Int.reduceSub, Int.reduceMul, Int.reduceNeg, Int.reduceToNat, Nat.reduceMul]
  exact hQ
end Go.Proofs.Ytildhljhbbhmmaa.AM
namespace Go.Proofs.Ytildhljhbbhmmaa.AM
open Go
set_option linter.all false
set_option maxRecDepth 10000

theorem first4 (w a b c : Int) : firstL [w, a, b, c] = if w ≠ 0 then w else if a ≠ 0 then a else if b ≠ 0 then b else c := by
  simp only [firstL, ne_eq, ite_not]
  by_cases h : c = 0 <;> simp [h]
theorem first3 (w a b : Int) : firstL [w, a, b] = if w ≠ 0 then w else if a ≠ 0 then a else b := by
  simp only [firstL, ne_eq, ite_not]
  by_cases h : b = 0 <;> simp [h]
/-- The law's first error: of the numbers alone. -/
def wB (l : List Sh) (need : Int) : Int := firstL [if (!decide (1 ≤ need ∧ need ≤ 255)) = true then 7 else 0, if (l.length : Int) < need then 3 else 0, if (255 : Int) < l.length then 8 else 0]
/-- The law's error after i shares. -/
def wv (l : List Sh) (need : Int) (i : Nat) : Int := if wB l need ≠ 0 then wB l need else eF l i
theorem wB_eq {l : List Sh} {need : Int} : wB l need = if need < 1 ∨ 255 < need then 7 else if (l.length : Int) < need then 3 else if 255 < l.length then 8 else 0 := by
  unfold wB
  rw [first3]
  have e1 : (need < 1 ∨ 255 < need) ↔ ¬ (1 ≤ need ∧ need ≤ 255) := by omega
  have e3 : ((255 : Int) < l.length) ↔ 255 < l.length := by omega
  simp only [e1, e3]
  by_cases h1 : 1 ≤ need ∧ need ≤ 255 <;> by_cases h2 : (l.length : Int) < need <;> by_cases h3 : 255 < l.length <;> simp [h1, h2, h3]
/-- What is wrong with the bytes of a share. -/
def badD (l : List Sh) (d : List UInt8) : Prop := d = [] ∨ 1024 < d.length ∨ d.length ≠ len0 l
instance (l : List Sh) (d : List UInt8) : Decidable (badD l d) := inferInstanceAs (Decidable (_ ∨ _))
theorem eE_eq {l : List Sh} {i : Nat} (h : i < l.length) : eE l i = if ¬ (1 ≤ l[i].1 ∧ l[i].1 ≤ 255) then 7 else if seenB l i l[i].1 = true then 4 else if badD l l[i].2 then 6 else 0 := by
  have hg : l.getD i (0, []) = l[i] := by simp [h]
  have e1 : (l[i].1 < 1 ∨ 255 < l[i].1) ↔ ¬ (1 ≤ l[i].1 ∧ l[i].1 ≤ 255) := by omega
  unfold eE
  simp only [hg, e1]
  rfl
theorem wv_succ {l : List Sh} {need : Int} {i : Nat} (h : i < l.length) (c : Int) (hc : c = if badD l l[i].2 then 6 else 0) : firstL [wv l need i, if (!decide (1 ≤ l[i].1 ∧ l[i].1 ≤ 255)) = true then 7 else 0, if seenB l i l[i].1 = true then 4 else 0, c] = wv l need (i + 1) := by
  subst hc
  rw [first4]
  unfold wv
  simp only [eF]
  rw [eE_eq h]
  by_cases h1 : wB l need = 0 <;> by_cases h2 : eF l i = 0 <;> by_cases h3 : 1 ≤ l[i].1 ∧ l[i].1 ≤ 255 <;> by_cases h4 : seenB l i l[i].1 = true <;> simp [h1, h2, h3, h4]
theorem wv_secE {l : List Sh} {need : Int} : secE l need = if wv l need l.length ≠ 0 then wv l need l.length else if fits l need.toNat = true then 0 else 18 := by
  unfold secE wv
  rw [wB_eq]
  by_cases h1 : need < 1 ∨ 255 < need
  · simp [h1]
  · by_cases h2 : (l.length : Int) < need
    · simp [h1, h2]
    · by_cases h3 : 255 < l.length
      · simp [h1, h2, h3]
      · by_cases h4 : eF l l.length = 0
        · simp only [h1, h2, h3, h4, if_false, ne_eq, not_true, if_true]
        · simp only [h1, h2, h3, h4, if_false, ne_eq, not_true, not_false_iff, if_true]
theorem wv_sec {l : List Sh} {need : Int} (h : wv l need l.length ≠ 0) : secE l need = wv l need l.length ∧ secT l need = [] := by
  have e : secE l need = wv l need l.length := by rw [wv_secE, if_pos h]
  refine ⟨e, ?_⟩
  unfold secT
  rw [e, if_neg h]
theorem wv_zero {l : List Sh} {need : Int} (h : wv l need l.length = 0) : (1 ≤ need ∧ need ≤ 255 ∧ need ≤ l.length ∧ l.length ≤ 255) ∧ eF l l.length = 0 ∧ secE l need = if fits l need.toNat = true then 0 else 18 := by
  refine ⟨?_, ?_, by rw [wv_secE, if_neg (by rw [h]; simp)]⟩
  · unfold wv at h
    rw [wB_eq] at h
    by_cases h1 : need < 1 ∨ 255 < need
    · simp [h1] at h
    · by_cases h2 : (l.length : Int) < need
      · simp [h1, h2] at h
      · by_cases h3 : 255 < l.length
        · simp [h1, h2, h3] at h
        · omega
  · unfold wv at h
    split at h
    · rename_i h1; exact absurd h h1
    · exact h
variable {tbl : Tbl} [hT : TMono tbl]
theorem v19_3s (h19 : tbl 19 = some (.code m19)) (X : AH) (a b c : Int) : Val tbl 19 [.slice (some ⟨X.next, 0, none⟩) 3 3] (X.push ⟨[.int .i64 a, .int .i64 b, .int .i64 c], 1, false⟩) (.int .i64 (firstL [a, b, c])) (X.push ⟨[.int .i64 a, .int .i64 b, .int .i64 c], 1, false⟩) :=
  v19 h19 _ _ [a, b, c] (rowS (X := X) (l := [a, b, c]) (by show 0 < 3; omega)) (by show 3 < 1000000000; omega)
structure SecLaw (tbl : Tbl) : Prop where
  h14 : tbl 14 = some (.code m14)
  h19 : tbl 19 = some (.code m19)
  h21 : tbl 21 = some (.code m21)
  h23 : tbl 23 = some (.code m23)
  h33 : tbl 33 = some (.code m33)
  h34 : tbl 34 = some (.code m34)
  h35 : tbl 35 = some (.code m35)
  h71 : tbl 71 = some (.code m71)
  h72 : tbl 72 = some (.code m72)
  h74 : tbl 74 = some (.code m74)
  h101 : tbl 101 = some (.code m101)
  h7 : tbl 7 = some (.code m7)
theorem v7 (T : SealT tbl) (S : SecTb tbl) (L : SecLaw tbl) (l : List Sh) (hll : l.length ≤ 9223372036854775807) (need : Int) {H : AH} {ad : Option Addr} {c : Nat} (hn : l = [] ∨ ∃ p, ad = some p ∧ Ss H (.slice ad l.length c) p c l) (hd : H.get 0 = none) (hd0 : 0 < H.next) :
    Val tbl 7 [.slice ad l.length c, .int .i64 need] H (.bool true) H := by
  refine Val.of_all fun Q hQ => ?_
  rw [rn_fun L.h7, k7]
  have a17 := v17 T
  have a32 := v32 S l need (H := H.enter) (ad := ad) (c := c) (hn.elim (fun h => .inr (.inl h)) fun ⟨p, h1, h2⟩ => .inr (.inr ⟨p, h1, h2.keep fun _ _ => rfl⟩)) (fun h => hn.elim id fun ⟨p, h1, h2⟩ => by rw [h] at h1; simp at h1) hd hd0
  have a14 := fun n X => v14 L.h14 n 1 255 X
  have a21 := fun b e X => v21b L.h21 b e X
  have a19 := fun a b c => v19_3s (tbl := tbl) L.h19 H.enter a b c
  simp only [nx_enter] at a19
  simp only [↓a32.run, ↓(a14 _ _).run, ↓(a21 _ _ _).run, ↓(a19 _ _ _).run, go_sem, Nat.reduceEqDiff, Nat.reduceAdd, Nat.reduceLeDiff, Int.reduceEq, Int.reduceLT, Int.reduceLE, Int.reduceAdd, Int.reduceSub, Int.reduceMul, Int.reduceNeg, Int.reduceToNat, Nat.reduceMul]
  have hw0 : firstL [if (!decide (1 ≤ need ∧ need ≤ 255)) = true then 7 else 0, if (l.length : Int) < need then 3 else 0, if (255 : Int) < l.length then 8 else 0] = wv l need 0 := by
    show wB l need = wv l need 0
    unfold wv
    by_cases h : wB l need = 0 <;> simp [h, eF]
  rw [hw0]
  refine rn_loop (fun m f H' => ∃ i : Nat, i ≤ l.length ∧ m = l.length - i ∧ f 0 = .slice ad l.length c ∧ f 1 = .int .i64 need ∧ f 5 = .string (tx (secT l need)) ∧ f 6 = .int .i64 (secE l need) ∧ f 7 = .int .i64 (wv l need i) ∧ f 34 = .slice ad l.length c ∧ f 35 = .int .i64 l.length ∧ f 36 = .int .i64 i ∧ Junk H H') ?_ (n := l.length)
    ⟨0, by omega, rfl, by simp only [go_sem, Nat.reduceEqDiff, Nat.reduceAdd, Nat.reduceLeDiff, Int.reduceEq, Int.reduceLT, Int.reduceLE, Int.reduceAdd, Int.reduceSub, Int.reduceMul, Int.reduceNeg, Int.reduceToNat, Nat.reduceMul], by simp only [go_sem, Nat.reduceEqDiff, Nat.reduceAdd, Nat.reduceLeDiff, Int.reduceEq, Int.reduceLT, Int.reduceLE, Int.reduceAdd, Int.reduceSub, Int.reduceMul, Int.reduceNeg, Int.reduceToNat, Nat.reduceMul], by simp only [go_sem, Nat.reduceEqDiff, Nat.reduceAdd, Nat.reduceLeDiff, Int.reduceEq, Int.reduceLT, Int.reduceLE, Int.reduceAdd, Int.reduceSub, Int.reduceMul, Int.reduceNeg, Int.reduceToNat, Nat.reduceMul], by simp only [go_sem, Nat.reduceEqDiff, Nat.reduceAdd, Nat.reduceLeDiff, Int.reduceEq, Int.reduceLT, Int.reduceLE, Int.reduceAdd, Int.reduceSub, Int.reduceMul, Int.reduceNeg, Int.reduceToNat, Nat.reduceMul], by simp only [go_sem, Nat.reduceEqDiff, Nat.reduceAdd, Nat.reduceLeDiff, Int.reduceEq, Int.reduceLT, Int.reduceLE, Int.reduceAdd, Int.reduceSub, Int.reduceMul, Int.reduceNeg, Int.reduceToNat, Nat.reduceMul], by simp only [go_sem, Nat.reduceEqDiff, Nat.reduceAdd, Nat.reduceLeDiff, Int.reduceEq, Int.reduceLT, Int.reduceLE, Int.reduceAdd, Int.reduceSub, Int.reduceMul, Int.reduceNeg, Int.reduceToNat, Nat.reduceMul], by simp only [go_sem, Nat.reduceEqDiff, Nat.reduceAdd, Nat.reduceLeDiff, Int.reduceEq, Int.reduceLT, Int.reduceLE, Int.reduceAdd, Int.reduceSub, Int.reduceMul, Int.reduceNeg, Int.reduceToNat, Nat.reduceMul], by simp only [go_sem, Nat.reduceEqDiff, Nat.reduceAdd, Nat.reduceLeDiff, Int.reduceEq, Int.reduceLT, Int.reduceLE, Int.reduceAdd, Int.reduceSub, Int.reduceMul, Int.reduceNeg, Int.reduceToNat, Nat.reduceMul] <;> rfl, (Junk.enter H).push _⟩
  rintro m f H' ⟨i, hi, rfl, f0, f1, f5, f6, f7, f34, f35, f36, st⟩
  by_cases hlt : (i : Int) < l.length
  · have hi2 : i < l.length := by omega
    have hl0 : 0 < l.length := by omega
    obtain ⟨p, rfl, hs⟩ := hn.resolve_left (fun e => by rw [e] at hl0; simp at hl0)
    have i0 : (0 : Int) ≤ i := by omega
    have hp2 : H'.next < H'.next + 1 := by omega
    have wi := w64 (x := (i : Int) + 1) (by omega) (by omega)
    have hic : i ≤ c := by have := hs.le; omega
    simp only [f0, f1, f5, f6, f7, f34, f35, f36, hlt, go_sem, Nat.reduceEqDiff, Nat.reduceAdd, Nat.reduceLeDiff, Int.reduceEq, Int.reduceLT, Int.reduceLE, Int.reduceAdd, Int.reduceSub, Int.reduceMul, Int.reduceNeg, Int.reduceToNat, Nat.reduceMul]
    refine (hs.sl.keep st.old).at_ hi2 fun q hq1 hq2 => ?_
    rw [shc_at _ _ hi2] at hq2
    have hpre := ((hs.keep ((st.push ⟨[.int .i64 0, .string ⟨#[]⟩], 1, false⟩).set st.nx (some ⟨[.int .i64 l[i].1, .string (tx l[i].2)], 1, false⟩)).old).pre (k := i) (by omega)).1
    simp only [f0, f1, f5, f6, f7, f34, f35, f36, hq2, hp2, stc_eq, stB_some, i0, hic, Int.toNat_natCast, hpre, go_sem, Nat.reduceEqDiff, Nat.reduceAdd, Nat.reduceLeDiff, Int.reduceEq, Int.reduceLT, Int.reduceLE, Int.reduceAdd, Int.reduceSub, Int.reduceMul, Int.reduceNeg, Int.reduceToNat, Nat.reduceMul]
    have st2 := (st.push ⟨[.int .i64 0, .string ⟨#[]⟩], 1, false⟩).set st.nx (some ⟨[.int .i64 l[i].1, .string (tx l[i].2)], 1, false⟩)
    have g9 := ps_get (H' := H') (b := ⟨[.int .i64 0, .string ⟨#[]⟩], 1, false⟩) (c := ⟨[.int .i64 l[i].1, .string (tx l[i].2)], 1, false⟩)
    have n2 := ps_next (H' := H') (b := ⟨[.int .i64 0, .string ⟨#[]⟩], 1, false⟩) (c := ⟨[.int .i64 l[i].1, .string (tx l[i].2)], 1, false⟩)
    generalize (H'.push ⟨[.int .i64 0, .string ⟨#[]⟩], 1, false⟩).set H'.next (some ⟨[.int .i64 l[i].1, .string (tx l[i].2)], 1, false⟩) = H2 at st2 g9 n2 hpre ⊢
    have htl : (l.take i).length = i := by rw [List.length_take]; omega
    have a33 := v33 L.h34 L.h71 L.h33 g9 (l.take i) (by omega) ((hs.keep st2.old).pre (k := i) (by omega)).2
    have hseen : ((l.take i).any fun p => decide (p.1 = l[i].1)) = seenB l i l[i].1 := rfl
    rw [hseen] at a33
    have hltn : H'.next < H2.next := by omega
    have a194 := fun a b c d => v19_4 (tbl := tbl) L.h19 H2 a b c d
    have q0 : l[0].2.length = len0 l := by simp [len0, hl0]
    have b5i : ((1024 : Int) < l[i].2.length) ↔ 1024 < l[i].2.length := by omega
    have b6i : ((l[i].2.length : Int) = (len0 l : Int)) ↔ l[i].2.length = len0 l := by omega
    simp only [f0, f1, f5, f6, f7, f34, f35, f36, ↓a33.run, List.toList_toArray, List.nil_append, List.cons_append, g9, addA, Nat.zero_add, Nat.add_zero, ↓(a14 _ _).run, ↓(a21 _ _ _).run, relow', MI.rdBlk, blkOf, hltn, tx_none, tx_size, b5i, go_sem, Nat.reduceEqDiff, Nat.reduceAdd, Nat.reduceLeDiff, Int.reduceEq, Int.reduceLT, Int.reduceLE, Int.reduceAdd, Int.reduceSub, Int.reduceMul, Int.reduceNeg, Int.reduceToNat, Nat.reduceMul]
    have fin : ∀ e : Int, e = (if badD l l[i].2 then 6 else 0) → firstL [wv l need i, if (!decide (1 ≤ l[i].1 ∧ l[i].1 ≤ 255)) = true then 7 else 0, if seenB l i l[i].1 = true then 4 else 0, e] = wv l need (i + 1) := fun e he => wv_succ hi2 e he
    have st3 := fun b => st2.push b
    by_cases b4 : l[i].2 = []
    · have hw := fin 6 (by rw [if_pos (.inl b4)])
      simp only [b4, f0, f1, f5, f6, f7, f34, f35, f36, g9, addA, Nat.zero_add, Nat.add_zero, ↓(a21 _ _ _).run, ↓(a194 _ _ _ _).run, relow', hw, wi, tx_none, tx_size, b5i, b6i, go_sem, Nat.reduceEqDiff, Nat.reduceAdd, Nat.reduceLeDiff, Int.reduceEq, Int.reduceLT, Int.reduceLE, Int.reduceAdd, Int.reduceSub, Int.reduceMul, Int.reduceNeg, Int.reduceToNat, Nat.reduceMul]
      exact ⟨l.length - (i + 1), by omega, i + 1, by omega, rfl, by simp only [f0, go_sem, Nat.reduceEqDiff, Nat.reduceAdd, Nat.reduceLeDiff, Int.reduceEq, Int.reduceLT, Int.reduceLE, Int.reduceAdd, Int.reduceSub, Int.reduceMul, Int.reduceNeg, Int.reduceToNat, Nat.reduceMul], by simp only [f1, go_sem, Nat.reduceEqDiff, Nat.reduceAdd, Nat.reduceLeDiff, Int.reduceEq, Int.reduceLT, Int.reduceLE, Int.reduceAdd, Int.reduceSub, Int.reduceMul, Int.reduceNeg, Int.reduceToNat, Nat.reduceMul], by simp only [f5, go_sem, Nat.reduceEqDiff, Nat.reduceAdd, Nat.reduceLeDiff, Int.reduceEq, Int.reduceLT, Int.reduceLE, Int.reduceAdd, Int.reduceSub, Int.reduceMul, Int.reduceNeg, Int.reduceToNat, Nat.reduceMul], by simp only [f6, go_sem, Nat.reduceEqDiff, Nat.reduceAdd, Nat.reduceLeDiff, Int.reduceEq, Int.reduceLT, Int.reduceLE, Int.reduceAdd, Int.reduceSub, Int.reduceMul, Int.reduceNeg, Int.reduceToNat, Nat.reduceMul], by simp only [go_sem, Nat.reduceEqDiff, Nat.reduceAdd, Nat.reduceLeDiff, Int.reduceEq, Int.reduceLT, Int.reduceLE, Int.reduceAdd, Int.reduceSub, Int.reduceMul, Int.reduceNeg, Int.reduceToNat, Nat.reduceMul], by simp only [f34, go_sem, Nat.reduceEqDiff, Nat.reduceAdd, Nat.reduceLeDiff, Int.reduceEq, Int.reduceLT, Int.reduceLE, Int.reduceAdd, Int.reduceSub, Int.reduceMul, Int.reduceNeg, Int.reduceToNat, Nat.reduceMul], by simp only [f35, go_sem, Nat.reduceEqDiff, Nat.reduceAdd, Nat.reduceLeDiff, Int.reduceEq, Int.reduceLT, Int.reduceLE, Int.reduceAdd, Int.reduceSub, Int.reduceMul, Int.reduceNeg, Int.reduceToNat, Nat.reduceMul], by simp only [go_sem, Nat.reduceEqDiff, Nat.reduceAdd, Nat.reduceLeDiff, Int.reduceEq, Int.reduceLT, Int.reduceLE, Int.reduceAdd, Int.reduceSub, Int.reduceMul, Int.reduceNeg, Int.reduceToNat, Nat.reduceMul] <;> rfl, st3 _⟩
    by_cases b5 : 1024 < l[i].2.length
    · have hw := fin 6 (by rw [if_pos (.inr (.inl b5))])
      simp only [b4, b5, f0, f1, f5, f6, f7, f34, f35, f36, g9, addA, Nat.zero_add, Nat.add_zero, ↓(a21 _ _ _).run, ↓(a194 _ _ _ _).run, relow', hw, wi, tx_none, tx_size, b5i, b6i, go_sem, Nat.reduceEqDiff, Nat.reduceAdd, Nat.reduceLeDiff, Int.reduceEq, Int.reduceLT, Int.reduceLE, Int.reduceAdd, Int.reduceSub, Int.reduceMul, Int.reduceNeg, Int.reduceToNat, Nat.reduceMul]
      exact ⟨l.length - (i + 1), by omega, i + 1, by omega, rfl, by simp only [f0, go_sem, Nat.reduceEqDiff, Nat.reduceAdd, Nat.reduceLeDiff, Int.reduceEq, Int.reduceLT, Int.reduceLE, Int.reduceAdd, Int.reduceSub, Int.reduceMul, Int.reduceNeg, Int.reduceToNat, Nat.reduceMul], by simp only [f1, go_sem, Nat.reduceEqDiff, Nat.reduceAdd, Nat.reduceLeDiff, Int.reduceEq, Int.reduceLT, Int.reduceLE, Int.reduceAdd, Int.reduceSub, Int.reduceMul, Int.reduceNeg, Int.reduceToNat, Nat.reduceMul], by simp only [f5, go_sem, Nat.reduceEqDiff, Nat.reduceAdd, Nat.reduceLeDiff, Int.reduceEq, Int.reduceLT, Int.reduceLE, Int.reduceAdd, Int.reduceSub, Int.reduceMul, Int.reduceNeg, Int.reduceToNat, Nat.reduceMul], by simp only [f6, go_sem, Nat.reduceEqDiff, Nat.reduceAdd, Nat.reduceLeDiff, Int.reduceEq, Int.reduceLT, Int.reduceLE, Int.reduceAdd, Int.reduceSub, Int.reduceMul, Int.reduceNeg, Int.reduceToNat, Nat.reduceMul], by simp only [go_sem, Nat.reduceEqDiff, Nat.reduceAdd, Nat.reduceLeDiff, Int.reduceEq, Int.reduceLT, Int.reduceLE, Int.reduceAdd, Int.reduceSub, Int.reduceMul, Int.reduceNeg, Int.reduceToNat, Nat.reduceMul], by simp only [f34, go_sem, Nat.reduceEqDiff, Nat.reduceAdd, Nat.reduceLeDiff, Int.reduceEq, Int.reduceLT, Int.reduceLE, Int.reduceAdd, Int.reduceSub, Int.reduceMul, Int.reduceNeg, Int.reduceToNat, Nat.reduceMul], by simp only [f35, go_sem, Nat.reduceEqDiff, Nat.reduceAdd, Nat.reduceLeDiff, Int.reduceEq, Int.reduceLT, Int.reduceLE, Int.reduceAdd, Int.reduceSub, Int.reduceMul, Int.reduceNeg, Int.reduceToNat, Nat.reduceMul], by simp only [go_sem, Nat.reduceEqDiff, Nat.reduceAdd, Nat.reduceLeDiff, Int.reduceEq, Int.reduceLT, Int.reduceLE, Int.reduceAdd, Int.reduceSub, Int.reduceMul, Int.reduceNeg, Int.reduceToNat, Nat.reduceMul] <;> rfl, st3 _⟩
    simp only [b4, b5, f0, f1, f5, f6, f7, f34, f35, f36, g9, addA, Nat.zero_add, Nat.add_zero, ↓(a21 _ _ _).run, ↓(a194 _ _ _ _).run, relow', wi, tx_none, tx_size, b5i, b6i, go_sem, Nat.reduceEqDiff, Nat.reduceAdd, Nat.reduceLeDiff, Int.reduceEq, Int.reduceLT, Int.reduceLE, Int.reduceAdd, Int.reduceSub, Int.reduceMul, Int.reduceNeg, Int.reduceToNat, Nat.reduceMul]
    refine (hs.sl.keep st2.old).at0 hl0 fun q0' hq3 hq4 => ?_
    have hq5 := shc_at l 0 hl0
    rw [Nat.zero_mul] at hq5
    rw [hq5] at hq4
    obtain ⟨_, hq6⟩ := ldcB_two hq4
    by_cases b6 : l[i].2.length = len0 l
    · have hw := fin 0 (by rw [if_neg (by rintro (h | h | h) <;> contradiction)])
      simp only [b4, b5, b6, hq6, q0, f0, f1, f5, f6, f7, f34, f35, f36, g9, addA, Nat.zero_add, Nat.add_zero, ↓(a21 _ _ _).run, ↓(a194 _ _ _ _).run, relow', hw, wi, tx_none, tx_size, b5i, b6i, go_sem, Nat.reduceEqDiff, Nat.reduceAdd, Nat.reduceLeDiff, Int.reduceEq, Int.reduceLT, Int.reduceLE, Int.reduceAdd, Int.reduceSub, Int.reduceMul, Int.reduceNeg, Int.reduceToNat, Nat.reduceMul]
      exact ⟨l.length - (i + 1), by omega, i + 1, by omega, rfl, by simp only [f0, go_sem, Nat.reduceEqDiff, Nat.reduceAdd, Nat.reduceLeDiff, Int.reduceEq, Int.reduceLT, Int.reduceLE, Int.reduceAdd, Int.reduceSub, Int.reduceMul, Int.reduceNeg, Int.reduceToNat, Nat.reduceMul], by simp only [f1, go_sem, Nat.reduceEqDiff, Nat.reduceAdd, Nat.reduceLeDiff, Int.reduceEq, Int.reduceLT, Int.reduceLE, Int.reduceAdd, Int.reduceSub, Int.reduceMul, Int.reduceNeg, Int.reduceToNat, Nat.reduceMul], by simp only [f5, go_sem, Nat.reduceEqDiff, Nat.reduceAdd, Nat.reduceLeDiff, Int.reduceEq, Int.reduceLT, Int.reduceLE, Int.reduceAdd, Int.reduceSub, Int.reduceMul, Int.reduceNeg, Int.reduceToNat, Nat.reduceMul], by simp only [f6, go_sem, Nat.reduceEqDiff, Nat.reduceAdd, Nat.reduceLeDiff, Int.reduceEq, Int.reduceLT, Int.reduceLE, Int.reduceAdd, Int.reduceSub, Int.reduceMul, Int.reduceNeg, Int.reduceToNat, Nat.reduceMul], by simp only [go_sem, Nat.reduceEqDiff, Nat.reduceAdd, Nat.reduceLeDiff, Int.reduceEq, Int.reduceLT, Int.reduceLE, Int.reduceAdd, Int.reduceSub, Int.reduceMul, Int.reduceNeg, Int.reduceToNat, Nat.reduceMul], by simp only [f34, go_sem, Nat.reduceEqDiff, Nat.reduceAdd, Nat.reduceLeDiff, Int.reduceEq, Int.reduceLT, Int.reduceLE, Int.reduceAdd, Int.reduceSub, Int.reduceMul, Int.reduceNeg, Int.reduceToNat, Nat.reduceMul], by simp only [f35, go_sem, Nat.reduceEqDiff, Nat.reduceAdd, Nat.reduceLeDiff, Int.reduceEq, Int.reduceLT, Int.reduceLE, Int.reduceAdd, Int.reduceSub, Int.reduceMul, Int.reduceNeg, Int.reduceToNat, Nat.reduceMul], by simp only [go_sem, Nat.reduceEqDiff, Nat.reduceAdd, Nat.reduceLeDiff, Int.reduceEq, Int.reduceLT, Int.reduceLE, Int.reduceAdd, Int.reduceSub, Int.reduceMul, Int.reduceNeg, Int.reduceToNat, Nat.reduceMul] <;> rfl, st3 _⟩
    · have hw := fin 6 (by rw [if_pos (.inr (.inr b6))])
      simp only [b4, b5, b6, hq6, q0, f0, f1, f5, f6, f7, f34, f35, f36, g9, addA, Nat.zero_add, Nat.add_zero, ↓(a21 _ _ _).run, ↓(a194 _ _ _ _).run, relow', hw, wi, tx_none, tx_size, b5i, b6i, go_sem, Nat.reduceEqDiff, Nat.reduceAdd, Nat.reduceLeDiff, Int.reduceEq, Int.reduceLT, Int.reduceLE, Int.reduceAdd, Int.reduceSub, Int.reduceMul, Int.reduceNeg, Int.reduceToNat, Nat.reduceMul]
      exact ⟨l.length - (i + 1), by omega, i + 1, by omega, rfl, by simp only [f0, go_sem, Nat.reduceEqDiff, Nat.reduceAdd, Nat.reduceLeDiff, Int.reduceEq, Int.reduceLT, Int.reduceLE, Int.reduceAdd, Int.reduceSub, Int.reduceMul, Int.reduceNeg, Int.reduceToNat, Nat.reduceMul], by simp only [f1, go_sem, Nat.reduceEqDiff, Nat.reduceAdd, Nat.reduceLeDiff, Int.reduceEq, Int.reduceLT, Int.reduceLE, Int.reduceAdd, Int.reduceSub, Int.reduceMul, Int.reduceNeg, Int.reduceToNat, Nat.reduceMul], by simp only [f5, go_sem, Nat.reduceEqDiff, Nat.reduceAdd, Nat.reduceLeDiff, Int.reduceEq, Int.reduceLT, Int.reduceLE, Int.reduceAdd, Int.reduceSub, Int.reduceMul, Int.reduceNeg, Int.reduceToNat, Nat.reduceMul], by simp only [f6, go_sem, Nat.reduceEqDiff, Nat.reduceAdd, Nat.reduceLeDiff, Int.reduceEq, Int.reduceLT, Int.reduceLE, Int.reduceAdd, Int.reduceSub, Int.reduceMul, Int.reduceNeg, Int.reduceToNat, Nat.reduceMul], by simp only [go_sem, Nat.reduceEqDiff, Nat.reduceAdd, Nat.reduceLeDiff, Int.reduceEq, Int.reduceLT, Int.reduceLE, Int.reduceAdd, Int.reduceSub, Int.reduceMul, Int.reduceNeg, Int.reduceToNat, Nat.reduceMul], by simp only [f34, go_sem, Nat.reduceEqDiff, Nat.reduceAdd, Nat.reduceLeDiff, Int.reduceEq, Int.reduceLT, Int.reduceLE, Int.reduceAdd, Int.reduceSub, Int.reduceMul, Int.reduceNeg, Int.reduceToNat, Nat.reduceMul], by simp only [f35, go_sem, Nat.reduceEqDiff, Nat.reduceAdd, Nat.reduceLeDiff, Int.reduceEq, Int.reduceLT, Int.reduceLE, Int.reduceAdd, Int.reduceSub, Int.reduceMul, Int.reduceNeg, Int.reduceToNat, Nat.reduceMul], by simp only [go_sem, Nat.reduceEqDiff, Nat.reduceAdd, Nat.reduceLeDiff, Int.reduceEq, Int.reduceLT, Int.reduceLE, Int.reduceAdd, Int.reduceSub, Int.reduceMul, Int.reduceNeg, Int.reduceToNat, Nat.reduceMul] <;> rfl, st3 _⟩
  · have hie : i = l.length := by omega
    subst hie
    have hnl : ¬ H'.low < H.next := by have := st.low; omega
    by_cases hW : wv l need l.length = 0
    case neg =>
      obtain ⟨hE, hTx⟩ := wv_sec hW
      rw [hE] at f6
      rw [hTx] at f5
      by_cases h3 : wv l need l.length = 3
      case neg =>
        simp only [f0, f1, f5, f6, f7, f34, f35, f36, hlt, hW, h3, ↓(a17 _).run, tx_none, hnl, go_sem, Nat.reduceEqDiff, Nat.reduceAdd, Nat.reduceLeDiff, Int.reduceEq, Int.reduceLT, Int.reduceLE, Int.reduceAdd, Int.reduceSub, Int.reduceMul, Int.reduceNeg, Int.reduceToNat, Nat.reduceMul]
        exact hQ
      by_cases h0 : (l.length : Int) = 0
      · simp only [f0, f1, f5, f6, f7, f34, f35, f36, hlt, hW, h3, h0, ↓(a17 _).run, tx_none, hnl, go_sem, Nat.reduceEqDiff, Nat.reduceAdd, Nat.reduceLeDiff, Int.reduceEq, Int.reduceLT, Int.reduceLE, Int.reduceAdd, Int.reduceSub, Int.reduceMul, Int.reduceNeg, Int.reduceToNat, Nat.reduceMul]
        exact hQ
      by_cases h20 : (20 : Int) < l.length
      · simp only [f0, f1, f5, f6, f7, f34, f35, f36, hlt, hW, h3, h0, h20, ↓(a17 _).run, tx_none, hnl, go_sem, Nat.reduceEqDiff, Nat.reduceAdd, Nat.reduceLeDiff, Int.reduceEq, Int.reduceLT, Int.reduceLE, Int.reduceAdd, Int.reduceSub, Int.reduceMul, Int.reduceNeg, Int.reduceToNat, Nat.reduceMul]
        exact hQ
      have hl0 : 0 < l.length := by omega
      obtain ⟨p, rfl, hs⟩ := hn.resolve_left (fun e => by rw [e] at hl0; simp at hl0)
      simp only [f0, f1, f5, f6, f7, f34, f35, f36, hlt, hW, h3, h0, h20, ↓(a17 _).run, tx_none, hnl, go_sem, Nat.reduceEqDiff, Nat.reduceAdd, Nat.reduceLeDiff, Int.reduceEq, Int.reduceLT, Int.reduceLE, Int.reduceAdd, Int.reduceSub, Int.reduceMul, Int.reduceNeg, Int.reduceToNat, Nat.reduceMul]
      refine (hs.sl.keep st.old).at0 hl0 fun q0' hq3 hq4 => ?_
      have hq5 := shc_at l 0 hl0
      rw [Nat.zero_mul] at hq5
      rw [hq5] at hq4
      obtain ⟨_, hq6⟩ := ldcB_two hq4
      by_cases h40 : (40 : Int) < l[0].2.length
      · simp only [f0, f1, f5, f6, f7, f34, f35, f36, hq6, addA, tx_size, hlt, hW, h3, h0, h20, h40, ↓(a17 _).run, tx_none, hnl, go_sem, Nat.reduceEqDiff, Nat.reduceAdd, Nat.reduceLeDiff, Int.reduceEq, Int.reduceLT, Int.reduceLE, Int.reduceAdd, Int.reduceSub, Int.reduceMul, Int.reduceNeg, Int.reduceToNat, Nat.reduceMul]
        exact hQ
      · simp only [f0, f1, f5, f6, f7, f34, f35, f36, hq6, addA, tx_size, hlt, hW, h3, h0, h20, h40, ↓(a17 _).run, tx_none, hnl, go_sem, Nat.reduceEqDiff, Nat.reduceAdd, Nat.reduceLeDiff, Int.reduceEq, Int.reduceLT, Int.reduceLE, Int.reduceAdd, Int.reduceSub, Int.reduceMul, Int.reduceNeg, Int.reduceToNat, Nat.reduceMul]
        exact hQ
    case pos =>
      obtain ⟨⟨n1, n2, n3, n4⟩, hz, hE⟩ := wv_zero hW
      have hG := good_of_eF hz
      have hl0 : 0 < l.length := by omega
      have h0 : ¬ (l.length : Int) = 0 := by omega
      obtain ⟨p, rfl, hs⟩ := hn.resolve_left (fun e => by rw [e] at hl0; simp at hl0)
      obtain ⟨N, rfl⟩ : ∃ N : Nat, need = (N : Int) := ⟨need.toNat, by omega⟩
      rw [Int.toNat_natCast] at hE
      by_cases h20 : (20 : Int) < l.length
      · simp only [f0, f1, f5, f6, f7, f34, f35, f36, hlt, hW, h0, h20, ↓(a17 _).run, tx_none, hnl, go_sem, Nat.reduceEqDiff, Nat.reduceAdd, Nat.reduceLeDiff, Int.reduceEq, Int.reduceLT, Int.reduceLE, Int.reduceAdd, Int.reduceSub, Int.reduceMul, Int.reduceNeg, Int.reduceToNat, Nat.reduceMul]
        exact hQ
      simp only [f0, f1, f5, f6, f7, f34, f35, f36, hlt, hW, h0, h20, ↓(a17 _).run, tx_none, hnl, go_sem, Nat.reduceEqDiff, Nat.reduceAdd, Nat.reduceLeDiff, Int.reduceEq, Int.reduceLT, Int.reduceLE, Int.reduceAdd, Int.reduceSub, Int.reduceMul, Int.reduceNeg, Int.reduceToNat, Nat.reduceMul]
      refine (hs.sl.keep st.old).at0 hl0 fun q0' hq3 hq4 => ?_
      have hq5 := shc_at l 0 hl0
      rw [Nat.zero_mul] at hq5
      rw [hq5] at hq4
      obtain ⟨_, hq6⟩ := ldcB_two hq4
      by_cases h40 : (40 : Int) < l[0].2.length
      · simp only [f0, f1, f5, f6, f7, f34, f35, f36, hq6, addA, tx_size, hlt, hW, h0, h20, h40, ↓(a17 _).run, tx_none, hnl, go_sem, Nat.reduceEqDiff, Nat.reduceAdd, Nat.reduceLeDiff, Int.reduceEq, Int.reduceLT, Int.reduceLE, Int.reduceAdd, Int.reduceSub, Int.reduceMul, Int.reduceNeg, Int.reduceToNat, Nat.reduceMul]
        exact hQ
      have a35 := v35 L.h74 L.h101 L.h72 L.h35 l hG n4 N (by omega) (by omega) (hs.keep st.old) (by rw [st.old 0 hd0]; exact hd) (by have := st.nx; omega)
      have a23 := fun t w X => v23 L.h23 (secT l N) t (secE l N) w X
      have hfin : (if (if (!fits l N) = true then (18 : Int) else 0) = 0 then decide (secT l N = (if fits l N = true then vL (l.take N) (len0 l) 0 else []) ∧ secE l N = 0) else decide (secT l N = [] ∧ secE l N = (if (!fits l N) = true then 18 else 0))) = true := by
        cases hf : fits l N with
        | true =>
          rw [hf] at hE
          simp only [if_true] at hE
          simp [secT, hE]
        | false =>
          rw [hf] at hE
          have hE' : secE l N = 18 := by rw [hE]; rfl
          simp [secT, hE']
      simp only [f0, f1, f5, f6, f7, f34, f35, f36, hq6, addA, tx_size, hlt, hW, h0, h20, h40, ↓(a17 _).run, ↓a35.run, ↓(a21 _ _ _).run, ↓(a23 _ _ _).run, hfin, hnl, go_sem, Nat.reduceEqDiff, Nat.reduceAdd, Nat.reduceLeDiff, Int.reduceEq, Int.reduceLT, Int.reduceLE, Int.reduceAdd, Int.reduceSub, Int.reduceMul, Int.reduceNeg, Int.reduceToNat, Nat.reduceMul]
      exact hQ
end Go.Proofs.Ytildhljhbbhmmaa.AM
/- Arguments that are slices of shares. -/
namespace Go.Proofs.Ytildhljhbbhmmaa.AM
open Go Go.RowKit Go.ChangeShapes Go.WideShapes Go.ChangeAt
set_option linter.all false
set_option maxRecDepth 10000

section
variable {H : Type} {enc : TypeId × Value → H} {P : Program} {w : World} {base : Nat} {spare : Nat → Bool} {held : Bool}
theorem trod_share {e q s : TypeId} {f0 f1 : Field} {fuel : Nat} {cs : List Value} {x : DataW H × List MemPlace} (he : P.underlying e = some (.struct #[f0, f1])) (o0 : f0.offset = 0) (o1 : f1.offset = 1) (t0 : f0.type = q) (t1 : f1.type = s) (hq : P.underlying q = some (.int .i64)) (hs : P.underlying s = some .string) (hce : P.cellsOf e = 2) (hcq : P.cellsOf q = 1) (hcs : P.cellsOf s = 1) (h : DataW.trod enc P w base spare held fuel e cs = some x) :
    ∃ (a : Int) (b : List UInt8), cs = [.int .i64 a, .string (tx b)] ∧ IntKind.i64.has a := by
  cases fuel with
  | zero => simp [DataW.trod] at h
  | succ fuel =>
    unfold DataW.trod at h
    simp only [he] at h
    split at h
    · rename_i hlen
      rw [hce] at hlen
      match cs, hlen with
      | [u, v], _ =>
        simp only [List.mapM_cons, List.mapM_nil, o0, o1, t0, t1, hcq, hcs, List.drop_zero, List.take_succ_cons, List.take_zero, List.drop_succ_cons] at h
        cases h1 : DataW.trod enc P w base spare held fuel q [u] with
        | none => rw [h1] at h; simp at h
        | some y =>
          cases h2 : DataW.trod enc P w base spare held fuel s [v] with
          | none => rw [h1, h2] at h; simp at h
          | some z =>
            obtain ⟨a, ha, _, wa⟩ := DataW.trod_int hq h1
            obtain ⟨b, hb, _⟩ := DataW.trod_string hs h2
            simp only [List.cons.injEq, and_true] at ha hb
            subst ha
            subst hb
            refine ⟨a, b.data.toList, by rw [tx_of], ?_⟩
            simpa [Lit.wf, IntKind.has] using wa
    · simp at h
theorem read_shares {t e : TypeId} {v : Value} {x : DataW H × List MemPlace} {k : Nat} {w : World} (ht : P.underlying t = some (.slice e)) (hce : P.cellsOf e = 2)
    (hpair : ∀ (fuel : Nat) (cs : List Value) (x : DataW H × List MemPlace), DataW.trod enc P w 0 (fun _ => true) true fuel e cs = some x → ∃ (a : Int) (b : List UInt8), cs = [.int .i64 a, .string (tx b)] ∧ IntKind.i64.has a)
    (hd : DataW.trod enc P w 0 (fun _ => true) true k t [v] = some x) :
    ∃ l : List Sh, ArgS w v l.length 2 (shc l) := by
  rcases _root_.Go.Deep.open_slice ht hd with ⟨h1, _⟩ | ⟨a, len, cap, m, n, D, Pl, h1, _, hlc, hcap, hm, _, hx⟩
  · simp only [List.cons.injEq, and_true] at h1
    exact ⟨[], 0, by simp, by simp, .inl ⟨h1, rfl, rfl⟩⟩
  · simp only [List.cons.injEq, and_true] at h1
    simp only [if_true] at hm
    subst hm
    rw [hce] at hx
    have key : ∀ k, k ≤ m → ∃ l : List Sh, l.length = k ∧ ∀ i, i < k → w.cells? 0 (a.add (i * 2)) 2 = some (((shc l).drop (i * 2)).take 2) := by
      intro k
      induction k with
      | zero => intro _; exact ⟨[], rfl, fun i hi => by omega⟩
      | succ k ih =>
        intro hk
        obtain ⟨l, h2, h4⟩ := ih (by omega)
        obtain ⟨cs', h5, h6⟩ := hx k (by omega)
        obtain ⟨x, y, rfl, rx⟩ := hpair _ _ _ h6
        refine ⟨l ++ [(x, y)], by simp [h2], fun i hi => ?_⟩
        rw [shc_at _ _ (by simp [h2]; omega)]
        by_cases hik : i < k
        · have := h4 i hik
          rw [shc_at _ _ (by omega)] at this
          rw [this]
          simp [List.getElem_append_left (show i < l.length by omega)]
        · have : i = k := by omega
          subst this
          rw [h5]
          simp [List.getElem_append_right (show l.length ≤ i by omega), h2]
    obtain ⟨l, h2, h4⟩ := key len hlc
    refine ⟨l, m, by omega, hcap, .inr ⟨a, by rw [h1, h2], ?_⟩⟩
    by_cases hm0 : m = 0
    · have := List.eq_nil_of_length_eq_zero (show l.length = 0 by omega)
      subst this
      exact .inl ⟨hm0, rfl, rfl⟩
    · refine .inr ⟨by omega, argRow_of (base := 0) (by omega) (by omega) (shc_len l) (by omega) (fun v hv => ?_) fun i hi => ?_⟩
      · have := List.all_eq_true.1 (p1_one (shc_p1 l)) v hv
        exact this
      · obtain ⟨cs', h5, _⟩ := hx i hi
        refine ⟨cs', h5, fun hin => ?_⟩
        have := h4 i (by omega)
        rw [h5] at this
        exact Option.some.inj this
end
/-- The start with a slice of shares. -/
theorem Start.shares {w : World} {H : AH} {c : CMap} (st : Start w H c) {v : Value} {l : List Sh} (h : ArgS w v l.length 2 (shc l)) :
    ∃ (c' : CMap) (H' : AH) (ad : Option Addr) (cp : Nat), Start w H' c' ∧ VR H'.next c' (.slice ad l.length cp) v ∧ (l = [] ∨ ∃ p, ad = some p ∧ Ss H' (.slice ad l.length cp) p cp l) ∧ More H c H' c' ∧ l.length ≤ 9223372036854775807 := by
  obtain ⟨cap, hc, hm, ⟨rfl, h0, h1⟩ | ⟨a, rfl, ⟨h00, h0, h1⟩ | ⟨hpos, har⟩⟩⟩ := h
  · rw [h0]
    exact ⟨_, _, none, 0, st, .plain rfl, .inl (List.eq_nil_of_length_eq_zero h0), .refl _ _, by omega⟩
  · have hc0 : c 0 = none := by
      have := st.sim.live 0
      rw [st.dead] at this
      cases h0 : c 0 with
      | none => rfl
      | some x => rw [h0] at this; simp at this
    rw [h0, h00]
    exact ⟨_, _, some ⟨0, 0, none⟩, 0, st, .sliceDead st.pos hc0, .inl (List.eq_nil_of_length_eq_zero h0), .refl _ _, by omega⟩
  · obtain ⟨c', h1, h2, h3⟩ := st.arg har (shc_p1 l)
    refine ⟨_, _, _, _, h1, h2, .inr ⟨_, rfl, rfl, hc, ⟨_, AH.get_push_eq H _, rfl⟩, ?_⟩, h3, ?_⟩
    · rw [ldc_eq]
      simp only [gt_push, if_true]
      rw [ldcB_some, if_pos (by simp [har.len]), ← har.len]
      simp
    · have : maxLen ≤ 9223372036854775807 := by decide
      omega
end Go.Proofs.Ytildhljhbbhmmaa.AM
