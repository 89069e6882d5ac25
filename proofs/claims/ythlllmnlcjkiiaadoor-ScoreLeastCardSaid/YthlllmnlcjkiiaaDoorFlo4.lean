/- Floats of 64 bits, in plain Lean: many halvings; subnormal numbers made normal; the bits of an exponent. Own work of this seat; no condition. -/
import Derived.Test.YthlllmnlcjkiiaaDoorFlo3
import Derived.WalkKit
import Derived.Laws.BitsLemmas
namespace Go.Proofs.YthlllmnlcjkiiaaDoor.Flo
open Ieee
set_option linter.unusedVariables false
set_option linter.unusedSimpArgs false

/-- A finite word of 64 bits. -/
def FinW (w : Nat) : Prop := Fin w ∧ w < 18446744073709551616
def hW (w : Nat) : Nat := (double.div w two).getD 0
theorem hW_ok {w : Nat} (h : FinW w) : double.div w two = some (hW w) ∧ FinW (hW w) ∧ sgn (hW w) = sgn w ∧ (rung w = 0 → rung (hW w) = 0) ∧ (9007199254740992 ≤ rung w → rung (hW w) = rung w - 4503599627370496) := by
  obtain ⟨r, h1, h2, h3, h4⟩ := half_word h.1
  have e : hW w = double.word (sgn w) r := by unfold hW; rw [h1]; rfl
  obtain ⟨g1, g2, g3⟩ := sgn_word (sgn w) (show r < 9223372036854775808 by omega)
  rw [e]
  exact ⟨h1, ⟨by unfold Fin; rw [g2]; exact h2, g3⟩, g1, by rw [g2]; exact h3, by rw [g2]; exact h4⟩
def halfN : Nat → Nat → Nat
  | 0, w => w
  | k + 1, w => halfN k (hW w)
theorem halfN_ok : ∀ (k : Nat) {w : Nat}, FinW w → FinW (halfN k w)
  | 0, w, h => h
  | k + 1, w, h => halfN_ok k (hW_ok h).2.1
theorem halfN_add : ∀ (j k w : Nat), halfN (j + k) w = halfN k (halfN j w)
  | 0, k, w => by rw [Nat.zero_add]; rfl
  | j + 1, k, w => by rw [Nat.succ_add]; exact halfN_add j k (hW w)
theorem halfN_zero : ∀ (k : Nat) {w : Nat}, FinW w → rung w = 0 → rung (halfN k w) = 0
  | 0, w, h, e => e
  | k + 1, w, h, e => halfN_zero k (hW_ok h).2.1 ((hW_ok h).2.2.2.1 e)
/-- Of a normal number halving counts down the exponent. -/
theorem halfN_shift0 (c : Nat) (hc : c = 4503599627370496) (k : Nat) : ∀ {w : Nat}, FinW w → (k + 1) * c ≤ rung w → halfN k w = double.word (sgn w) (rung w - k * c) := by
  induction k with
  | zero =>
    intro w h _
    rw [Nat.zero_mul, Nat.sub_zero, word_of h.2]
    rfl
  | succ k ih =>
    intro w h hk
    obtain ⟨_, a, b, _, d⟩ := hW_ok h
    have e1 : (k + 1 + 1) * c = k * c + c + c := by rw [Nat.succ_mul, Nat.succ_mul]
    have e2 : (k + 1) * c = k * c + c := by rw [Nat.succ_mul]
    rw [e1] at hk
    have hd := d (by omega)
    rw [← hc] at hd
    show halfN k (hW w) = _
    rw [ih a (by rw [e2, hd]; omega), b, hd, e2, Nat.sub_sub, Nat.add_comm c]
theorem halfN_shift (k : Nat) {w : Nat} (h : FinW w) (hk : (k + 1) * 4503599627370496 ≤ rung w) : halfN k w = double.word (sgn w) (rung w - k * 4503599627370496) := halfN_shift0 _ rfl k h hk
/-- Two numbers that differ in a zero's sign at most. -/
theorem rung_key {w : Nat} : key w = 0 ↔ rung w = 0 := by
  unfold key
  split <;> omega
/-- A subnormal number times 2 ^ 52. -/
theorem mul_p52 {w : Nat} (h : FinW w) (h0 : rung w ≠ 0) (h1 : rung w < 4503599627370496) : double.mul w 4841369599423283200 = some (double.word (sgn w) ((rung w).log2 * 4503599627370496 + mant (rung w))) := by
  have hc : double.read 4841369599423283200 = .number false 4503599627370496 0 := by decide
  have hl : (rung w).log2 ≤ 52 := log2_small (by omega)
  have hb := mant_bd h0 hl
  unfold Format.mul
  rw [read_fin' h.1, hc, product_number, Option.map_some, write_number, Bool.xor_false]
  have e1 : ma (rung w) = rung w := by unfold ma; rw [if_pos h1]
  have e2 : ex (rung w) = 0 := by unfold ex; rw [if_pos h1]
  rw [e1, e2]
  have hm : rung w * 4503599627370496 = mant (rung w) * 2 ^ (rung w).log2 := by
    unfold mant
    rw [Nat.mul_assoc, ← Nat.pow_add, show 52 - (rung w).log2 + (rung w).log2 = 52 by omega]
  rw [nearest_exact (sgn w) (K := mant (rung w)) (e := (rung w).log2) (.inl hb) (by omega) (.inl ⟨(rung w).log2, hm, by omega⟩)]
/-- And back by 2 ^ -53. -/
theorem mul_m53 (s : Bool) {f : Nat} (h0 : f ≠ 0) (h1 : f < 4503599627370496) : double.mul 4368491638549381120 (double.word s ((f.log2 + 1) * 4503599627370496 + mant f)) = some (double.word s f) := by
  have hc : double.read 4368491638549381120 = .number false 4503599627370496 (-105) := by decide
  have hl : f.log2 ≤ 51 := by
    have := (Nat.log2_lt h0 (k := 52)).2 (by simpa using h1)
    omega
  have hb := mant_bd h0 (by omega)
  have hr : (f.log2 + 1) * 4503599627370496 + mant f < 9218868437227405312 := by omega
  obtain ⟨g1, g2, g3⟩ := sgn_word s (show (f.log2 + 1) * 4503599627370496 + mant f < 9223372036854775808 by omega)
  have hw := read_fin' (w := double.word s ((f.log2 + 1) * 4503599627370496 + mant f)) (by unfold Fin; rw [g2]; exact hr)
  rw [g1, g2] at hw
  unfold Format.mul
  rw [hc, hw, product_number, Option.map_some, write_number, Bool.false_xor]
  have e1 : ma ((f.log2 + 1) * 4503599627370496 + mant f) = mant f := by unfold ma; rw [if_neg (by omega)]; omega
  have e2 : ex ((f.log2 + 1) * 4503599627370496 + mant f) = f.log2 + 1 := by unfold ex; rw [if_neg (by omega)]; omega
  rw [e1, e2]
  have hm : 4503599627370496 * mant f = f * 2 ^ (104 - f.log2) := by
    unfold mant
    rw [Nat.mul_comm, Nat.mul_assoc, show (4503599627370496 : Nat) = 2 ^ 52 from rfl, ← Nat.pow_add, show 52 - f.log2 + 52 = 104 - f.log2 by omega]
  have := nearest_exact s (mag := 4503599627370496 * mant f) (K := f) (e := 0) (place := -105 + (-1074 + ((f.log2 + 1 : Nat) : Int))) (.inr ⟨rfl, by omega, h1⟩) (by omega) (.inl ⟨104 - f.log2, hm, by clear hm; omega⟩)
  rw [this, Nat.zero_mul, Nat.zero_add]

theorem bits_mask (n : Int) (k : Nat) (hk : k < 63) : Go.bits .and .i64 n ((2 ^ k - 1 : Nat) : Int) = n % ((2 ^ k : Nat) : Int) := by
  have hp : 0 < 2 ^ k := Nat.two_pow_pos k
  have hlt : 2 ^ k ≤ 2 ^ 62 := Nat.pow_le_pow_right (by decide) (by omega)
  have h7 : (BitVec.ofInt 64 ((2 ^ k - 1 : Nat) : Int)).toNat = 2 ^ k - 1 := by
    rw [BitVec.toNat_ofInt]
    have : (((2 ^ k - 1 : Nat) : Int) % ((2 ^ 64 : Nat) : Int)).toNat = (2 ^ k - 1) % 2 ^ 64 := by
      rw [← Int.natCast_emod, Int.toNat_natCast]
    rw [this, Nat.mod_eq_of_lt (by have : (2 : Nat) ^ 62 ≤ 2 ^ 64 := by decide
                                   omega)]
  have key : (BitVec.ofInt 64 n &&& BitVec.ofInt 64 ((2 ^ k - 1 : Nat) : Int)).toNat = (n % ((2 ^ 64 : Nat) : Int)).toNat % 2 ^ k := by
    rw [BitVec.toNat_and, BitVec.toNat_ofInt, h7, Nat.and_two_pow_sub_one_eq_mod]
  show IntKind.i64.wrap ((BitVec.ofInt 64 n &&& BitVec.ofInt 64 ((2 ^ k - 1 : Nat) : Int)).toNat : Nat) = _
  rw [key, IntKind.wrap_i64]
  have hdvd : ((2 ^ k : Nat) : Int) ∣ ((2 ^ 64 : Nat) : Int) := by
    refine Int.natCast_dvd_natCast.2 (Nat.pow_dvd_pow 2 (by omega))
  have e1 : (n % ((2 ^ 64 : Nat) : Int)) % ((2 ^ k : Nat) : Int) = n % ((2 ^ k : Nat) : Int) := Int.emod_emod_of_dvd n hdvd
  have h0 : 0 ≤ n % ((2 ^ 64 : Nat) : Int) := Int.emod_nonneg _ (by decide)
  have e2 : (((n % ((2 ^ 64 : Nat) : Int)).toNat % 2 ^ k : Nat) : Int) = n % ((2 ^ k : Nat) : Int) := by
    rw [Int.natCast_emod, Int.toNat_of_nonneg h0, e1]
  rw [e2]
  have b1 : 0 ≤ n % ((2 ^ k : Nat) : Int) := Int.emod_nonneg _ (by omega)
  have b2 : n % ((2 ^ k : Nat) : Int) < ((2 ^ k : Nat) : Int) := Int.emod_lt_of_pos _ (by omega)
  have b3 : ((2 ^ k : Nat) : Int) ≤ 4611686018427387904 := by
    have : ((2 ^ k : Nat) : Int) ≤ ((2 ^ 62 : Nat) : Int) := by exact_mod_cast hlt
    simpa using this
  generalize n % ((2 ^ k : Nat) : Int) = q at *
  omega
theorem u64_id {n : Nat} (h : n < 18446744073709551616) : IntKind.u64.wrap (n : Int) = n := by
  unfold IntKind.wrap
  simp only [IntKind.bits, IntKind.signed, Bool.false_and, Bool.false_eq_true, if_false]
  omega
theorem bv_toNat {n : Nat} (h : n < 18446744073709551616) : (BitVec.ofInt 64 (n : Int)).toNat = n := by rw [BitVec.toNat_ofInt]; omega
theorem bits_and_u {a b : Nat} (ha : a < 18446744073709551616) (hb : b < 18446744073709551616) : Go.bits .and .u64 (a : Int) (b : Int) = ((a &&& b : Nat) : Int) := by
  show IntKind.u64.wrap ((BitVec.ofInt 64 (a : Int) &&& BitVec.ofInt 64 (b : Int)).toNat : Nat) = _
  rw [BitVec.toNat_and, bv_toNat ha, bv_toNat hb, u64_id (Nat.lt_of_le_of_lt Nat.and_le_left ha)]
theorem bits_or_u {a b : Nat} (ha : a < 18446744073709551616) (hb : b < 18446744073709551616) : Go.bits .or .u64 (a : Int) (b : Int) = ((a ||| b : Nat) : Int) := by
  show IntKind.u64.wrap ((BitVec.ofInt 64 (a : Int) ||| BitVec.ofInt 64 (b : Int)).toNat : Nat) = _
  rw [BitVec.toNat_or, bv_toNat ha, bv_toNat hb, u64_id (by
    have := Nat.or_lt_two_pow (n := 64) (by simpa using ha) (by simpa using hb)
    simpa using this)]
/-- A word without its exponent. -/
theorem bits_noexp (s : Bool) {r : Nat} (h : r < 9223372036854775808) : Go.bits .andNot .u64 ((double.word s r : Nat) : Int) 9218868437227405312 = ((double.word s (r % 4503599627370496) : Nat) : Int) := by
  obtain ⟨_, _, h3⟩ := sgn_word s h
  have h2 : (~~~(BitVec.ofInt 64 9218868437227405312)).toNat = 9227875636482146303 := by decide
  show IntKind.u64.wrap ((BitVec.ofInt 64 ((double.word s r : Nat) : Int) &&& ~~~(BitVec.ofInt 64 9218868437227405312)).toNat : Nat) = _
  rw [BitVec.toNat_and, bv_toNat h3, h2, u64_id (Nat.lt_of_le_of_lt Nat.and_le_left h3)]
  congr 1
  have hr : r % 4503599627370496 < 9223372036854775808 := by omega
  have key : ∀ a f : Nat, f < 2 ^ 52 → (2 ^ 52 * a + f) &&& (2 ^ 52 * 2048 + (2 ^ 52 - 1)) = 2 ^ 52 * (a &&& 2048) + f := by
    intro a f hf
    refine Nat.eq_of_testBit_eq fun i => ?_
    rw [Nat.testBit_and, Nat.testBit_two_pow_mul_add a hf, Nat.testBit_two_pow_mul_add 2048 (by decide : 2 ^ 52 - 1 < 2 ^ 52), Nat.testBit_two_pow_mul_add (a &&& 2048) hf]
    by_cases hi : i < 52
    · simp only [if_pos hi, Nat.testBit_two_pow_sub_one, decide_eq_true hi, Bool.and_true]
    · simp only [if_neg hi, Nat.testBit_and]
  have hq : r / 4503599627370496 < 2048 := by omega
  have a1 : ∀ q : Nat, q < 2048 → q &&& 2048 = 0 := fun q hq => by
    refine Nat.eq_of_testBit_eq fun i => ?_
    rw [Nat.testBit_and, show (2048 : Nat) = 2 ^ 11 from rfl, Nat.testBit_two_pow, Nat.zero_testBit]
    by_cases h : 11 = i
    · subst h; rw [Nat.testBit_lt_two_pow (by simpa using hq)]; rfl
    · rw [decide_eq_false h, Bool.and_false]
  have a2 : ∀ q : Nat, q < 2048 → (2048 + q) &&& 2048 = 2048 := fun q hq => by
    refine Nat.eq_of_testBit_eq fun i => ?_
    have h1 := Nat.testBit_two_pow_mul_add (i := 11) 1 (b := q) (by simpa using hq) i
    rw [Nat.mul_one] at h1
    rw [Nat.testBit_and, show (2048 : Nat) = 2 ^ 11 from rfl, Nat.testBit_two_pow, h1]
    by_cases h : 11 = i
    · subst h; rfl
    · rw [decide_eq_false h, Bool.and_false]
  rw [word_eq, word_eq]
  have hdm := Nat.div_add_mod r 4503599627370496
  have hf : r % 4503599627370496 < 2 ^ 52 := by
    have := Nat.mod_lt r (show 0 < 4503599627370496 by decide)
    simpa using this
  cases s with
  | false =>
    simp only [Bool.false_eq_true, if_false]
    have := key (r / 4503599627370496) (r % 4503599627370496) hf
    rw [a1 _ hq] at this
    simpa [hdm] using this
  | true =>
    simp only [if_true]
    have := key (2048 + r / 4503599627370496) (r % 4503599627370496) hf
    rw [a2 _ hq, Nat.mul_add] at this
    have e : 9223372036854775808 + r = 2 ^ 52 * 2048 + 2 ^ 52 * (r / 4503599627370496) + r % 4503599627370496 := by
      rw [show (2 : Nat) ^ 52 = 4503599627370496 from rfl]; omega
    rw [e, show (9227875636482146303 : Nat) = 2 ^ 52 * 2048 + (2 ^ 52 - 1) from rfl, this]
/-- An exponent laid into a word that has none. -/
theorem bits_exp (s : Bool) {f e : Nat} (hf : f < 4503599627370496) (he : e < 2048) : Go.bits .or .u64 ((double.word s f : Nat) : Int) ((e * 4503599627370496 : Nat) : Int) = ((double.word s (e * 4503599627370496 + f) : Nat) : Int) := by
  obtain ⟨_, _, h3⟩ := sgn_word s (show f < 9223372036854775808 by omega)
  rw [bits_or_u h3 (by omega)]
  congr 1
  rw [word_eq, word_eq]
  have k1 : ∀ a b f : Nat, f < 2 ^ 52 → (2 ^ 52 * a + f) ||| (2 ^ 52 * b) = 2 ^ 52 * (a ||| b) + f := by
    intro a b f hf
    refine Nat.eq_of_testBit_eq fun i => ?_
    have hb := Nat.testBit_two_pow_mul_add b (i := 52) (show 0 < 2 ^ 52 by decide) i
    rw [Nat.add_zero] at hb
    rw [Nat.testBit_or, Nat.testBit_two_pow_mul_add a hf, hb, Nat.testBit_two_pow_mul_add (a ||| b) hf]
    by_cases hi : i < 52
    · simp only [if_pos hi, Nat.zero_testBit, Bool.or_false]
    · simp only [if_neg hi, Nat.testBit_or]
  have hf' : f < 2 ^ 52 := by simpa using hf
  cases s with
  | false =>
    simp only [Bool.false_eq_true, if_false]
    have := k1 0 e f hf'
    rw [Nat.mul_zero, Nat.zero_add, Nat.zero_or] at this
    rw [Nat.mul_comm e]
    exact this
  | true =>
    simp only [if_true]
    have := k1 2048 e f hf'
    have h2 : 2048 ||| e = 2048 + e := by
      have := Nat.two_pow_add_eq_or_of_lt (i := 11) (by simpa using he) 1
      rw [Nat.mul_one] at this
      exact this.symm
    rw [h2, Nat.mul_add] at this
    rw [Nat.mul_comm e]
    have e3 : 2 ^ 52 * 2048 + f = 9223372036854775808 + f := rfl
    rw [e3] at this
    rw [show (4503599627370496 : Nat) = 2 ^ 52 from rfl, this, show 9223372036854775808 + (2 ^ 52 * e + f) = 2 ^ 52 * 2048 + 2 ^ 52 * e + f by omega]
end Go.Proofs.YthlllmnlcjkiiaaDoor.Flo
