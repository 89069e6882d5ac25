/- Floats of 64 bits, in plain Lean: whole numbers, and quotients of whole numbers. Own work of this seat; no condition. -/
import Derived.Test.YthlllmnlcjkiiaaDoorFlo1
namespace Go.Proofs.YthlllmnlcjkiiaaDoor.Flo
open Ieee
set_option linter.unusedVariables false
set_option linter.unusedSimpArgs false

/-- p / q to the nearest whole number, between two the even one. -/
def rne (p q : Nat) : Nat := p / q + (decide (q < 2 * (p % q)) || (decide (q = 2 * (p % q)) && decide (p / q % 2 = 1))).toNat
theorem rne_scale {c p q : Nat} (hc : 0 < c) : rne (c * p) (c * q) = rne p q := by
  unfold rne
  rw [Nat.mul_div_mul_left _ _ hc, Nat.mul_mod_mul_left, Nat.mul_left_comm 2 c]
  have e1 : (c * q < c * (2 * (p % q))) ↔ (q < 2 * (p % q)) := Nat.mul_lt_mul_left hc
  have e2 : (c * q = c * (2 * (p % q))) ↔ (q = 2 * (p % q)) := Nat.mul_right_inj (Nat.pos_iff_ne_zero.1 hc)
  simp only [e1, e2]
theorem rne_bound {p q : Nat} (hq : 0 < q) : q * (2 * rne p q) ≤ 2 * p + q ∧ 2 * p ≤ q * (2 * rne p q) + q := by
  have hp := Nat.div_add_mod p q
  have hr := Nat.mod_lt p hq
  unfold rne
  generalize p / q = x at *
  generalize p % q = r at *
  subst hp
  have e0 : q * (2 * x) = 2 * (q * x) := Nat.mul_left_comm ..
  have e1 : q * (2 * (x + 1)) = 2 * (q * x) + 2 * q := by rw [Nat.mul_left_comm, Nat.mul_add, Nat.mul_add, Nat.mul_one]
  cases hb : (decide (q < 2 * r) || (decide (q = 2 * r) && decide (x % 2 = 1))) with
  | false =>
    simp only [Bool.or_eq_false_iff, decide_eq_false_iff_not] at hb
    simp only [Bool.toNat_false, Nat.add_zero, e0]
    omega
  | true =>
    simp only [Bool.or_eq_true, Bool.and_eq_true, decide_eq_true_eq] at hb
    simp only [Bool.toNat_true, e1]
    omega
theorem rne_ge {p q k : Nat} (hq : 0 < q) (h : q * k ≤ p) : k ≤ rne p q := by
  unfold rne
  have : k ≤ p / q := (Nat.le_div_iff_mul_le hq).2 (by rw [Nat.mul_comm]; exact h)
  omega
theorem rne_le {p q k : Nat} (hq : 0 < q) (h : p < q * k) : rne p q ≤ k := by
  unfold rne
  have h1 : p / q < k := (Nat.div_lt_iff_lt_mul hq).2 (by rw [Nat.mul_comm]; exact h)
  have h2 : ∀ b : Bool, b.toNat ≤ 1 := by decide
  have := h2 (decide (q < 2 * (p % q)) || (decide (q = 2 * (p % q)) && decide (p / q % 2 = 1)))
  omega
theorem rne_mul {k q : Nat} (hq : 0 < q) : rne (k * q) q = k := by
  unfold rne
  rw [Nat.mul_div_cancel _ hq, Nat.mul_mod_left]
  have h1 : ¬ q < 2 * 0 := by omega
  have h2 : ¬ q = 2 * 0 := by omega
  rw [decide_eq_false h1, decide_eq_false h2]
  rfl
theorem cut_even {neg : Bool} {n drop : Nat} (h : drop ≤ n.log2 + 2) : Toward.even.cut neg n drop = rne n (2 ^ drop) := by
  unfold Toward.cut rne
  simp only [Nat.min_eq_left h, Nat.shiftLeft_eq, Nat.one_mul]
  rfl
/-- A quotient with its sticky digit rounds as the quotient itself. -/
theorem rne_sticky (D W d : Nat) (hW : 0 < W) (hd : 2 ≤ d) : rne (2 * (D / W) + (D % W != 0).toNat) (2 ^ d) = rne (2 * D) (W * 2 ^ d) := by
  obtain ⟨g, hg, hg0⟩ : ∃ g, 2 ^ d = 4 * g ∧ 0 < g := ⟨2 ^ (d - 2), by rw [show (4 : Nat) = 2 ^ 2 from rfl, ← Nat.pow_add]; congr 1; omega, Nat.two_pow_pos _⟩
  rw [hg]
  have hD := Nat.div_add_mod D W
  have hr := Nat.mod_lt D hW
  generalize D / W = q at *
  generalize D % W = r at *
  have hq := Nat.div_add_mod q (2 * g)
  have ht := Nat.mod_lt q (show 0 < 2 * g by omega)
  generalize q / (2 * g) = a at *
  generalize q % (2 * g) = t at *
  obtain ⟨s, hs⟩ : ∃ s, (r != 0).toNat = s := ⟨_, rfl⟩
  have hs1 : (r = 0 ∧ s = 0) ∨ (0 < r ∧ s = 1) := by
    by_cases h : r = 0
    · left; subst h; exact ⟨rfl, by rw [← hs]; rfl⟩
    · right; exact ⟨by omega, by rw [← hs]; simp [h]⟩
  rw [hs]
  have p1 : 2 * q + s = 4 * g * a + (2 * t + s) := by
    rw [← hq, show 4 * g * a = 2 * (2 * g * a) by rw [show 4 * g = 2 * (2 * g) by omega, Nat.mul_assoc 2]]; omega
  have p2 : 2 * D = W * (4 * g) * a + (2 * (W * t) + 2 * r) := by
    have y1 : W * (2 * g * a + t) = 2 * (W * (g * a)) + W * t := by rw [Nat.mul_add, Nat.mul_assoc 2, Nat.mul_left_comm]
    have y2 : W * (4 * g) * a = 4 * (W * (g * a)) := by rw [Nat.mul_assoc, Nat.mul_assoc 4, Nat.mul_left_comm W 4]
    rw [← hD, ← hq, y1, y2]; omega
  have l1 : 2 * t + s < 4 * g := by omega
  have hWt : W * t + W ≤ W * (2 * g) := by
    have : W * (t + 1) ≤ W * (2 * g) := Nat.mul_le_mul_left W ht
    rwa [Nat.mul_add, Nat.mul_one] at this
  have l2 : 2 * (W * t) + 2 * r < W * (4 * g) := by
    have : W * (4 * g) = 2 * (W * (2 * g)) := by rw [show 4 * g = 2 * (2 * g) by omega, Nat.mul_left_comm]
    omega
  have d1 : (2 * q + s) / (4 * g) = a := by rw [p1, Nat.mul_add_div (by omega), Nat.div_eq_of_lt l1, Nat.add_zero]
  have m1 : (2 * q + s) % (4 * g) = 2 * t + s := by rw [p1, Nat.mul_add_mod, Nat.mod_eq_of_lt l1]
  have d2 : (2 * D) / (W * (4 * g)) = a := by rw [p2, Nat.mul_add_div (by omega), Nat.div_eq_of_lt l2, Nat.add_zero]
  have m2 : (2 * D) % (W * (4 * g)) = 2 * (W * t) + 2 * r := by rw [p2, Nat.mul_add_mod, Nat.mod_eq_of_lt l2]
  unfold rne
  rw [d1, m1, d2, m2]
  have hW4 : W * (4 * g) = 4 * (W * g) := Nat.mul_left_comm ..
  have hgt : g < t → W * g + W ≤ W * t := fun h => by
    have : W * (g + 1) ≤ W * t := Nat.mul_le_mul_left W h
    rwa [Nat.mul_add, Nat.mul_one] at this
  have htg : t < g → W * t + W ≤ W * g := fun h => by
    have : W * (t + 1) ≤ W * g := Nat.mul_le_mul_left W h
    rwa [Nat.mul_add, Nat.mul_one] at this
  have c1 : (4 * g < 2 * (2 * t + s)) ↔ (W * (4 * g) < 2 * (2 * (W * t) + 2 * r)) := by
    rw [hW4]
    rcases Nat.lt_trichotomy g t with h | h | h
    · have := hgt h; omega
    · subst h; omega
    · have := htg h; omega
  have c2 : (4 * g = 2 * (2 * t + s)) ↔ (W * (4 * g) = 2 * (2 * (W * t) + 2 * r)) := by
    rw [hW4]
    rcases Nat.lt_trichotomy g t with h | h | h
    · have := hgt h; omega
    · subst h; omega
    · have := htg h; omega
  simp only [c1, c2]

theorem log2_of {n e : Nat} (h1 : 2 ^ e ≤ n) (h2 : n < 2 ^ (e + 1)) : n.log2 = e := by
  have h0 : n ≠ 0 := by have := Nat.two_pow_pos e; omega
  have a := (Nat.le_log2 h0).2 h1
  have b := (Nat.log2_lt h0).2 h2
  omega
theorem log2_lo {n : Nat} (h : n ≠ 0) : 2 ^ n.log2 ≤ n := (Nat.le_log2 h).1 (Nat.le_refl _)
theorem log2_hi {n : Nat} (h : n ≠ 0) : n < 2 ^ (n.log2 + 1) := (Nat.log2_lt h).1 (Nat.lt_succ_self _)

theorem read_norm {e k : Nat} (h1 : 4503599627370496 ≤ k) (h2 : k < 9007199254740992) (he : e ≤ 2045) : double.read (e * 4503599627370496 + k) = .number false k (-1074 + (e : Int)) := by
  have hw : e * 4503599627370496 + k < 9223372036854775808 := by omega
  unfold Format.read
  simp only [d_sign, d_bin, d_inf, d_least]
  rw [Nat.div_eq_of_lt hw, Nat.mod_eq_of_lt hw, if_neg (by omega), if_pos (by omega)]
  have e1 : (e * 4503599627370496 + k) / 4503599627370496 = e + 1 := by omega
  have e2 : (e * 4503599627370496 + k) % 4503599627370496 = k - 4503599627370496 := by omega
  rw [e1, e2]
  have e3 : 4503599627370496 + (k - 4503599627370496) = k := by omega
  rw [e3]
  rfl
theorem key_norm {r : Nat} (h : r < 9223372036854775808) : key r = (r : Int) ∧ rung r = r := by
  unfold key sgn rung
  rw [Nat.div_eq_of_lt h, Nat.mod_eq_of_lt h]
  simp
theorem val_norm {e k : Nat} (h1 : 4503599627370496 ≤ k) (h2 : k ≤ 9007199254740992) : val (e * 4503599627370496 + k) = k * 2 ^ e := by
  unfold val
  rw [if_neg (by omega)]
  by_cases h : k < 9007199254740992
  · have e1 : (e * 4503599627370496 + k) / 4503599627370496 = e + 1 := by omega
    have e2 : (e * 4503599627370496 + k) % 4503599627370496 = k - 4503599627370496 := by omega
    rw [e1, e2, show 4503599627370496 + (k - 4503599627370496) = k by omega]
    rfl
  · obtain rfl : k = 9007199254740992 := by omega
    have e1 : (e * 4503599627370496 + 9007199254740992) / 4503599627370496 = e + 1 + 1 := by omega
    have e2 : (e * 4503599627370496 + 9007199254740992) % 4503599627370496 = 0 := by omega
    rw [e1, e2, Nat.add_sub_cancel, Nat.pow_succ, Nat.mul_comm (2 ^ e) 2, ← Nat.mul_assoc]
theorem nearest_at {mag d e : Nat} {place : Int} (hm : mag.log2 = 52 + d) (hp : place + (d : Int) = -1074 + (e : Int)) : double.nearest false mag place = min (e * 4503599627370496 + rne mag (2 ^ d)) 9218868437227405312 := by
  have h0 : mag ≠ 0 := fun h => by rw [h] at hm; simp at hm; omega
  unfold Format.nearest
  rw [if_neg h0]
  simp only [hm, d_frac, d_least, d_bin, d_inf]
  have e1 : max (place + ((52 + d : Nat) : Int) - ((52 : Nat) : Int)) (-1074) = -1074 + (e : Int) := by omega
  rw [e1]
  have e2 : (place - (-1074 + (e : Int))).toNat = 0 := by omega
  have e3 : (-1074 + (e : Int) - place).toNat = d := by omega
  have e4 : (-1074 + (e : Int) - -1074).toNat = e := by omega
  rw [e2, e3, e4, Nat.shiftLeft_zero, cut_even (by omega)]
  unfold Format.word
  rw [if_neg Bool.false_ne_true]
/-- The size of a whole number as a float has it. -/
def mant (n : Nat) : Nat := n * 2 ^ (52 - n.log2)
theorem mant_bd {n : Nat} (h0 : n ≠ 0) (h : n.log2 ≤ 52) : 4503599627370496 ≤ mant n ∧ mant n < 9007199254740992 := by
  have a := log2_lo h0
  have b := log2_hi h0
  have hp : 2 ^ n.log2 * 2 ^ (52 - n.log2) = 4503599627370496 := by rw [← Nat.pow_add, show n.log2 + (52 - n.log2) = 52 by omega]
  unfold mant
  have hc := Nat.two_pow_pos (52 - n.log2)
  refine ⟨by rw [← hp]; exact Nat.mul_le_mul_right _ a, ?_⟩
  have : n * 2 ^ (52 - n.log2) < 2 ^ (n.log2 + 1) * 2 ^ (52 - n.log2) := Nat.mul_lt_mul_of_pos_right b hc
  rw [Nat.pow_succ, Nat.mul_comm _ 2, Nat.mul_assoc, hp] at this
  exact this
theorem nearest_int {n : Nat} (h0 : n ≠ 0) (h : n.log2 ≤ 52) : double.nearest false n 0 = (n.log2 + 1022) * 4503599627370496 + mant n := by
  have hb := mant_bd h0 h
  unfold Format.nearest
  rw [if_neg h0]
  simp only [d_frac, d_least, d_bin, d_inf]
  have e1 : max ((0 : Int) + (n.log2 : Int) - ((52 : Nat) : Int)) (-1074) = (n.log2 : Int) - 52 := by omega
  rw [e1]
  have e2 : ((0 : Int) - ((n.log2 : Int) - 52)).toNat = 52 - n.log2 := by omega
  have e3 : ((n.log2 : Int) - 52 - 0).toNat = 0 := by omega
  have e4 : ((n.log2 : Int) - 52 - -1074).toNat = n.log2 + 1022 := by omega
  rw [e2, e3, e4, Nat.shiftLeft_eq, cut_even (by omega)]
  have e5 : rne (n * 2 ^ (52 - n.log2)) (2 ^ 0) = mant n := by have := rne_mul (k := mant n) (q := 1) (by omega); rwa [Nat.mul_one] at this
  rw [e5]
  unfold Format.word
  rw [if_neg Bool.false_ne_true]
  omega
/-- The word of a whole number. -/
def wordN (n : Nat) : Nat := (n.log2 + 1022) * 4503599627370496 + mant n
theorem ofInt_pos {n : Nat} (h0 : n ≠ 0) (h : n.log2 ≤ 52) : floatOfInt .f64 (n : Int) = wordN n := by
  show double.nearest (decide ((n : Int) < 0)) ((n : Int)).natAbs 0 = _
  rw [show decide ((n : Int) < 0) = false from decide_eq_false (by omega), Int.natAbs_natCast]
  exact nearest_int h0 h
theorem read_wordN {n : Nat} (h0 : n ≠ 0) (h : n.log2 ≤ 52) : double.read (wordN n) = .number false (mant n) ((n.log2 : Int) - 52) := by
  have hb := mant_bd h0 h
  unfold wordN
  rw [read_norm hb.1 hb.2 (by omega), show -1074 + ((n.log2 + 1022 : Nat) : Int) = (n.log2 : Int) - 52 by omega]
theorem mant_log {n : Nat} (h0 : n ≠ 0) (h : n.log2 ≤ 52) : (mant n).log2 = 52 := by
  have hb := mant_bd h0 h
  exact log2_of (by simpa using hb.1) (by simpa using hb.2)
theorem write_number (s : Bool) (m : Nat) (e : Int) : double.write (.number s m e) = double.nearest s m e := rfl
theorem product_number (s t : Bool) (m n : Nat) (i j : Int) : Datum.product (.number s m i) (.number t n j) = some (.number (s ^^ t) (m * n) (i + j)) := rfl
/-- One. -/
theorem mul_one_word {n : Nat} (h0 : n ≠ 0) (h : n.log2 ≤ 52) : double.mul (wordN n) 4607182418800017408 = some (wordN n) := by
  have hb := mant_bd h0 h
  have h1 : double.read 4607182418800017408 = .number false 4503599627370496 (-52) := by decide
  unfold Format.mul
  rw [read_wordN h0 h, h1, product_number, Option.map_some, write_number]
  have hl : (mant n * 4503599627370496).log2 = 52 + 52 := by
    refine log2_of ?_ ?_
    · rw [show (2 : Nat) ^ (52 + 52) = 20282409603651670423947251286016 from rfl]; omega
    · rw [show (2 : Nat) ^ (52 + 52 + 1) = 40564819207303340847894502572032 from rfl]; omega
  have e : rne (mant n * 4503599627370496) (2 ^ 52) = mant n := by
    rw [show (2 : Nat) ^ 52 = 4503599627370496 from rfl]
    exact rne_mul (by omega)
  rw [show (false ^^ false) = false from rfl, nearest_at (e := n.log2 + 1022) hl (by omega), e]
  congr 1
  unfold wordN
  omega
/-- What is known of the word of a quotient of two whole numbers. -/
structure Quo (B W r : Nat) : Prop where
  ex : ∃ d e, (2 ≤ d ∧ d ≤ 3) ∧ e + W.log2 = B.log2 + 1019 + d ∧ r = e * 4503599627370496 + rne (2 ^ (107 + W.log2) * B) (W * 2 ^ (52 + d + B.log2)) ∧ W * 2 ^ (d + B.log2) ≤ 2 ^ (3 + W.log2) * B ∧ 2 ^ (2 + W.log2) * B < W * 2 ^ (d + B.log2) ∧
    4503599627370496 ≤ rne (2 ^ (107 + W.log2) * B) (W * 2 ^ (52 + d + B.log2)) ∧ rne (2 ^ (107 + W.log2) * B) (W * 2 ^ (52 + d + B.log2)) ≤ 9007199254740992
theorem min_word {e K : Nat} (h1 : e ≤ 2000) (h2 : K ≤ 9007199254740992) : min (e * 4503599627370496 + K) 9218868437227405312 = e * 4503599627370496 + K := by omega
theorem expo_add {b w d : Nat} (h1 : b ≤ 52) (h2 : w ≤ 52) (h3 : d ≤ 3) : b + 1019 + d - w + w = b + 1019 + d := by omega
theorem expo_le {b w d : Nat} (h1 : b ≤ 52) (h3 : d ≤ 3) : b + 1019 + d - w ≤ 2000 := by omega
theorem div_word {B W : Nat} (hB0 : B ≠ 0) (hB : B.log2 ≤ 52) (hW0 : W ≠ 0) (hW : W.log2 ≤ 52) : ∃ r, double.div (wordN B) (wordN W) = some r ∧ Quo B W r := by
  have hb := mant_bd hB0 hB
  have hw := mant_bd hW0 hW
  have lb := mant_log hB0 hB
  have lw := mant_log hW0 hW
  unfold Format.div
  rw [read_wordN hB0 hB, read_wordN hW0 hW, d_frac]
  have hq : Datum.quotient (52 + 2) (.number false (mant B) ((B.log2 : Int) - 52)) (.number false (mant W) ((W.log2 : Int) - 52)) = some (.number false (2 * (mant B * 2 ^ 54 / mant W) + (mant B * 2 ^ 54 % mant W != 0).toNat) ((B.log2 : Int) - W.log2 - 55)) := by
    unfold Datum.quotient
    simp only [if_neg (show ¬ mant W = 0 by omega), lb, lw, Nat.shiftLeft_eq]
    rw [show 52 + 2 + 52 - 52 = 54 from rfl, show (B.log2 : Int) - 52 - ((W.log2 : Int) - 52) - ((54 : Nat) : Int) - 1 = (B.log2 : Int) - W.log2 - 55 by omega]
    rfl
  rw [hq]
  have hWp : 0 < mant W := by omega
  obtain ⟨D, hD⟩ : ∃ D, mant B * 2 ^ 54 = D := ⟨_, rfl⟩
  rw [hD]
  obtain ⟨s, hs⟩ : ∃ s, (D % mant W != 0).toNat = s := ⟨_, rfl⟩
  have hs1 : s ≤ 1 := by rw [← hs]; cases (D % mant W != 0) <;> decide
  have q1 : 2 ^ 53 ≤ D / mant W := (Nat.le_div_iff_mul_le hWp).2 (by omega)
  have q2 : D / mant W < 2 ^ 55 := (Nat.div_lt_iff_lt_mul hWp).2 (by omega)
  obtain ⟨d, hd2, hd3, hlo, hhi⟩ : ∃ d, 2 ≤ d ∧ d ≤ 3 ∧ 2 ^ (51 + d) ≤ D / mant W ∧ D / mant W < 2 ^ (52 + d) := by
    by_cases h : D / mant W < 2 ^ 54
    · exact ⟨2, by omega, by omega, by simpa using q1, by simpa using h⟩
    · exact ⟨3, by omega, by omega, by simpa using h, by simpa using q2⟩
  have e51 : 2 ^ (52 + d) = 2 * 2 ^ (51 + d) := by rw [show 52 + d = (51 + d) + 1 by omega, Nat.pow_succ, Nat.mul_comm]
  have e52 : 2 ^ (52 + d + 1) = 2 * 2 ^ (52 + d) := by rw [Nat.pow_succ, Nat.mul_comm]
  have hm : (2 * (D / mant W) + (D % mant W != 0).toNat).log2 = 52 + d := by
    rw [hs]
    exact log2_of (by omega) (by omega)
  rw [Option.map_some, write_number]
  refine ⟨_, rfl, ?_⟩
  rw [nearest_at (e := B.log2 + 1019 + d - W.log2) hm (by omega)]
  have hK1 := rne_ge (p := 2 * (D / mant W) + (D % mant W != 0).toNat) (q := 2 ^ d) (k := 4503599627370496) (Nat.two_pow_pos _) (by rw [hs, show (4503599627370496 : Nat) = 2 ^ 52 from rfl, ← Nat.pow_add, show d + 52 = 52 + d by omega]; omega)
  have hK2 := rne_le (p := 2 * (D / mant W) + (D % mant W != 0).toNat) (q := 2 ^ d) (k := 9007199254740992) (Nat.two_pow_pos _) (by rw [hs, show (9007199254740992 : Nat) = 2 ^ 53 from rfl, ← Nat.pow_add, show d + 53 = 52 + d + 1 by omega]; omega)
  rw [rne_sticky D (mant W) d hWp hd2] at hK1 hK2 ⊢
  have pb : 2 ^ (52 - B.log2) * 2 ^ B.log2 = 2 ^ 52 := by rw [← Nat.pow_add, show 52 - B.log2 + B.log2 = 52 by omega]
  have pw : 2 ^ (52 - W.log2) * 2 ^ W.log2 = 2 ^ 52 := by rw [← Nat.pow_add, show 52 - W.log2 + W.log2 = 52 by omega]
  have hmB : mant B * 2 ^ B.log2 = B * 2 ^ 52 := by unfold mant; rw [Nat.mul_assoc, pb]
  have hmW : mant W * 2 ^ W.log2 = W * 2 ^ 52 := by unfold mant; rw [Nat.mul_assoc, pw]
  have hc : 0 < 2 ^ (B.log2 + W.log2) := Nat.two_pow_pos _
  have k1 : 2 ^ (B.log2 + W.log2) * (2 * D) = 2 ^ (107 + W.log2) * B := by
    rw [← hD, Nat.pow_add, Nat.pow_add]
    calc 2 ^ B.log2 * 2 ^ W.log2 * (2 * (mant B * 2 ^ 54)) = 2 * 2 ^ 54 * 2 ^ W.log2 * (mant B * 2 ^ B.log2) := by ac_rfl
      _ = 2 ^ 107 * 2 ^ W.log2 * B := by rw [hmB]; rw [show (2 : Nat) ^ 107 = 2 * 2 ^ 54 * 2 ^ 52 by rw [← Nat.pow_succ', ← Nat.pow_add]]; ac_rfl
  have k2 : 2 ^ (B.log2 + W.log2) * (mant W * 2 ^ d) = W * 2 ^ (52 + d + B.log2) := by
    rw [Nat.pow_add, Nat.pow_add, Nat.pow_add]
    calc 2 ^ B.log2 * 2 ^ W.log2 * (mant W * 2 ^ d) = mant W * 2 ^ W.log2 * (2 ^ d * 2 ^ B.log2) := by ac_rfl
      _ = W * (2 ^ 52 * 2 ^ d * 2 ^ B.log2) := by rw [hmW]; ac_rfl
  rw [← rne_scale hc, k1, k2] at hK1 hK2 ⊢
  refine ⟨d, B.log2 + 1019 + d - W.log2, ⟨hd2, hd3⟩, expo_add hB hW hd3, min_word (expo_le hB hd3) hK2, ?_, ?_, hK1, hK2⟩
  · have h1 : 2 ^ (51 + d) * mant W ≤ D := (Nat.le_div_iff_mul_le hWp).1 hlo
    have h2 : 2 ^ (B.log2 + W.log2) * (2 ^ (51 + d) * mant W) ≤ 2 ^ (B.log2 + W.log2) * D := Nat.mul_le_mul_left _ h1
    have x1 : 2 * (2 ^ (B.log2 + W.log2) * (2 ^ (51 + d) * mant W)) = 2 ^ 104 * (W * 2 ^ (d + B.log2)) := by
      have : 2 ^ (51 + d) = 2 ^ 51 * 2 ^ d := Nat.pow_add ..
      rw [this, show 2 * (2 ^ (B.log2 + W.log2) * (2 ^ 51 * 2 ^ d * mant W)) = 2 ^ 52 * (2 ^ (B.log2 + W.log2) * (mant W * 2 ^ d)) by rw [show (2 : Nat) ^ 52 = 2 * 2 ^ 51 by rw [← Nat.pow_succ']]; ac_rfl, k2, Nat.pow_add 2 (52 + d), Nat.pow_add 2 52, Nat.pow_add 2 d, show (2 : Nat) ^ 104 = 2 ^ 52 * 2 ^ 52 by rw [← Nat.pow_add]]
      ac_rfl
    have x2 : 2 * (2 ^ (B.log2 + W.log2) * D) = 2 ^ 104 * (2 ^ (3 + W.log2) * B) := by
      rw [show 2 * (2 ^ (B.log2 + W.log2) * D) = 2 ^ (B.log2 + W.log2) * (2 * D) by ac_rfl, k1, Nat.pow_add 2 107, Nat.pow_add 2 3, show (2 : Nat) ^ 107 = 2 ^ 104 * 2 ^ 3 by rw [← Nat.pow_add]]
      ac_rfl
    have h3 : 2 ^ 104 * (W * 2 ^ (d + B.log2)) ≤ 2 ^ 104 * (2 ^ (3 + W.log2) * B) := by rw [← x1, ← x2]; exact Nat.mul_le_mul_left 2 h2
    exact Nat.le_of_mul_le_mul_left h3 (Nat.two_pow_pos _)
  · have h1 : D < 2 ^ (52 + d) * mant W := (Nat.div_lt_iff_lt_mul hWp).1 hhi
    have h2 : 2 ^ (B.log2 + W.log2) * D < 2 ^ (B.log2 + W.log2) * (2 ^ (52 + d) * mant W) := Nat.mul_lt_mul_of_pos_left h1 hc
    have x1 : 2 ^ (B.log2 + W.log2) * (2 ^ (52 + d) * mant W) = 2 ^ 104 * (W * 2 ^ (d + B.log2)) := by
      have : 2 ^ (52 + d) = 2 ^ 52 * 2 ^ d := Nat.pow_add ..
      rw [this, show 2 ^ (B.log2 + W.log2) * (2 ^ 52 * 2 ^ d * mant W) = 2 ^ 52 * (2 ^ (B.log2 + W.log2) * (mant W * 2 ^ d)) by ac_rfl, k2, Nat.pow_add 2 (52 + d), Nat.pow_add 2 52, Nat.pow_add 2 d, show (2 : Nat) ^ 104 = 2 ^ 52 * 2 ^ 52 by rw [← Nat.pow_add]]
      ac_rfl
    have x2 : 2 ^ (B.log2 + W.log2) * D = 2 ^ 104 * (2 ^ (2 + W.log2) * B) := by
      have y : 2 * (2 ^ (B.log2 + W.log2) * D) = 2 * (2 ^ 104 * (2 ^ (2 + W.log2) * B)) := by
        rw [show 2 * (2 ^ (B.log2 + W.log2) * D) = 2 ^ (B.log2 + W.log2) * (2 * D) by ac_rfl, k1, Nat.pow_add 2 107, Nat.pow_add 2 2, show (2 : Nat) ^ 107 = 2 * 2 ^ 104 * 2 ^ 2 by rw [← Nat.pow_succ', ← Nat.pow_add]]
        ac_rfl
      exact Nat.eq_of_mul_eq_mul_left (by decide) y
    have h3 : 2 ^ 104 * (2 ^ (2 + W.log2) * B) < 2 ^ 104 * (W * 2 ^ (d + B.log2)) := by rw [← x1, ← x2]; exact h2
    exact Nat.lt_of_mul_lt_mul_left h3
theorem key_ineq {V1 V2 W1 W2 B1 B2 M : Nat} (hM : 0 < M) (h1 : 9007199254740992 * (V1 * W1) ≤ 9007199254740992 * (M * B1) + V1 * W1) (h2 : 9007199254740992 * (M * B2) ≤ 9007199254740992 * (V2 * W2) + V2 * W2)
    (hlt : B1 * W2 < B2 * W1) (hs : B1 * W2 ≤ 4294967296) : V1 < V2 := by
  refine Classical.byContradiction fun hn => ?_
  have hle : V2 ≤ V1 := by omega
  have g1 := Nat.mul_le_mul_right W2 h1
  have g2 := Nat.mul_le_mul_right W1 h2
  rw [Nat.add_mul, Nat.mul_assoc 9007199254740992, Nat.mul_assoc 9007199254740992] at g1 g2
  have z : V2 * W2 * W1 ≤ V1 * W1 * W2 := by
    rw [show V2 * W2 * W1 = V2 * (W1 * W2) by ac_rfl, show V1 * W1 * W2 = V1 * (W1 * W2) by ac_rfl]
    exact Nat.mul_le_mul_right _ hle
  have p : M * B1 * W2 + M ≤ M * B2 * W1 := by
    rw [Nat.mul_assoc, Nat.mul_assoc]
    have := Nat.mul_le_mul_left M hlt
    rwa [Nat.succ_eq_add_one, Nat.mul_add, Nat.mul_one] at this
  have q : M * B1 * W2 ≤ M * 4294967296 := by rw [Nat.mul_assoc]; exact Nat.mul_le_mul_left M hs
  generalize V1 * W1 * W2 = Z at *
  generalize V2 * W2 * W1 = Y at *
  generalize M * B1 * W2 = Q at *
  generalize M * B2 * W1 = P at *
  clear hlt hs h1 h2 hn hle
  omega
theorem ac1 (W p K c : Nat) : W * p * K * c = W * K * (p * c) := by ac_rfl
theorem ac2 (W K p c : Nat) : W * K * (p * c) = K * p * W * c := by ac_rfl
theorem ac3 (p B c : Nat) : p * B * c = B * (p * c) := by ac_rfl
theorem ac4 (p B c : Nat) : B * (p * c) = p * B * c := by ac_rfl
theorem ac5 (a x b w y : Nat) : a * x * b * (w * y) * 2 = a * 2 * x * y * (b * w) := by ac_rfl
theorem ac6 (a x y b w : Nat) : a * 2 * x * y * (b * w) = a * 2 * y * b * (w * x) := by ac_rfl
theorem ac7 (w p v x : Nat) : w * p * (v * x) = w * v * (p * x) := by ac_rfl
theorem ac8 (w p v x : Nat) : w * p * (v * x) = v * w * (p * x) := by ac_rfl
theorem ac9 (w x p b : Nat) : w * x * (p * b) = p * x * (b * w) := by ac_rfl
theorem ac10 (w x v p : Nat) : w * x * (v * p) = v * w * (p * x) := by ac_rfl
theorem ac11 (w x v p : Nat) : w * x * (v * p) = w * v * (p * x) := by ac_rfl
/-- The scale on which quotients are weighed. -/
def scale (s : Nat) : Nat := 2 ^ (107 + s)
theorem near_gen0 {B W d e lb lw K s : Nat} (he : e + lw = 52 + d + lb + s) (hK1 : 4503599627370496 ≤ K) (hb : W * 2 ^ (52 + d + lb) * (2 * K) ≤ 2 * (2 ^ (107 + lw) * B) + W * 2 ^ (52 + d + lb) ∧ 2 * (2 ^ (107 + lw) * B) ≤ W * 2 ^ (52 + d + lb) * (2 * K) + W * 2 ^ (52 + d + lb)) :
    (9007199254740992 * (K * 2 ^ e * W) ≤ 9007199254740992 * (2 ^ (107 + s) * B) + K * 2 ^ e * W) ∧ 9007199254740992 * (2 ^ (107 + s) * B) ≤ 9007199254740992 * (K * 2 ^ e * W) + K * 2 ^ e * W := by
  have hx0 : 0 < 2 ^ lw := Nat.two_pow_pos _
  have e1 : W * 2 ^ (52 + d + lb) * K * 2 ^ s = K * 2 ^ e * W * 2 ^ lw := by
    have : 2 ^ (52 + d + lb) * 2 ^ s = 2 ^ e * 2 ^ lw := by rw [← Nat.pow_add, ← Nat.pow_add, he]
    rw [ac1, this, ac2]
  have e2 : 2 ^ (107 + lw) * B * 2 ^ s = 2 ^ (107 + s) * B * 2 ^ lw := by
    have : 2 ^ (107 + lw) * 2 ^ s = 2 ^ (107 + s) * 2 ^ lw := by rw [← Nat.pow_add, ← Nat.pow_add, Nat.add_right_comm]
    rw [ac3, this, ac4]
  have e0 : W * 2 ^ (52 + d + lb) * (2 * K) = 2 * (W * 2 ^ (52 + d + lb) * K) := Nat.mul_left_comm ..
  have hq : W * 2 ^ (52 + d + lb) * 4503599627370496 ≤ W * 2 ^ (52 + d + lb) * K := Nat.mul_le_mul_left _ hK1
  rw [e0] at hb
  generalize W * 2 ^ (52 + d + lb) * K = Z at *
  generalize W * 2 ^ (52 + d + lb) = q at *
  generalize 2 ^ (107 + lw) * B = Y at *
  generalize 2 ^ (107 + s) * B = X at *
  generalize K * 2 ^ e * W = V at *
  generalize 2 ^ lw = x at *
  generalize 2 ^ s = c at *
  have f1 : 9007199254740992 * Z ≤ 9007199254740992 * Y + Z := by clear e1 e2 he; omega
  have f2 : 9007199254740992 * Y ≤ 9007199254740992 * Z + Z := by clear e1 e2 he; omega
  have g1 := Nat.mul_le_mul_right c f1
  have g2 := Nat.mul_le_mul_right c f2
  rw [Nat.add_mul, Nat.mul_assoc 9007199254740992, Nat.mul_assoc 9007199254740992, e1, e2, ← Nat.mul_assoc 9007199254740992, ← Nat.mul_assoc 9007199254740992, ← Nat.add_mul] at g1 g2
  exact ⟨Nat.le_of_mul_le_mul_right g1 hx0, Nat.le_of_mul_le_mul_right g2 hx0⟩
theorem near_gen {B W d e lb lw K s : Nat} (he : e + lw = 52 + d + lb + s) (hK1 : 4503599627370496 ≤ K) (hb : W * 2 ^ (52 + d + lb) * (2 * K) ≤ 2 * (2 ^ (107 + lw) * B) + W * 2 ^ (52 + d + lb) ∧ 2 * (2 ^ (107 + lw) * B) ≤ W * 2 ^ (52 + d + lb) * (2 * K) + W * 2 ^ (52 + d + lb)) :
    (9007199254740992 * (K * 2 ^ e * W) ≤ 9007199254740992 * (scale s * B) + K * 2 ^ e * W) ∧ 9007199254740992 * (scale s * B) ≤ 9007199254740992 * (K * 2 ^ e * W) + K * 2 ^ e * W := near_gen0 he hK1 hb
theorem scale_pos (s : Nat) : 0 < scale s := Nat.two_pow_pos _
theorem expo_s {e lw lb d : Nat} (he : e + lw = lb + 1019 + d) : e + lw = 52 + d + lb + 967 := by omega
theorem word_bd {e K lw lb d : Nat} (he : e + lw = lb + 1019 + d) (hB : lb ≤ 52) (hd : d ≤ 3) (h1 : 4503599627370496 ≤ K) (h2 : K ≤ 9007199254740992) : e * 4503599627370496 + K < 9218868437227405312 ∧ 0 < e * 4503599627370496 + K := by omega
/-- How near the word's worth is. -/
theorem Quo.near {B W r : Nat} (h : Quo B W r) (hW0 : 0 < W) (hB : B.log2 ≤ 52) (hW : W.log2 ≤ 52) : ∃ M, 0 < M ∧ M = scale 967 ∧ r < 9218868437227405312 ∧ (9007199254740992 * (val r * W) ≤ 9007199254740992 * (M * B) + val r * W) ∧ 9007199254740992 * (M * B) ≤ 9007199254740992 * (val r * W) + val r * W ∧ 0 < r := by
  obtain ⟨d, e, hd, he, hr, _, _, hK1, hK2⟩ := h
  have hb := rne_bound (p := 2 ^ (107 + W.log2) * B) (q := W * 2 ^ (52 + d + B.log2)) (Nat.mul_pos hW0 (Nat.two_pow_pos _))
  have hv : val r = rne (2 ^ (107 + W.log2) * B) (W * 2 ^ (52 + d + B.log2)) * 2 ^ e := by rw [hr]; exact val_norm hK1 hK2
  have hn := near_gen (expo_s he) hK1 hb
  have hw := word_bd he hB hd.2 hK1 hK2
  rw [← hv] at hn
  rw [← hr] at hw
  exact ⟨scale 967, scale_pos _, rfl, hw.1, hn.1, hn.2, hw.2⟩
theorem log2_small {n : Nat} (h : n < 9007199254740992) : n.log2 ≤ 52 := by
  by_cases h0 : n = 0
  · subst h0; simp
  · have := (Nat.log2_lt h0 (k := 53)).2 (by simpa using h)
    omega
/-- A lesser quotient is a lesser word. -/
theorem quo_lt {B1 W1 B2 W2 r1 r2 : Nat} (h1 : Quo B1 W1 r1) (h2 : Quo B2 W2 r2) (w1 : 0 < W1) (w2 : 0 < W2) (b1 : B1 < 9007199254740992) (b2 : B2 < 9007199254740992) (c1 : W1 < 9007199254740992) (c2 : W2 < 9007199254740992) (hlt : B1 * W2 < B2 * W1) (hs : B1 * W2 ≤ 4294967296) : r1 < r2 := by
  obtain ⟨M, m1, m2, m3, m4, m5, _⟩ := h1.near w1 (log2_small b1) (log2_small c1)
  obtain ⟨M', n1, n2, n3, n4, n5, _⟩ := h2.near w2 (log2_small b2) (log2_small c2)
  obtain rfl : M = M' := m2.trans n2.symm
  clear m2 n2
  exact val_lt_iff.1 (key_ineq m1 m4 n5 hlt hs)
/-- Equal quotients are one word. -/
theorem quo_eq {B1 W1 B2 W2 r1 r2 : Nat} (h1 : Quo B1 W1 r1) (h2 : Quo B2 W2 r2) (w1 : 0 < W1) (w2 : 0 < W2) (heq : B1 * W2 = B2 * W1) : r1 = r2 := by
  obtain ⟨d1, e1, hd1, he1, hr1, lo1, hi1, _, _⟩ := h1
  obtain ⟨d2, e2, hd2, he2, hr2, lo2, hi2, _, _⟩ := h2
  have key : ∀ {B1 W1 B2 W2 d1 d2 : Nat}, 0 < W1 → 0 < W2 → B1 * W2 = B2 * W1 → 2 ^ (2 + W1.log2) * B1 < W1 * 2 ^ (d1 + B1.log2) → W2 * 2 ^ (d2 + B2.log2) ≤ 2 ^ (3 + W2.log2) * B2 → ¬ d1 + B1.log2 + W2.log2 < d2 + B2.log2 + W1.log2 := by
    intro B1 W1 B2 W2 d1 d2 w1 w2 heq hi lo hlt
    have x1 : 2 ^ (2 + W1.log2) * B1 * (W2 * 2 ^ W2.log2) < W1 * 2 ^ (d1 + B1.log2) * (W2 * 2 ^ W2.log2) := Nat.mul_lt_mul_of_pos_right hi (Nat.mul_pos w2 (Nat.two_pow_pos _))
    have x2 : W2 * 2 ^ (d2 + B2.log2) * (W1 * 2 ^ W1.log2) ≤ 2 ^ (3 + W2.log2) * B2 * (W1 * 2 ^ W1.log2) := Nat.mul_le_mul_right _ lo
    have y1 : 2 ^ (2 + W1.log2) * B1 * (W2 * 2 ^ W2.log2) * 2 = 2 ^ (3 + W2.log2) * B2 * (W1 * 2 ^ W1.log2) := by
      rw [Nat.pow_add, Nat.pow_add, ac5, heq, ac6]
    have y2 : W1 * 2 ^ (d1 + B1.log2) * (W2 * 2 ^ W2.log2) = W1 * W2 * 2 ^ (d1 + B1.log2 + W2.log2) := by rw [Nat.pow_add 2 (d1 + B1.log2), ac7]
    have y3 : W2 * 2 ^ (d2 + B2.log2) * (W1 * 2 ^ W1.log2) = W1 * W2 * 2 ^ (d2 + B2.log2 + W1.log2) := by rw [Nat.pow_add 2 (d2 + B2.log2), ac8]
    have y4 : 2 ^ (d1 + B1.log2 + W2.log2) * 2 ≤ 2 ^ (d2 + B2.log2 + W1.log2) := by
      rw [← Nat.pow_succ]
      exact Nat.pow_le_pow_right (by decide) hlt
    have y5 : W1 * W2 * (2 ^ (d1 + B1.log2 + W2.log2) * 2) ≤ W1 * W2 * 2 ^ (d2 + B2.log2 + W1.log2) := Nat.mul_le_mul_left _ y4
    rw [← Nat.mul_assoc] at y5
    rw [y2] at x1
    rw [y3, ← y1] at x2
    omega
  have a := key w1 w2 heq hi1 lo2 (d1 := d1) (d2 := d2)
  have b := key w2 w1 heq.symm hi2 lo1 (d1 := d2) (d2 := d1)
  have ht : d1 + B1.log2 + W2.log2 = d2 + B2.log2 + W1.log2 := by omega
  have he : e1 = e2 := by omega
  have s1 : rne (2 ^ (107 + W1.log2) * B1) (W1 * 2 ^ (52 + d1 + B1.log2)) = rne (2 ^ (107 + W1.log2 + W2.log2) * (B1 * W2)) (W1 * W2 * 2 ^ (52 + (d1 + B1.log2 + W2.log2))) := by
    rw [← rne_scale (c := W2 * 2 ^ W2.log2) (Nat.mul_pos w2 (Nat.two_pow_pos _))]
    congr 1
    · rw [Nat.pow_add 2 (107 + W1.log2), ac9]
    · rw [show 52 + (d1 + B1.log2 + W2.log2) = (52 + d1 + B1.log2) + W2.log2 by omega, Nat.pow_add 2 (52 + d1 + B1.log2), ac10]
  have s2 : rne (2 ^ (107 + W2.log2) * B2) (W2 * 2 ^ (52 + d2 + B2.log2)) = rne (2 ^ (107 + W1.log2 + W2.log2) * (B2 * W1)) (W1 * W2 * 2 ^ (52 + (d2 + B2.log2 + W1.log2))) := by
    rw [← rne_scale (c := W1 * 2 ^ W1.log2) (Nat.mul_pos w1 (Nat.two_pow_pos _))]
    congr 1
    · rw [show 107 + W1.log2 + W2.log2 = (107 + W2.log2) + W1.log2 by omega, Nat.pow_add 2 (107 + W2.log2), ac9]
    · rw [show 52 + (d2 + B2.log2 + W1.log2) = (52 + d2 + B2.log2) + W1.log2 by omega, Nat.pow_add 2 (52 + d2 + B2.log2), ac11]
  rw [hr1, hr2, he, s1, s2, heq, ht]
end Go.Proofs.YthlllmnlcjkiiaaDoor.Flo
