/- Floats of 64 bits, in plain Lean: exact results; halving; exponents in their bits. Own work of this seat; no condition. -/
import Derived.Test.YthlllmnlcjkiiaaDoorFlo2
namespace Go.Proofs.YthlllmnlcjkiiaaDoor.Flo
open Ieee
set_option linter.unusedVariables false
set_option linter.unusedSimpArgs false

theorem log2_scale {K q : Nat} (h : K ≠ 0) : (K * 2 ^ q).log2 = K.log2 + q := by
  have a := log2_lo h
  have b := log2_hi h
  have hp := Nat.two_pow_pos q
  refine log2_of ?_ ?_
  · rw [Nat.pow_add]; exact Nat.mul_le_mul_right _ a
  · rw [show K.log2 + q + 1 = (K.log2 + 1) + q by omega, Nat.pow_add]; exact Nat.mul_lt_mul_of_pos_right b hp
theorem min_word' {e K : Nat} (h1 : e ≤ 2045) (h2 : K < 9007199254740992) : min (e * 4503599627370496 + K) 9218868437227405312 = e * 4503599627370496 + K := by omega
theorem rne_one (k : Nat) : rne k 1 = k := by have := rne_mul (k := k) (q := 1) (by omega); rwa [Nat.mul_one] at this
/-- A number that the format has is written as it is. -/
theorem nearest_exact (s : Bool) {mag K e : Nat} {place : Int} (hK : (4503599627370496 ≤ K ∧ K < 9007199254740992) ∨ (e = 0 ∧ 0 < K ∧ K < 4503599627370496)) (he : e ≤ 2045)
    (h : (∃ q : Nat, mag = K * 2 ^ q ∧ place + (q : Int) = -1074 + (e : Int)) ∨ (∃ p : Nat, K = mag * 2 ^ p ∧ place = -1074 + (e : Int) + (p : Int))) : double.nearest s mag place = double.word s (e * 4503599627370496 + K) := by
  have hK0 : K ≠ 0 := by clear h; omega
  have hKl : (K.log2 = 52) ∨ (e = 0 ∧ K.log2 ≤ 51) := by
    rcases hK with ⟨a, b⟩ | ⟨a, b, c⟩
    · exact .inl (log2_of (by simpa using a) (by simpa using b))
    · refine .inr ⟨a, ?_⟩
      have := (Nat.log2_lt hK0 (k := 52)).2 (by simpa using c)
      omega
  have hK2 : K < 9007199254740992 := by clear h; omega
  rcases h with ⟨q, rfl, hp⟩ | ⟨p, hm, hp⟩
  · have h0 : K * 2 ^ q ≠ 0 := Nat.mul_ne_zero hK0 (Nat.pos_iff_ne_zero.1 (Nat.two_pow_pos q))
    have hl := log2_scale (q := q) hK0
    unfold Format.nearest
    rw [if_neg h0]
    simp only [hl, d_frac, d_least, d_bin, d_inf]
    have e1 : max (place + ((K.log2 + q : Nat) : Int) - ((52 : Nat) : Int)) (-1074) = -1074 + (e : Int) := by clear h0 hl; omega
    rw [e1]
    have e2 : (place - (-1074 + (e : Int))).toNat = 0 := by clear h0 hl e1; omega
    have e3 : (-1074 + (e : Int) - place).toNat = q := by clear h0 hl e1; omega
    have e4 : (-1074 + (e : Int) - -1074).toNat = e := by omega
    rw [e2, e3, e4, Nat.shiftLeft_zero, cut_even (by rw [hl]; omega), rne_mul (Nat.two_pow_pos q), min_word' he hK2]
  · have h0 : mag ≠ 0 := fun h => by rw [h, Nat.zero_mul] at hm; exact hK0 hm
    have hl := log2_scale (q := p) h0
    rw [← hm] at hl
    unfold Format.nearest
    rw [if_neg h0]
    simp only [d_frac, d_least, d_bin, d_inf]
    have e1 : max (place + (mag.log2 : Int) - ((52 : Nat) : Int)) (-1074) = -1074 + (e : Int) := by clear hm; omega
    rw [e1]
    have e2 : (place - (-1074 + (e : Int))).toNat = p := by clear hm; omega
    have e3 : (-1074 + (e : Int) - place).toNat = 0 := by clear hm; omega
    have e4 : (-1074 + (e : Int) - -1074).toNat = e := by omega
    rw [e2, e3, e4, Nat.shiftLeft_eq, ← hm, cut_even (Nat.zero_le _), Nat.pow_zero, rne_one, min_word' he hK2]
theorem nearest_zero (s : Bool) (place : Int) : double.nearest s 0 place = double.word s 0 := by
  unfold Format.nearest
  rw [if_pos rfl]
/-- A rung's exponent and size. -/
def ex (r : Nat) : Nat := if r < 4503599627370496 then 0 else r / 4503599627370496 - 1
def ma (r : Nat) : Nat := if r < 4503599627370496 then r else 4503599627370496 + r % 4503599627370496
theorem ex_ma (r : Nat) : r = ex r * 4503599627370496 + ma r := by
  unfold ex ma
  by_cases h : r < 4503599627370496
  · rw [if_pos h, if_pos h]; omega
  · rw [if_neg h, if_neg h]; omega
theorem ma_bd (r : Nat) : (4503599627370496 ≤ ma r ∧ ma r < 9007199254740992) ∨ (ex r = 0 ∧ ma r = r ∧ r < 4503599627370496) := by
  unfold ex ma
  by_cases h : r < 4503599627370496
  · right; rw [if_pos h, if_pos h]; omega
  · left; rw [if_neg h]; omega
theorem ex_le {r : Nat} (h : r < 9218868437227405312) : ex r ≤ 2045 := by
  unfold ex
  split <;> omega
theorem read_fin' {w : Nat} (h : Fin w) : double.read w = .number (sgn w) (ma (rung w)) (-1074 + (ex (rung w) : Int)) := by
  unfold Fin at h
  unfold Format.read
  simp only [d_sign, d_bin, d_inf, d_least]
  show (if rung w < _ then _ else if rung w < _ then _ else if rung w = _ then _ else _) = _
  unfold ma ex
  by_cases h1 : rung w < 4503599627370496
  · rw [if_pos h1, if_pos h1, if_pos h1]
    simp [sgn, rung]
  · rw [if_neg h1, if_neg h1, if_neg h1, if_pos h]
    rfl
theorem word_eq (s : Bool) (r : Nat) : double.word s r = if s then 9223372036854775808 + r else r := by
  unfold Format.word
  rw [d_sign]
theorem sgn_word (s : Bool) {r : Nat} (h : r < 9223372036854775808) : sgn (double.word s r) = s ∧ rung (double.word s r) = r ∧ double.word s r < 18446744073709551616 := by
  rw [word_eq]
  unfold sgn rung
  cases s with
  | false => simp only [Bool.false_eq_true, if_false]; rw [Nat.div_eq_of_lt h, Nat.mod_eq_of_lt h]; exact ⟨rfl, rfl, by omega⟩
  | true =>
    simp only [if_true]
    have e1 : (9223372036854775808 + r) / 9223372036854775808 = 1 := by omega
    have e2 : (9223372036854775808 + r) % 9223372036854775808 = r := by omega
    rw [e1, e2]
    exact ⟨rfl, rfl, by omega⟩
theorem word_of {w : Nat} (h : w < 18446744073709551616) : double.word (sgn w) (rung w) = w := by
  rw [word_eq]
  unfold sgn rung
  have h1 : w / 9223372036854775808 = 0 ∨ w / 9223372036854775808 = 1 := by omega
  rcases h1 with h1 | h1 <;> rw [h1] <;> simp <;> omega
theorem key_word (s : Bool) {r : Nat} (h : r < 9223372036854775808) : key (double.word s r) = sg s r := by
  obtain ⟨h1, h2, _⟩ := sgn_word s h
  unfold key sg
  rw [h1, h2]
/-- Two. -/
def two : Nat := 4611686018427387904
theorem read_two : double.read two = .number false 4503599627370496 (-51) := by decide
theorem quot_two (s : Bool) {m : Nat} (hm : m < 9007199254740992) (i : Int) : Datum.quotient 54 (.number s m i) (.number false 4503599627370496 (-51)) = some (.number (s ^^ false) (2 * (m * 2 ^ (106 - m.log2) / 4503599627370496) + (m * 2 ^ (106 - m.log2) % 4503599627370496 != 0).toNat) (i - -51 - ((106 - m.log2 : Nat) : Int) - 1)) := by
  unfold Datum.quotient
  have h1 : ¬ (4503599627370496 : Nat) = 0 := by omega
  have h2 : (4503599627370496 : Nat).log2 = 52 := by decide
  simp only [if_neg h1, h2, Nat.shiftLeft_eq]
theorem quot_val {m : Nat} (hl : m.log2 ≤ 52) : 2 * (m * 2 ^ (106 - m.log2) / 4503599627370496) + (m * 2 ^ (106 - m.log2) % 4503599627370496 != 0).toNat = m * 2 ^ (55 - m.log2) := by
  have e : m * 2 ^ (106 - m.log2) = m * 2 ^ (54 - m.log2) * 4503599627370496 := by
    rw [Nat.mul_assoc, show (4503599627370496 : Nat) = 2 ^ 52 from rfl, ← Nat.pow_add, show 54 - m.log2 + 52 = 106 - m.log2 by omega]
  rw [e, Nat.mul_div_cancel _ (by omega), Nat.mul_mod_left, show 55 - m.log2 = (54 - m.log2) + 1 by omega, Nat.pow_succ, Nat.mul_comm 2, Nat.mul_assoc]
  rfl
/-- Half of a word. -/
theorem half_word {w : Nat} (h : Fin w) : ∃ r, double.div w two = some (double.word (sgn w) r) ∧ r < 9218868437227405312 ∧ (rung w = 0 → r = 0) ∧ (9007199254740992 ≤ rung w → r = rung w - 4503599627370496) := by
  unfold Format.div
  rw [read_fin' h, read_two, d_frac]
  have hr := ex_ma (rung w)
  have hb := ma_bd (rung w)
  have he := ex_le h
  have hm53 : ma (rung w) < 9007199254740992 := by omega
  have hml := log2_small hm53
  rw [show 52 + 2 = 54 from rfl, quot_two _ hm53, quot_val hml, Option.map_some, write_number, Bool.xor_false]
  generalize rung w = r at *
  unfold Fin at h
  by_cases hm0 : ma r = 0
  · rw [hm0, Nat.zero_mul, nearest_zero]
    exact ⟨0, rfl, by omega, fun _ => rfl, fun h => by omega⟩
  · by_cases hbig : 9007199254740992 ≤ r
    · obtain ⟨e, hee⟩ : ∃ e, ex r = e + 1 := ⟨ex r - 1, by omega⟩
      have hl : (ma r).log2 = 52 := by
        rcases hb with ⟨a, b⟩ | ⟨a, b, c⟩
        · exact log2_of (by simpa using a) (by simpa using b)
        · omega
      refine ⟨e * 4503599627370496 + ma r, ?_, by omega, fun h => by omega, fun _ => by omega⟩
      rw [hl]
      rw [nearest_exact (sgn w) (K := ma r) (e := e) (.inl (by omega)) (by omega) (.inl ⟨3, rfl, by omega⟩)]
    · have hex : ex r = 0 := by omega
      have hmr : ma r = r := by omega
      rw [hex, hmr]
      rw [hmr] at hml hm0
      have hl2 := log2_scale (q := 55 - r.log2) hm0
      have hn : double.nearest (sgn w) (r * 2 ^ (55 - r.log2)) (-1074 + ((0 : Nat) : Int) - -51 - ((106 - r.log2 : Nat) : Int) - 1) = double.word (sgn w) (min (0 * 4503599627370496 + rne r 2) 9218868437227405312) := by
        have h0 : r * 2 ^ (55 - r.log2) ≠ 0 := Nat.mul_ne_zero hm0 (Nat.pos_iff_ne_zero.1 (Nat.two_pow_pos _))
        unfold Format.nearest
        rw [if_neg h0]
        simp only [hl2, d_frac, d_least, d_bin, d_inf]
        have e1 : max (-1074 + ((0 : Nat) : Int) - -51 - ((106 - r.log2 : Nat) : Int) - 1 + ((r.log2 + (55 - r.log2) : Nat) : Int) - ((52 : Nat) : Int)) (-1074) = -1074 := by clear h0 hl2; omega
        rw [e1]
        have e2 : (-1074 + ((0 : Nat) : Int) - -51 - ((106 - r.log2 : Nat) : Int) - 1 - -1074).toNat = 0 := by clear h0 hl2 e1; omega
        have e3 : (-1074 - (-1074 + ((0 : Nat) : Int) - -51 - ((106 - r.log2 : Nat) : Int) - 1)).toNat = 56 - r.log2 := by clear h0 hl2 e1; omega
        have e4 : ((-1074 : Int) - -1074).toNat = 0 := rfl
        have e5 : rne (r * 2 ^ (55 - r.log2)) (2 ^ (56 - r.log2)) = rne r 2 := by
          rw [show 56 - r.log2 = (55 - r.log2) + 1 by clear h0 hl2 e1; omega, Nat.pow_succ, Nat.mul_comm r]
          exact rne_scale (Nat.two_pow_pos _)
        rw [e2, e3, e4, Nat.shiftLeft_zero, cut_even (by rw [hl2]; clear h0 hl2 e1; omega), e5]
      rw [hn]
      refine ⟨_, rfl, ?_, fun h => by omega, fun h => by omega⟩
      have := rne_le (p := r) (q := 2) (k := r + 1) (by omega) (by omega)
      omega
/-- One times a word. -/
theorem one_mul {w : Nat} (h : Fin w) (hw : w < 18446744073709551616) (h0 : rung w ≠ 0) : double.mul 4607182418800017408 w = some w := by
  have h1 : double.read 4607182418800017408 = .number false 4503599627370496 (-52) := by decide
  unfold Format.mul
  rw [read_fin' h, h1, product_number, Option.map_some, write_number, Bool.false_xor]
  have hr := ex_ma (rung w)
  have hb := ma_bd (rung w)
  have he := ex_le h
  have hwo := word_of hw
  rw [nearest_exact (sgn w) (K := ma (rung w)) (e := ex (rung w)) (by omega) he (.inl ⟨52, Nat.mul_comm _ _, by omega⟩), ← hr, hwo]
end Go.Proofs.YthlllmnlcjkiiaaDoor.Flo
