/- siphash.Below, as the whole part of a product. Own work of this seat. -/
import Derived.Test.YtlmppdpjjkdoaaaPDrawsTwox1
import Derived.Laws.Bits64b
namespace Go.Proofs.Ytlmppdpjjkdoaaa.Draws
open Go.RowKit Go.Proofs.Ytlmppdpjjkdoaaa.PDrawsTwo Go.Proofs.YtlmppdpjjkdoaaaW.PrintWords Go.Proofs.YtlmppdpjjkdoaaaW.PrintLast Go.Proofs.YtlmppdpjjkdoaaaW.PrintMore

theorem and32 {z : Int} (h0 : 0 ≤ z) (h1 : z < 18446744073709551616) : Go.bits .and .u64 z 4294967295 = z % 4294967296 := by
  obtain ⟨n, rfl⟩ := Int.eq_ofNat_of_zero_le h0
  have := bits_and_u64_nat n 4294967295 (by omega) (by omega)
  rw [show ((4294967295 : Nat) : Int) = 4294967295 from rfl] at this
  rw [this, show (4294967295 : Nat) = 2 ^ 32 - 1 by decide, Nat.and_two_pow_sub_one_eq_mod]
  omega

theorem w64 {z : Int} (h0 : 0 ≤ z) (h1 : z < 18446744073709551616) : IntKind.u64.wrap z = z := by
  rw [IntKind.wrap_u64]; omega

/-- The high half of a product, out of the four products of halves. -/
theorem mul_hi {x y : Int} (hx0 : 0 ≤ x) (hx1 : x < 18446744073709551616) (hy0 : 0 ≤ y) (hy1 : y < 18446744073709551616) :
    ∃ p q r s : Int, x % 4294967296 * (y % 4294967296) = p ∧ x / 4294967296 * (y % 4294967296) = q ∧ x % 4294967296 * (y / 4294967296) = r ∧ x / 4294967296 * (y / 4294967296) = s ∧
      0 ≤ p ∧ p ≤ 18446744065119617025 ∧ 0 ≤ q ∧ q ≤ 18446744065119617025 ∧ 0 ≤ r ∧ r ≤ 18446744065119617025 ∧ 0 ≤ s ∧ s ≤ 18446744065119617025 ∧
      s + (q + p / 4294967296) / 4294967296 + ((q + p / 4294967296) % 4294967296 + r) / 4294967296 = x * y / 18446744073709551616 := by
  have ex : x = x / 4294967296 * 4294967296 + x % 4294967296 := by omega
  have ey : y = y / 4294967296 * 4294967296 + y % 4294967296 := by omega
  have bx1 : 0 ≤ x / 4294967296 ∧ x / 4294967296 ≤ 4294967295 := by omega
  have bx0 : 0 ≤ x % 4294967296 ∧ x % 4294967296 ≤ 4294967295 := by omega
  have by1 : 0 ≤ y / 4294967296 ∧ y / 4294967296 ≤ 4294967295 := by omega
  have by0 : 0 ≤ y % 4294967296 ∧ y % 4294967296 ≤ 4294967295 := by omega
  generalize x / 4294967296 = a at *
  generalize x % 4294967296 = b at *
  generalize y / 4294967296 = c at *
  generalize y % 4294967296 = d at *
  have hmul : ∀ u v : Int, 0 ≤ u → u ≤ 4294967295 → 0 ≤ v → v ≤ 4294967295 → 0 ≤ u * v ∧ u * v ≤ 18446744065119617025 := fun u v h1 h2 h3 h4 =>
    ⟨Int.mul_nonneg h1 h3, by have := Int.mul_le_mul h2 h4 h3 (by omega : (0 : Int) ≤ 4294967295); omega⟩
  have hp := hmul b d bx0.1 bx0.2 by0.1 by0.2
  have hq := hmul a d bx1.1 bx1.2 by0.1 by0.2
  have hr := hmul b c bx0.1 bx0.2 by1.1 by1.2
  have hs := hmul a c bx1.1 bx1.2 by1.1 by1.2
  have e : x * y = a * c * 18446744073709551616 + (a * d + b * c) * 4294967296 + b * d := by
    rw [ex, ey]
    grind
  refine ⟨_, _, _, _, rfl, rfl, rfl, rfl, hp.1, hp.2, hq.1, hq.2, hr.1, hr.2, hs.1, hs.2, ?_⟩
  rw [e]
  omega

theorem below_is {x n : Int} (hx0 : 0 ≤ x) (hx1 : x < 18446744073709551616) (hn0 : 1 ≤ n) (hn1 : n ≤ 9223372036854775807) : siphash_Below.f x n = some (x * n / 18446744073709551616) := by
  obtain ⟨p, q, r, s, e1, e2, e3, e4, p0, p1, q0, q1, r0, r1, s0, s1, e⟩ := mul_hi hx0 hx1 (show 0 ≤ n by omega) (show n < 18446744073709551616 by omega)
  have hlt : x * n / 18446744073709551616 < n := by
    have : x * n < n * 18446744073709551616 := by
      rw [Int.mul_comm]
      exact Int.mul_lt_mul_of_pos_left hx1 (by omega)
    omega
  unfold siphash_Below.f bits_Mul64.f
  rw [if_neg (by omega), w64 (z := n) (by omega) (by omega), and32 hx0 hx1, and32 (z := n) (by omega) (by omega), e1, e2, e3, e4, w64 (z := p) (by omega) (by omega), w64 (z := q) (by omega) (by omega), w64 (z := r) (by omega) (by omega), w64 (z := s) (by omega) (by omega), w64 (z := q + p / 4294967296) (by omega) (by omega), and32 (z := q + p / 4294967296) (by omega) (by omega), w64 (z := (q + p / 4294967296) % 4294967296 + r) (by omega) (by omega), w64 (z := s + (q + p / 4294967296) / 4294967296) (by omega) (by omega), w64 (z := s + (q + p / 4294967296) / 4294967296 + ((q + p / 4294967296) % 4294967296 + r) / 4294967296) (by omega) (by omega), e]
  simp only [Option.bind_some]
  congr 1
  unfold wrap64
  have : 0 ≤ x * n := Int.mul_nonneg hx0 (by omega)
  omega


theorem below_in {x n : Int} (hx0 : 0 ≤ x) (hx1 : x < 18446744073709551616) (hn0 : 1 ≤ n) (hn1 : n ≤ 9223372036854775807) : 0 ≤ x * n / 18446744073709551616 ∧ x * n / 18446744073709551616 < n := by
  have hlt : x * n / 18446744073709551616 < n := by
    have : x * n < n * 18446744073709551616 := by
      rw [Int.mul_comm]
      exact Int.mul_lt_mul_of_pos_left hx1 (by omega)
    omega
  have : 0 ≤ x * n := Int.mul_nonneg hx0 (by omega)
  exact ⟨by omega, hlt⟩
end Go.Proofs.Ytlmppdpjjkdoaaa.Draws
