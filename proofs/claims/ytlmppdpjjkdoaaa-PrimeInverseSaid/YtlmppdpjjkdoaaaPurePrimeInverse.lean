/- For any two whole numbers a and m of Go's int the law stewardlaw17.PrimeInverse answers true: for m from 2 to 2^20 the program's inverse of a is 0 if a and m have a divisor in common, else a number between 0 and m by whose product with a there is 1 modulo m; for every other m it is 0. No condition. -/
import Derived.Test.YtlmppdpjjkdoaaaPPrimeInversex2
namespace Go.Proofs.Ytlmppdpjjkdoaaa.Pure
open Go.RowKit Go.Proofs.Ytlmppdpjjkdoaaa.PPrimeInverse Go.Proofs.YtlmppdpjjkdoaaaW.PrintWords Go.Proofs.YtlmppdpjjkdoaaaW.PrintLast Go.Proofs.YtlmppdpjjkdoaaaW.PrintMore

theorem inv_awake : stewardlaw17_awake.f 200 = some true := by decide +kernel

theorem inv_tmod (a b : Nat) : Int.tmod (a : Int) (b : Int) = ((a % b : Nat) : Int) := by
  rw [Int.tmod_eq_emod_of_nonneg (by omega)]; rfl
theorem inv_tdiv (a b : Nat) : Int.tdiv (a : Int) (b : Int) = ((a / b : Nat) : Int) := by
  rw [Int.tdiv_eq_ediv_of_nonneg (by omega)]; rfl

theorem inv_wrap {x : Int} (h0 : -9223372036854775808 ≤ x) (h1 : x ≤ 9223372036854775807) : wrap64 x = x := by
  unfold wrap64; omega

/-- What a%m+m, %m comes to. -/
theorem mod_is (a m : Int) (hm : 2 ≤ m) (hm2 : m ≤ 1048576) : prime_modulo.f a m = some (a % m) := by
  unfold prime_modulo.f
  have h1 := Int.tmod_eq_emod (a := a) (b := m)
  have h2 := Int.emod_nonneg a (show m ≠ 0 by omega)
  have h3 := Int.emod_lt_of_pos a (show 0 < m by omega)
  have h4 : (m.natAbs : Int) = m := by omega
  rw [if_neg (by omega)]
  congr 1
  split at h1
  · have h5 : Int.tmod a m = a % m := by omega
    rw [h5, inv_wrap (by omega) (by omega), Int.tmod_eq_emod_of_nonneg (by omega), Int.add_emod_right, Int.emod_emod_of_dvd a (Int.dvd_refl m)]
  · rw [h1, inv_wrap (by omega) (by omega), Int.tmod_eq_emod_of_nonneg (by omega)]
    rw [show a % m - ↑m.natAbs + m = a % m from by omega, Int.emod_emod_of_dvd a (Int.dvd_refl m)]

theorem refmod_is (a m : Int) (hm : 2 ≤ m) (hm2 : m ≤ 1048576) : stewardref17_Mod.f a m = some (a % m) := by
  unfold stewardref17_Mod.f
  have h1 := Int.tmod_eq_emod (a := a) (b := m)
  have h2 := Int.emod_nonneg a (show m ≠ 0 by omega)
  have h3 := Int.emod_lt_of_pos a (show 0 < m by omega)
  have h4 : (m.natAbs : Int) = m := by omega
  rw [if_neg (by omega)]
  split at h1
  · rw [if_neg (by omega)]
    congr 1; omega
  · by_cases h5 : Int.tmod a m < 0
    · rw [if_pos h5, inv_wrap (by omega) (by omega)]
      congr 1; omega
    · rw [if_neg h5]
      omega

def Signs (M a b x y : Int) : Prop := (0 ≤ x ∧ y ≤ 0 ∧ x * b - y * a = M) ∨ (x ≤ 0 ∧ 0 ≤ y ∧ y * a - x * b = M)

theorem bez_step {M a b q r x y : Int} (hq : 0 ≤ q) (hb : 1 ≤ b) (hr : 0 ≤ r) (e : a = q * b + r) (h : Signs M a b x y) :
    Signs M b r y (x - q * y) ∧ -M ≤ x - q * y ∧ x - q * y ≤ M := by
  subst e
  rcases h with ⟨hx, hy, h⟩ | ⟨hx, hy, h⟩
  · have h1 := Int.mul_nonneg hq (show 0 ≤ -y by omega)
    have h2 := Int.mul_nonneg (show 0 ≤ -y by omega) hr
    have h0 : 0 ≤ x - q * y := by
      have : q * -y = -(q * y) := by grind
      omega
    have e2 : (x - q * y) * b - y * r = M := by grind
    have h3 := Int.mul_le_mul_of_nonneg_left hb h0
    have h4 : -y * r = -(y * r) := by grind
    exact ⟨Or.inr ⟨hy, h0, by omega⟩, by omega, by omega⟩
  · have h1 := Int.mul_nonneg hq hy
    have h2 := Int.mul_nonneg hy hr
    have h0 : 0 ≤ -(x - q * y) := by omega
    have e2 : y * r - (x - q * y) * b = M := by grind
    have h3 := Int.mul_le_mul_of_nonneg_left hb h0
    have h4 : -(x - q * y) * b = -((x - q * y) * b) := by grind
    exact ⟨Or.inl ⟨hy, by omega, by omega⟩, by omega, by omega⟩

theorem bez_loop (k : Nat) (A M : Int) (hM : M ≤ 1048576) : ∀ (a b : Nat) (x y : Int), b < k → a ≤ 1048576 → b ≤ 1048576 → Signs M a b x y → -M ≤ x → x ≤ M → -M ≤ y → y ≤ M →
    (∃ t, (a : Int) = x * A + t * M) → (∃ t, (b : Int) = y * A + t * M) →
    ∃ x', prime_bezout.l0 k (a : Int) x y (b : Int) = some (((Nat.gcd a b : Nat) : Int), x') ∧ (∃ t, ((Nat.gcd a b : Nat) : Int) = x' * A + t * M) ∧ -M ≤ x' ∧ x' ≤ M := by
  induction k with
  | zero => intro a b x y h; omega
  | succ k ih =>
    intro a b x y hk ha hb hs hx0 hx1 hy0 hy1 hta htb
    simp only [prime_bezout.l0]
    by_cases h0 : b = 0
    · subst h0
      rw [if_neg (by omega), Nat.gcd_zero_right]
      exact ⟨x, rfl, hta, hx0, hx1⟩
    · have hm := Nat.mod_lt a (show 0 < b by omega)
      have hdm : (a : Int) = ((a / b : Nat) : Int) * (b : Int) + ((a % b : Nat) : Int) := by
        have := Nat.div_add_mod a b
        rw [Nat.mul_comm] at this
        exact_mod_cast this.symm
      obtain ⟨hs', hy0', hy1'⟩ := bez_step (Int.natCast_nonneg (a / b)) (by omega : (1 : Int) ≤ b) (Int.natCast_nonneg (a % b)) hdm hs
      have hq : a / b ≤ a := Nat.div_le_self a b
      rw [if_pos (by omega), if_neg (by omega), inv_tdiv]
      generalize a / b = q at *
      rw [inv_wrap (x := (q : Int)) (by omega) (by omega), inv_wrap (x := (q : Int) * y) (by omega) (by omega), inv_wrap (x := (q : Int) * (b : Int)) (by omega) (by omega), inv_wrap (x := x - (q : Int) * y) (by omega) (by omega), inv_wrap (x := (a : Int) - (q : Int) * (b : Int)) (by omega) (by omega), show (a : Int) - (q : Int) * (b : Int) = ((a % b : Nat) : Int) by omega]
      obtain ⟨x', e, ht, hb0, hb1⟩ := ih b (a % b) y (x - (q : Int) * y) (by omega) hb (by omega) hs' hy0 hy1 hy0' hy1' htb (by
        obtain ⟨t, ht⟩ := hta
        obtain ⟨s, hs⟩ := htb
        exact ⟨t - (q : Int) * s, by grind⟩)
      have hg : Nat.gcd b (a % b) = Nat.gcd a b := by rw [Nat.gcd_comm b (a % b), ← Nat.gcd_rec b a, Nat.gcd_comm]
      rw [hg] at e ht
      exact ⟨x', e, ht, hb0, hb1⟩

theorem inv_ref (k : Nat) : ∀ (a b : Int), a.toNat + b.toNat < k → stewardref17_Gcd.f k a b = some ((Nat.gcd a.toNat b.toNat : Nat) : Int) := by
  induction k with
  | zero => intro a b h; omega
  | succ k ih =>
    intro a b h
    simp only [stewardref17_Gcd.f]
    by_cases ha : a ≤ 0
    · rw [if_pos ha, Int.toNat_of_nonpos ha, Nat.gcd_zero_left]
      congr 1
      unfold mx
      split <;> omega
    · rw [if_neg ha]
      by_cases hb : b ≤ 0
      · rw [if_pos hb, Int.toNat_of_nonpos hb, Nat.gcd_zero_right]
        congr 1
        omega
      · rw [if_neg hb]
        obtain ⟨n, rfl⟩ := Int.eq_ofNat_of_zero_le (show 0 ≤ a by omega)
        obtain ⟨m, rfl⟩ := Int.eq_ofNat_of_zero_le (show 0 ≤ b by omega)
        simp only [Int.toNat_natCast] at h ⊢
        have h1 := Nat.mod_lt n (show 0 < m by omega)
        have h2 := Nat.mod_lt m (show 0 < n by omega)
        by_cases hc : (n : Int) ≥ m
        · rw [if_pos hc, if_neg (by omega), inv_tmod, ih _ _ (by simp only [Int.toNat_natCast]; omega)]
          simp only [Option.bind_some, Int.toNat_natCast]
          rw [← Nat.gcd_rec m n, Nat.gcd_comm]
        · rw [if_neg hc, if_neg (by omega), inv_tmod, ih _ _ (by simp only [Int.toNat_natCast]; omega)]
          simp only [Option.bind_some, Int.toNat_natCast]
          rw [Nat.gcd_comm n (m % n), ← Nat.gcd_rec n m]

/-- What the program's inverse is, where the modulus is a permitted one. -/
theorem inverse_is (k : Nat) (a m : Int) (hm : 2 ≤ m) (hm2 : m ≤ 1048576) (hk : m.toNat < k) :
    ∃ x : Int, prime_Inverse.f (k + 1) a m = some x ∧ ((Nat.gcd (a % m).toNat m.toNat = 1 ∧ 0 < x ∧ x < m ∧ a % m * x % m = 1) ∨ (Nat.gcd (a % m).toNat m.toNat ≠ 1 ∧ x = 0)) := by
  have h2 := Int.emod_nonneg a (show m ≠ 0 by omega)
  have h3 := Int.emod_lt_of_pos a (show 0 < m by omega)
  generalize hA : a % m = A at *
  obtain ⟨n, rfl⟩ := Int.eq_ofNat_of_zero_le h2
  obtain ⟨M, rfl⟩ := Int.eq_ofNat_of_zero_le (show 0 ≤ m by omega)
  simp only [Int.toNat_natCast] at hk ⊢
  obtain ⟨x', e, ⟨t, ht⟩, hb0, hb1⟩ := bez_loop k n M hm2 n M 1 0 hk (by omega) (by omega) (Or.inl ⟨by omega, by omega, by omega⟩) (by omega) (by omega) (by omega) (by omega) ⟨0, by omega⟩ ⟨1, by omega⟩
  unfold prime_Inverse.f
  rw [if_neg (by omega), decide_eq_false (by omega)]
  simp only [prime_Inverse.j0]
  rw [if_neg (by simp), mod_is a M hm hm2, hA]
  simp only [Option.bind_some]
  unfold prime_bezout.f
  rw [e]
  simp only [Option.bind_some]
  by_cases hg : Nat.gcd n M = 1
  · rw [hg] at ht ⊢
    rw [if_pos (by rfl), mod_is x' M hm hm2]
    refine ⟨x' % M, rfl, Or.inl ⟨rfl, ?_⟩⟩
    have g2 := Int.emod_nonneg x' (show (M : Int) ≠ 0 by omega)
    have g3 := Int.emod_lt_of_pos x' (show (0 : Int) < M by omega)
    have key : (n : Int) * (x' % M) % M = 1 := by
      rw [Int.mul_emod, Int.emod_emod_of_dvd x' (Int.dvd_refl _), ← Int.mul_emod]
      have : (n : Int) * x' = 1 + (M : Int) * (-t) := by
        have : ((1 : Nat) : Int) = 1 := rfl
        grind
      rw [this, Int.add_mul_emod_self_left]
      exact Int.emod_eq_of_lt (by omega) (by omega)
    refine ⟨?_, g3, key⟩
    rcases Int.lt_or_eq_of_le g2 with h | h
    · exact h
    · rw [← h] at key
      simp at key
  · rw [if_neg (by omega)]
    exact ⟨0, rfl, Or.inr ⟨hg, rfl⟩⟩

theorem PrimeInverse : stewardlaw17_PrimeInverse.Pure := by
  intro a m _ _
  by_cases hin : m < 2 ∨ 1048576 < m
  · refine ⟨201, ?_⟩
    have hf : prime_Inverse.f 201 a m = some 0 := by
      unfold prime_Inverse.f
      by_cases h : m < 2
      · rw [if_pos h]; simp [prime_Inverse.j0]
      · rw [if_neg h, decide_eq_true (by omega)]; simp [prime_Inverse.j0]
    unfold stewardlaw17_PrimeInverse.f
    rw [at_rounds stewardlaw17_awake.mono (show 200 ≤ 201 by omega) inv_awake, hf]
    simp only [Option.bind_some, if_true]
    by_cases h : m < 2
    · rw [if_pos h]; simp [stewardlaw17_PrimeInverse.j0]
    · rw [if_neg h, decide_eq_true (by omega)]; simp [stewardlaw17_PrimeInverse.j0]
  · have hm : 2 ≤ m := by omega
    have hm2 : m ≤ 1048576 := by omega
    have h2 := Int.emod_nonneg a (show m ≠ 0 by omega)
    have h3 := Int.emod_lt_of_pos a (show 0 < m by omega)
    obtain ⟨x, hx, hs⟩ := inverse_is (300 + (m.toNat + m.toNat)) a m hm hm2 (by omega)
    refine ⟨300 + (m.toNat + m.toNat) + 1, ?_⟩
    unfold stewardlaw17_PrimeInverse.f
    rw [at_rounds stewardlaw17_awake.mono (show 200 ≤ 300 + (m.toNat + m.toNat) + 1 by omega) inv_awake, hx]
    simp only [Option.bind_some, if_true]
    rw [if_neg (by omega), decide_eq_false (by omega)]
    simp only [stewardlaw17_PrimeInverse.j0]
    rw [if_neg (by simp), refmod_is a m hm hm2]
    simp only [Option.bind_some]
    rw [inv_ref _ _ _ (by omega)]
    simp only [Option.bind_some]
    rcases hs with ⟨hg, hx0, hx1, hp⟩ | ⟨hg, hx0⟩
    · rw [hg, if_pos (by rfl), if_pos hx0, if_pos hx1, if_neg (by omega)]
      have hb : a % m * x ≤ 1048576 * 1048576 := Int.mul_le_mul (by omega) (by omega) (by omega) (by omega)
      have hb0 : 0 ≤ a % m * x := Int.mul_nonneg h2 (by omega)
      rw [inv_wrap (by omega) (by omega), Int.tmod_eq_emod_of_nonneg hb0, hp]
      rfl
    · rw [if_neg (by omega), hx0]
      rfl

end Go.Proofs.Ytlmppdpjjkdoaaa.Pure
