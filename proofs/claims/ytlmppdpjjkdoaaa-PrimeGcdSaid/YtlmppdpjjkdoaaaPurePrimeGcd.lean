/- For any two whole numbers a and b of Go's int the law stewardlaw17.PrimeGcd answers true: the program's greatest common divisor of the two numbers (each brought between -5 and 2^40) is the reference's. No condition. -/
import Derived.Test.YtlmppdpjjkdoaaaPPrimeGcdx2
namespace Go.Proofs.Ytlmppdpjjkdoaaa.Pure
open Go.RowKit Go.Proofs.Ytlmppdpjjkdoaaa.PPrimeGcd Go.Proofs.YtlmppdpjjkdoaaaW.PrintWords Go.Proofs.YtlmppdpjjkdoaaaW.PrintLast Go.Proofs.YtlmppdpjjkdoaaaW.PrintMore

theorem gcd_awake : stewardlaw17_awake.f 200 = some true := by decide +kernel

theorem gcd_tmod (a b : Nat) : Int.tmod (a : Int) (b : Int) = ((a % b : Nat) : Int) := by
  rw [Int.tmod_eq_emod_of_nonneg (by omega)]; rfl

theorem gcd_loop (k : Nat) : ∀ (a b : Nat), b < k → prime_Gcd.l0 k (a : Int) (b : Int) = some ((Nat.gcd a b : Nat) : Int) := by
  induction k with
  | zero => intro a b h; omega
  | succ k ih =>
    intro a b h
    simp only [prime_Gcd.l0]
    by_cases hb : b = 0
    · subst hb
      rw [if_neg (by omega), Nat.gcd_zero_right]
    · have hm := Nat.mod_lt a (show 0 < b by omega)
      rw [if_pos (by omega), if_neg (by omega), gcd_tmod, ih b (a % b) (by omega), Nat.gcd_comm b (a % b), ← Nat.gcd_rec b a, Nat.gcd_comm]

theorem gcd_ref (k : Nat) : ∀ (a b : Int), a.toNat + b.toNat < k → stewardref17_Gcd.f k a b = some ((Nat.gcd a.toNat b.toNat : Nat) : Int) := by
  induction k with
  | zero => intro a b h; omega
  | succ k ih =>
    intro a b h
    simp only [stewardref17_Gcd.f]
    by_cases ha : a ≤ 0
    · rw [if_pos ha, Int.toNat_of_nonpos ha, Nat.gcd_zero_left]
      congr 1
      unfold mx
      split <;> omega
    · rw [if_neg ha]
      by_cases hb : b ≤ 0
      · rw [if_pos hb, Int.toNat_of_nonpos hb, Nat.gcd_zero_right]
        congr 1
        omega
      · rw [if_neg hb]
        obtain ⟨n, rfl⟩ := Int.eq_ofNat_of_zero_le (show 0 ≤ a by omega)
        obtain ⟨m, rfl⟩ := Int.eq_ofNat_of_zero_le (show 0 ≤ b by omega)
        simp only [Int.toNat_natCast] at h ⊢
        have h1 := Nat.mod_lt n (show 0 < m by omega)
        have h2 := Nat.mod_lt m (show 0 < n by omega)
        by_cases hc : (n : Int) ≥ m
        · rw [if_pos hc, if_neg (by omega), gcd_tmod, ih _ _ (by simp only [Int.toNat_natCast]; omega)]
          simp only [Option.bind_some, Int.toNat_natCast]
          rw [← Nat.gcd_rec m n, Nat.gcd_comm]
        · rw [if_neg hc, if_neg (by omega), gcd_tmod, ih _ _ (by simp only [Int.toNat_natCast]; omega)]
          simp only [Option.bind_some, Int.toNat_natCast]
          rw [Nat.gcd_comm n (m % n), ← Nat.gcd_rec n m]

theorem mx_toNat (a : Int) : mx 0 a = (a.toNat : Int) := by unfold mx; split <;> omega

theorem PrimeGcd : stewardlaw17_PrimeGcd.Pure := by
  intro a b _ _
  generalize hx : mx (-5) (mn a 1099511627776) = x
  generalize hy : mx (-5) (mn b 1099511627776) = y
  refine ⟨200 + (x.toNat + y.toNat + 1), ?_⟩
  unfold stewardlaw17_PrimeGcd.f
  rw [hx, hy, at_rounds stewardlaw17_awake.mono (show 200 ≤ 200 + (x.toNat + y.toNat + 1) by omega) gcd_awake]
  simp only [Option.bind_some, if_true]
  unfold prime_Gcd.f
  rw [mx_toNat, mx_toNat, gcd_loop _ _ _ (by omega), gcd_ref _ _ _ (by omega)]
  simp

end Go.Proofs.Ytlmppdpjjkdoaaa.Pure
