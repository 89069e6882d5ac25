/- For any whole number n of Go's int the law stewardlaw17.PrimeFactors answers true: outside 2 to 2^20 the program tells no factors; else n is the product of the factors that it tells, each is a prime by the reference, and they rise. No condition. -/
import Derived.Test.YtlmppdpjjkdoaaaPPrimeFactorsx2
namespace Go.Proofs.Ytlmppdpjjkdoaaa.Pure
open Go.RowKit Go.Proofs.Ytlmppdpjjkdoaaa.PPrimeFactors Go.Proofs.YtlmppdpjjkdoaaaW.PrintWords Go.Proofs.YtlmppdpjjkdoaaaW.PrintLast Go.Proofs.YtlmppdpjjkdoaaaW.PrintMore

theorem fac_awake : stewardlaw17_awake.f 200 = some true := by decide +kernel

/-- d is the least divisor of n from 2 on. -/
def LeastD (n d : Nat) : Prop := 2 ≤ d ∧ d ∣ n ∧ ∀ e, 2 ≤ e → e ∣ n → d ≤ e

theorem fac_tmod (a b : Nat) : Int.tmod (a : Int) (b : Int) = ((a % b : Nat) : Int) := by
  rw [Int.tmod_eq_emod_of_nonneg (by omega)]; rfl
theorem fac_tdiv (a b : Nat) : Int.tdiv (a : Int) (b : Int) = ((a / b : Nat) : Int) := by
  rw [Int.tdiv_eq_ediv_of_nonneg (by omega)]; rfl

theorem wrap_id {x : Int} (h0 : -9223372036854775808 ≤ x) (h1 : x ≤ 9223372036854775807) : wrap64 x = x := by
  unfold wrap64; omega

theorem sq_bound {n d : Nat} (hn : n ≤ 1048576) (hd : d ≤ n + 2) : d * d ≤ 1099515822084 := by
  have h1 : d * d ≤ 1048578 * 1048578 := Nat.mul_le_mul (by omega) (by omega)
  omega

theorem self_least {n d : Nat} (h2 : 2 ≤ n) (hno : ∀ e, 2 ≤ e → e < d → ¬ e ∣ n) (hlt : n < d * d) : LeastD n n := by
  refine ⟨h2, Nat.dvd_refl n, fun e he hen => ?_⟩
  obtain ⟨c, hc⟩ := hen
  have hed : d ≤ e := by
    rcases Nat.lt_or_ge e d with h | h
    · exact absurd ⟨c, hc⟩ (hno e he h)
    · exact h
  rcases Nat.lt_or_ge c 2 with h | h
  · have : c = 0 ∨ c = 1 := by omega
    rcases this with rfl | rfl <;> omega
  · have hcd : d ≤ c := by
      rcases Nat.lt_or_ge c d with h' | h'
      · exact absurd ⟨e, by rw [hc, Nat.mul_comm]⟩ (hno c h h')
      · exact h'
    have := Nat.mul_le_mul hed hcd
    omega

theorem least_loop (k : Nat) : ∀ (n d : Nat), n ≤ 1048576 → 2 ≤ n → 3 ≤ d → d % 2 = 1 → d ≤ n + 2 → (∀ e, 2 ≤ e → e < d → ¬ e ∣ n) → n + 3 - d < k →
    ∃ r : Nat, prime_least.l0 k (n : Int) (d : Int) = some (r : Int) ∧ LeastD n r := by
  induction k with
  | zero => intro n d _ _ _ _ _ _ h; omega
  | succ k ih =>
    intro n d hn h2 h3 hodd hd hno hk
    have hsq := sq_bound hn hd
    simp only [prime_least.l0]
    rw [wrap_id (by omega) (by rw [← Int.natCast_mul]; omega), ← Int.natCast_mul]
    by_cases hc : d * d ≤ n
    · have hdn : d ≤ d * d := Nat.le_mul_of_pos_left d (by omega)
      rw [if_pos (by omega), if_neg (by omega), fac_tmod]
      by_cases hm : n % d = 0
      · rw [if_pos (by omega)]
        refine ⟨d, rfl, by omega, Nat.dvd_of_mod_eq_zero hm, fun e he hen => ?_⟩
        rcases Nat.lt_or_ge e d with h | h
        · exact absurd hen (hno e he h)
        · exact h
      · rw [if_neg (by omega), wrap_id (by omega) (by omega)]
        have hdl : d < n := by
          rcases Nat.lt_or_ge d n with h | h
          · exact h
          · have : d * 3 ≤ d * d := Nat.mul_le_mul (Nat.le_refl d) h3
            omega
        have hnd : ¬ d ∣ n := fun h => hm (Nat.mod_eq_zero_of_dvd h)
        have hn2 : ¬ 2 ∣ n := hno 2 (by omega) (by omega)
        have := ih n (d + 2) hn h2 (by omega) (by omega) (by omega) (fun e he hlt => by
          rcases Nat.lt_or_ge e d with h | h
          · exact hno e he h
          · rcases Nat.eq_or_lt_of_le h with h | h
            · rw [← h]; exact hnd
            · have : e = d + 1 := by omega
              subst this
              intro hdv
              exact hn2 (Nat.dvd_trans ⟨(d + 1) / 2, by omega⟩ hdv)) (by omega)
        simpa using this
    · rw [if_neg (by omega)]
      exact ⟨n, rfl, self_least h2 hno (by omega)⟩

theorem least_tells {n : Nat} (k : Nat) (hn : n ≤ 1048576) (h2 : 2 ≤ n) (hk : n + 1 < k) : ∃ r : Nat, prime_least.f k (n : Int) = some (r : Int) ∧ LeastD n r := by
  unfold prime_least.f
  rw [show (2 : Int) = ((2 : Nat) : Int) from rfl, fac_tmod]
  by_cases hm : n % 2 = 0
  · rw [if_pos (by omega)]
    exact ⟨2, rfl, by omega, Nat.dvd_of_mod_eq_zero hm, fun e he _ => he⟩
  · rw [if_neg (by omega)]
    have := least_loop k n 3 hn h2 (by omega) (by omega) (by omega) (fun e he hlt => by
      have : e = 2 := by omega
      subst this
      intro h
      exact hm (Nat.mod_eq_zero_of_dvd h)) (by omega)
    simpa using this

theorem is_loop (k : Nat) : ∀ (n d : Nat), n ≤ 1048576 → LeastD n n → 2 ≤ d → d ≤ n + 1 → n + 2 - d < k → stewardref17_Is.l0 k (n : Int) (d : Int) = some true := by
  induction k with
  | zero => intro n d _ _ _ _ h; omega
  | succ k ih =>
    intro n d hn hl h2 hd hk
    have hsq := sq_bound hn (by omega : d ≤ n + 2)
    have hn2 := hl.1
    simp only [stewardref17_Is.l0]
    rw [wrap_id (by omega) (by rw [← Int.natCast_mul]; omega), ← Int.natCast_mul]
    by_cases hc : d * d ≤ n
    · have hdn : d * 2 ≤ d * d := Nat.mul_le_mul (Nat.le_refl d) h2
      have hm : ¬ n % d = 0 := fun h => by
        have := hl.2.2 d h2 (Nat.dvd_of_mod_eq_zero h)
        omega
      rw [if_pos (by omega), if_neg (by omega), fac_tmod, if_neg (by omega), wrap_id (by omega) (by omega)]
      have := ih n (d + 1) hn hl (by omega) (by omega) (by omega)
      simpa using this
    · rw [if_neg (by omega)]

theorem is_tells {n : Nat} (k : Nat) (hn : n ≤ 1048576) (hl : LeastD n n) (hk : n + 1 < k) : stewardref17_Is.f k (n : Int) = some true := by
  have h2 := hl.1
  unfold stewardref17_Is.f
  rw [if_neg (by omega), decide_eq_false (by omega)]
  obtain ⟨k, rfl⟩ : ∃ m, k = m + 1 := ⟨k - 1, by omega⟩
  simp only [stewardref17_Is.j0]
  rw [if_neg (by simp)]
  have := is_loop k n 2 hn hl (by omega) (by omega) (by omega)
  simpa using this

/-- What the factors of n are. -/
def Fac : Nat → List Int → Prop
  | n, [] => n = 1
  | n, d :: l => ∃ p : Nat, d = p ∧ 2 ≤ n ∧ LeastD n p ∧ Fac (n / p) l

theorem least_prime {n d : Nat} (h : LeastD n d) : LeastD d d := ⟨h.1, Nat.dvd_refl d, fun e he hed => h.2.2 e he (Nat.dvd_trans hed h.2.1)⟩

theorem div_facts {n d : Nat} (h2 : 2 ≤ n) (h : LeastD n d) : n / d * d = n ∧ 1 ≤ n / d ∧ n / d < n ∧ d ≤ n := by
  obtain ⟨hd, ⟨c, hc⟩, _⟩ := h
  subst hc
  have hdpos : 0 < d := by omega
  rw [Nat.mul_div_cancel_left c hdpos]
  have hc1 : 1 ≤ c := by
    rcases Nat.eq_zero_or_pos c with h | h
    · subst h; omega
    · exact h
  have h1 : 2 * c ≤ d * c := Nat.mul_le_mul hd (Nat.le_refl c)
  have h3 : d * 1 ≤ d * c := Nat.mul_le_mul (Nat.le_refl d) hc1
  exact ⟨Nat.mul_comm c d, hc1, by omega, by omega⟩

theorem factors_loop (k : Nat) : ∀ (n : Nat) (out : List Int), 1 ≤ n → n ≤ 1048576 → out.length + n ≤ 2097152 → n + (n + 2) < k →
    ∃ l, prime_Factors.l0 k (n : Int) out = some (out ++ l) ∧ Fac n l := by
  induction k with
  | zero => intro n out _ _ _ h; omega
  | succ k ih =>
    intro n out h1 hn hl hk
    simp only [prime_Factors.l0]
    by_cases hc : 2 ≤ n
    · obtain ⟨d, hd, hld⟩ := least_tells k hn hc (by omega)
      obtain ⟨e1, e2, e3, e4⟩ := div_facts hc hld
      have h2 := hld.1
      rw [if_pos (by omega), hd]
      simp only [Option.bind_some]
      rw [if_pos (by omega), if_neg (by omega), fac_tdiv, wrap_id (by omega) (by omega)]
      obtain ⟨l, hl', hf⟩ := ih (n / d) (out ++ [(d : Int)]) e2 (by omega) (by simp; omega) (by omega)
      exact ⟨(d : Int) :: l, by rw [hl']; simp, d, rfl, hc, hld, hf⟩
    · rw [if_neg (by omega)]
      exact ⟨[], by simp, by show n = 1; omega⟩

theorem rd_at (pre : List Int) (x : Int) (l : List Int) : rd (pre ++ x :: l) (pre.length : Int) = x := by
  unfold rd; simp

/-- What the law's loop comes to: ahead stand the factors that were seen, whose product is p. -/
theorem law_loop (k : Nat) : ∀ (n p m : Nat) (pre l : List Int), n ≤ 1048576 → p * m = n → 1 ≤ p → 1 ≤ m → Fac m l → (∀ q ∈ pre.getLast?, ∀ e : Nat, 2 ≤ e → e ∣ m → q ≤ (e : Int)) → pre.length + l.length ≤ 4194304 → l.length + (n + 2) < k →
    stewardlaw17_PrimeFactors.l0 k (n : Int) (pre ++ l) (p : Int) (pre ++ l) ((pre ++ l).length : Int) (pre.length : Int) = some true := by
  induction k with
  | zero => intro n p m pre l _ _ _ _ _ _ _ h; omega
  | succ k ih =>
    intro n p m pre l hn hpm hp hm hf hpre hlen hk
    simp only [stewardlaw17_PrimeFactors.l0]
    cases l with
    | nil =>
      have hm1 : m = 1 := hf
      subst hm1
      rw [if_neg (by simp)]
      simp; omega
    | cons d l =>
      obtain ⟨q, rfl, hm2, hld, hf'⟩ := hf
      obtain ⟨e1, e2, e3, e4⟩ := div_facts hm2 hld
      have hq2 := hld.1
      have hmn : m ≤ n := by
        have := Nat.mul_le_mul hp (Nat.le_refl m); omega
      have hpn : p ≤ n := by
        have := Nat.mul_le_mul (Nat.le_refl p) hm; omega
      have hpq : p * q ≤ n := by
        have h1 : p * q * 1 ≤ p * q * (m / q) := Nat.mul_le_mul (Nat.le_refl _) e2
        have h2 : p * q * (m / q) = n := by rw [Nat.mul_assoc, Nat.mul_comm q, e1, hpm]
        omega
      have hpm' : p * q * (m / q) = n := by rw [Nat.mul_assoc, Nat.mul_comm q, e1, hpm]
      simp only [List.length_append, List.length_cons] at *
      rw [if_pos (by omega), if_pos (by omega), if_pos (by omega), rd_at, is_tells k (by omega) (least_prime hld) (by omega)]
      simp only [Option.bind_some, if_true]
      have hnext : stewardlaw17_PrimeFactors.l0 k (n : Int) (pre ++ (q : Int) :: l) (wrap64 ((p : Int) * (q : Int))) (pre ++ (q : Int) :: l) ((pre ++ (q : Int) :: l).length : Int) (wrap64 ((pre.length : Int) + 1)) = some true := by
        rw [← Int.natCast_mul, wrap_id (by omega) (by omega), wrap_id (by omega) (by omega)]
        have := ih n (p * q) (m / q) (pre ++ [(q : Int)]) l hn hpm' (by have := Nat.mul_le_mul hp (show 1 ≤ q by omega); omega) e2 hf' (fun x hx e he hed => by
          simp at hx
          subst hx
          have := hld.2.2 e he (Nat.dvd_trans hed ⟨q, by rw [e1]⟩)
          omega) (by simp; omega) (by omega)
        simpa [Int.add_assoc, Int.add_comm 1] using this
      simp only [List.length_append, List.length_cons] at hnext
      by_cases h0 : pre = []
      · subst h0
        rw [if_neg (by simp), if_neg (by omega)]
        exact hnext
      · have hpos : 0 < pre.length := List.length_pos_iff.mpr h0
        rw [if_pos (by omega), wrap_id (by omega) (by omega), if_pos (by omega), if_pos (by omega)]
        have hr : rd (pre ++ (q : Int) :: l) ((pre.length : Int) - 1) ≤ q := by
          have hlast : pre.getLast? = some (rd (pre ++ (q : Int) :: l) ((pre.length : Int) - 1)) := by
            rw [List.getLast?_eq_getElem?]
            unfold rd
            rw [show ((pre.length : Int) - 1).toNat = pre.length - 1 by omega, List.getD_eq_getElem?_getD, List.getElem?_append_left (by omega), List.getElem?_eq_getElem (by omega)]
            simp
          exact hpre _ hlast q hq2 hld.2.1
        rw [if_neg (by omega), if_neg (by omega)]
        exact hnext

theorem fac_len : ∀ (l : List Int) (n : Nat), 1 ≤ n → Fac n l → l.length ≤ n
  | [], n, _, _ => by simp
  | d :: l, n, h, hf => by
    obtain ⟨p, _, h2, hld, hf'⟩ := hf
    obtain ⟨e1, e2, e3, e4⟩ := div_facts h2 hld
    have := fac_len l (n / p) e2 hf'
    simp; omega

theorem PrimeFactors : stewardlaw17_PrimeFactors.Pure := by
  intro a _
  by_cases hin : a < 2 ∨ 1048576 < a
  · refine ⟨201, ?_⟩
    have hf : prime_Factors.f 201 a = some [] := by
      unfold prime_Factors.f
      by_cases h : a < 2
      · rw [if_pos h]; simp [prime_Factors.j0]
      · rw [if_neg h, decide_eq_true (by omega)]; simp [prime_Factors.j0]
    unfold stewardlaw17_PrimeFactors.f
    rw [at_rounds stewardlaw17_awake.mono (show 200 ≤ 201 by omega) fac_awake, hf]
    simp only [Option.bind_some, if_true]
    by_cases h : a < 2
    · rw [if_pos h]; simp [stewardlaw17_PrimeFactors.j0]
    · rw [if_neg h, decide_eq_true (by omega)]; simp [stewardlaw17_PrimeFactors.j0]
  · obtain ⟨n, rfl⟩ := Int.eq_ofNat_of_zero_le (show 0 ≤ a by omega)
    have h2 : 2 ≤ n := by omega
    have hn : n ≤ 1048576 := by omega
    refine ⟨300 + (n + (n + 5)), ?_⟩
    obtain ⟨l, hl, hf⟩ := factors_loop (299 + (n + (n + 5))) n [] (by omega) hn (by simp; omega) (by omega)
    have hlen := fac_len l n (by omega) hf
    have hF : prime_Factors.f (300 + (n + (n + 5))) (n : Int) = some l := by
      unfold prime_Factors.f
      rw [if_neg (by omega), decide_eq_false (by omega), show 300 + (n + (n + 5)) = 299 + (n + (n + 5)) + 1 by omega]
      simp only [prime_Factors.j0]
      rw [if_neg (by simp), hl]; simp
    have hL := law_loop (299 + (n + (n + 5))) n 1 n [] l hn (by omega) (by omega) (by omega) hf (fun q hq => by simp at hq) (by simp; omega) (by omega)
    unfold stewardlaw17_PrimeFactors.f
    rw [at_rounds stewardlaw17_awake.mono (show 200 ≤ 300 + (n + (n + 5)) by omega) fac_awake, hF]
    simp only [Option.bind_some, if_true]
    rw [if_neg (by omega), decide_eq_false (by omega), show 300 + (n + (n + 5)) = 299 + (n + (n + 5)) + 1 by omega]
    simp only [stewardlaw17_PrimeFactors.j0]
    rw [if_neg (by simp)]
    simpa using hL

end Go.Proofs.Ytlmppdpjjkdoaaa.Pure
