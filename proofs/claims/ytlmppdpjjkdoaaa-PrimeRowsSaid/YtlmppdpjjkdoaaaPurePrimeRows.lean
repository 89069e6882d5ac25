/- For any three whole numbers m, first, step of Go's int the law stewardlaw17.PrimeRows answers true: the program's row of m places (m brought to at most 300) is the reference's, and it holds each place once just if step and m have no divisor in common. No condition. -/
import Derived.Test.YtlmppdpjjkdoaaaPPrimeRowsx3
namespace Go.Proofs.Ytlmppdpjjkdoaaa.Pure
open Go.RowKit Go.Proofs.Ytlmppdpjjkdoaaa.PPrimeRows Go.Proofs.YtlmppdpjjkdoaaaW.PrintWords Go.Proofs.YtlmppdpjjkdoaaaW.PrintLast Go.Proofs.YtlmppdpjjkdoaaaW.PrintMore
set_option linter.unusedVariables false
set_option linter.unusedSimpArgs false

theorem row_awake : stewardlaw17_awake.f 200 = some true := by decide +kernel
theorem row_tmod (a b : Nat) : Int.tmod (a : Int) (b : Int) = ((a % b : Nat) : Int) := by
  rw [Int.tmod_eq_emod_of_nonneg (by omega)]; rfl
theorem row_wrap {x : Int} (h0 : -9223372036854775808 ≤ x) (h1 : x ≤ 9223372036854775807) : wrap64 x = x := by
  unfold wrap64; omega
/-- What a%m+m, %m comes to. -/
theorem mod_is (a m : Int) (hm : 1 ≤ m) (hm2 : m ≤ 1048576) : prime_modulo.f a m = some (a % m) := by
  unfold prime_modulo.f
  have h1 := Int.tmod_eq_emod (a := a) (b := m)
  have h2 := Int.emod_nonneg a (show m ≠ 0 by omega)
  have h3 := Int.emod_lt_of_pos a (show 0 < m by omega)
  have h4 : (m.natAbs : Int) = m := by omega
  rw [if_neg (by omega)]
  congr 1
  split at h1
  · have h5 : Int.tmod a m = a % m := by omega
    rw [h5, row_wrap (by omega) (by omega), Int.tmod_eq_emod_of_nonneg (by omega), Int.add_emod_right, Int.emod_emod_of_dvd a (Int.dvd_refl m)]
  · rw [h1, row_wrap (by omega) (by omega), Int.tmod_eq_emod_of_nonneg (by omega)]
    rw [show a % m - ↑m.natAbs + m = a % m from by omega, Int.emod_emod_of_dvd a (Int.dvd_refl m)]

theorem refmod_is (a m : Int) (hm : 1 ≤ m) (hm2 : m ≤ 1048576) : stewardref17_Mod.f a m = some (a % m) := by
  unfold stewardref17_Mod.f
  have h1 := Int.tmod_eq_emod (a := a) (b := m)
  have h2 := Int.emod_nonneg a (show m ≠ 0 by omega)
  have h3 := Int.emod_lt_of_pos a (show 0 < m by omega)
  have h4 : (m.natAbs : Int) = m := by omega
  rw [if_neg (by omega)]
  split at h1
  · rw [if_neg (by omega)]
    congr 1; omega
  · by_cases h5 : Int.tmod a m < 0
    · rw [if_pos h5, row_wrap (by omega) (by omega)]
      congr 1; omega
    · rw [if_neg h5]
      omega

def Signs (M a b x y : Int) : Prop := (0 ≤ x ∧ y ≤ 0 ∧ x * b - y * a = M) ∨ (x ≤ 0 ∧ 0 ≤ y ∧ y * a - x * b = M)

theorem gcd_ref (k : Nat) : ∀ (a b : Int), a.toNat + b.toNat < k → stewardref17_Gcd.f k a b = some ((Nat.gcd a.toNat b.toNat : Nat) : Int) := by
  induction k with
  | zero => intro a b h; omega
  | succ k ih =>
    intro a b h
    simp only [stewardref17_Gcd.f]
    by_cases ha : a ≤ 0
    · rw [if_pos ha, Int.toNat_of_nonpos ha, Nat.gcd_zero_left]
      congr 1
      unfold mx
      split <;> omega
    · rw [if_neg ha]
      by_cases hb : b ≤ 0
      · rw [if_pos hb, Int.toNat_of_nonpos hb, Nat.gcd_zero_right]
        congr 1
        omega
      · rw [if_neg hb]
        obtain ⟨n, rfl⟩ := Int.eq_ofNat_of_zero_le (show 0 ≤ a by omega)
        obtain ⟨m, rfl⟩ := Int.eq_ofNat_of_zero_le (show 0 ≤ b by omega)
        simp only [Int.toNat_natCast] at h ⊢
        have h1 := Nat.mod_lt n (show 0 < m by omega)
        have h2 := Nat.mod_lt m (show 0 < n by omega)
        by_cases hc : (n : Int) ≥ m
        · rw [if_pos hc, if_neg (by omega), row_tmod, ih _ _ (by simp only [Int.toNat_natCast]; omega)]
          simp only [Option.bind_some, Int.toNat_natCast]
          rw [← Nat.gcd_rec m n, Nat.gcd_comm]
        · rw [if_neg hc, if_neg (by omega), row_tmod, ih _ _ (by simp only [Int.toNat_natCast]; omega)]
          simp only [Option.bind_some, Int.toNat_natCast]
          rw [Nat.gcd_comm n (m % n), ← Nat.gcd_rec n m]


/-- The row's first n places. -/
def row (m r s : Int) (n : Nat) : List Int := (List.range n).map fun (i : Nat) => (r + (i : Int) * s) % m
theorem row_succ (m r s : Int) (n : Nat) : row m r s (n + 1) = row m r s n ++ [(r + (n : Int) * s) % m] := by
  simp [row, List.range_succ]
theorem row_length (m r s : Int) (n : Nat) : (row m r s n).length = n := by simp [row]

theorem row_loop (m r s : Int) (hm : 1 ≤ m) (hm2 : m ≤ 300) (hs0 : 0 ≤ s) (hs1 : s < m) : ∀ (d k i : Nat), i + d = m.toNat → d < k →
    prime_Row.l0 k m s (row m r s i) ((r + (i : Int) * s) % m) m (i : Int) = some (row m r s m.toNat) := by
  intro d
  induction d with
  | zero =>
    intro k i hi hk
    obtain ⟨k, rfl⟩ : ∃ j, k = j + 1 := ⟨k - 1, by omega⟩
    simp only [prime_Row.l0]
    rw [if_neg (by omega)]
    congr 2
  | succ d ih =>
    intro k i hi hk
    obtain ⟨k, rfl⟩ : ∃ j, k = j + 1 := ⟨k - 1, by omega⟩
    simp only [prime_Row.l0]
    have h2 := Int.emod_nonneg (r + (i : Int) * s) (show m ≠ 0 by omega)
    have h3 := Int.emod_lt_of_pos (r + (i : Int) * s) (show 0 < m by omega)
    rw [if_pos (by omega), row_length, if_pos (by omega), if_neg (by omega), row_wrap (x := _ + s) (by omega) (by omega), row_wrap (x := (i : Int) + 1) (by omega) (by omega), Int.tmod_eq_emod_of_nonneg (by omega)]
    have e : ((r + (i : Int) * s) % m + s) % m = (r + ((i + 1 : Nat) : Int) * s) % m := by
      rw [Int.emod_add_emod]
      congr 1
      rw [Int.natCast_add, Int.add_mul]
      omega
    rw [e, ← row_succ]
    exact ih k (i + 1) (by omega) (by omega)

theorem refrow_loop (m a1 a2 : Int) (hm : 1 ≤ m) (hm2 : m ≤ 300) : ∀ (d k i : Nat), i + d = m.toNat → d < k →
    stewardref17_Row.l0 k m a1 a2 (row m (a1 % m) (a2 % m) i) (i : Int) = some (row m (a1 % m) (a2 % m) m.toNat) := by
  intro d
  induction d with
  | zero =>
    intro k i hi hk
    obtain ⟨k, rfl⟩ : ∃ j, k = j + 1 := ⟨k - 1, by omega⟩
    simp only [stewardref17_Row.l0]
    rw [if_neg (by omega)]
    congr 2
  | succ d ih =>
    intro k i hi hk
    obtain ⟨k, rfl⟩ : ∃ j, k = j + 1 := ⟨k - 1, by omega⟩
    simp only [stewardref17_Row.l0]
    have r2 := Int.emod_nonneg a1 (show m ≠ 0 by omega)
    have r3 := Int.emod_lt_of_pos a1 (show 0 < m by omega)
    have s2 := Int.emod_nonneg a2 (show m ≠ 0 by omega)
    have s3 := Int.emod_lt_of_pos a2 (show 0 < m by omega)
    have p0 : 0 ≤ (i : Int) * (a2 % m) := Int.mul_nonneg (by omega) s2
    have p1 : (i : Int) * (a2 % m) ≤ 300 * 300 := Int.mul_le_mul (by omega) (by omega) s2 (by omega)
    rw [if_pos (by omega), refmod_is a1 m hm (by omega), Option.bind_some, refmod_is a2 m hm (by omega), Option.bind_some, if_neg (by omega), row_length, if_pos (by omega), row_wrap (x := (i : Int) * _) (by omega) (by omega), row_wrap (x := _ + _) (by omega) (by omega), row_wrap (x := (i : Int) + 1) (by omega) (by omega), Int.tmod_eq_emod_of_nonneg (by omega), ← row_succ]
    exact ih k (i + 1) (by omega) (by omega)

theorem numbers_same (l : List Int) (hl : l.length ≤ 300) : ∀ (d k i : Nat), i + d = l.length → d < k → stewardlaw14_Numbers.l0 k l l (l.length : Int) (i : Int) = some true := by
  intro d
  induction d with
  | zero =>
    intro k i hi hk
    obtain ⟨k, rfl⟩ : ∃ j, k = j + 1 := ⟨k - 1, by omega⟩
    simp only [stewardlaw14_Numbers.l0]
    rw [if_neg (by omega)]
  | succ d ih =>
    intro k i hi hk
    obtain ⟨k, rfl⟩ : ∃ j, k = j + 1 := ⟨k - 1, by omega⟩
    simp only [stewardlaw14_Numbers.l0]
    rw [if_pos (by omega), if_pos (by omega), if_pos (by omega), if_pos (by omega), if_pos trivial, row_wrap (by omega) (by omega)]
    exact ih k (i + 1) (by omega) (by omega)

theorem nodup_snoc (l : List Int) (a : Int) : (l ++ [a]).Nodup ↔ (a ∉ l ∧ l.Nodup) := by
  rw [List.nodup_append]
  constructor
  · rintro ⟨h1, _, h3⟩
    exact ⟨fun h => h3 a h a (by simp) rfl, h1⟩
  · rintro ⟨h1, h2⟩
    refine ⟨h2, by simp, fun x hx y hy e => ?_⟩
    obtain rfl : y = a := by simpa using hy
    exact h1 (e ▸ hx)

/-- The last loop: what was seen, and whether each once. -/
theorem seen_loop (m a2 : Int) (hm : 1 ≤ m) (hm2 : m ≤ 300) (L : List Int) (hL : L.length ≤ 300) (hin : ∀ x ∈ L, 0 ≤ x ∧ x < m) (K : Nat)
    (hfin : ∀ k, K < k → (if m < 2 then (some (decide L.Nodup == true)) else ((stewardref17_Mod.f a2 m).bind fun t149 => ((stewardref17_Gcd.f k t149 m).bind fun t150 => (some (decide L.Nodup == (t150 == 1)))))) = some true) :
    ∀ (d k i : Nat) (seen : List Bool), i + d = L.length → d + K + 1 < k → seen.length = m.toNat → (∀ j : Nat, j < m.toNat → seen[j]? = some (decide ((j : Int) ∈ L.take i))) →
    stewardlaw17_PrimeRows.l0 k m a2 seen (decide (L.take i).Nodup) L (L.length : Int) (i : Int) = some true := by
  intro d
  induction d with
  | zero =>
    intro k i seen hi hk hs hse
    obtain ⟨k, rfl⟩ : ∃ j, k = j + 1 := ⟨k - 1, by omega⟩
    simp only [stewardlaw17_PrimeRows.l0]
    rw [if_neg (by omega), show L.take i = L from List.take_of_length_le (by omega)]
    exact hfin k (by omega)
  | succ d ih =>
    intro k i seen hi hk hs hse
    obtain ⟨k, rfl⟩ : ∃ j, k = j + 1 := ⟨k - 1, by omega⟩
    simp only [stewardlaw17_PrimeRows.l0]
    have hlt : i < L.length := by omega
    have hrd : rd L (i : Int) = L[i] := by simp [rd, hlt]
    obtain ⟨x0, x1⟩ := hin L[i] (List.getElem_mem hlt)
    have htk : L.take (i + 1) = L.take i ++ [L[i]] := by rw [List.take_add_one, List.getElem?_eq_getElem hlt]; rfl
    rw [hrd]
    generalize L[i] = x at *
    rw [if_pos (by omega), if_pos (by omega), if_pos (by omega), if_neg (by omega), if_neg (by omega)]
    have hx : seen[x.toNat]? = some (decide (x ∈ L.take i)) := by
      have := hse x.toNat (by omega)
      rwa [show ((x.toNat : Nat) : Int) = x by omega] at this
    have hget : rdOf false seen x = decide (x ∈ L.take i) := by
      simp [rdOf, List.getD_eq_getElem?_getD, hx]
    have hnext : ∀ b, b = decide (L.take (i + 1)).Nodup → stewardlaw17_PrimeRows.l0 k m a2 (seen.set x.toNat true) b L (L.length : Int) (wrap64 ((i : Int) + 1)) = some true := by
      rintro b rfl
      rw [row_wrap (by omega) (by omega)]
      refine ih k (i + 1) _ (by omega) (by omega) (by simpa using hs) (fun j hj => ?_)
      rw [List.getElem?_set, htk]
      by_cases e : x.toNat = j
      · rw [if_pos e, if_pos (by omega)]
        have : (j : Int) = x := by omega
        simp [this]
      · rw [if_neg e, hse j hj]
        have : (j : Int) ≠ x := by omega
        simp [this]
    have hnd := nodup_snoc (L.take i) x
    rw [← htk] at hnd
    by_cases hd : (L.take i).Nodup
    · rw [decide_eq_true hd, if_pos rfl, if_pos (by omega), if_pos (by omega), hget]
      refine hnext _ ?_
      by_cases hm : x ∈ L.take i
      · rw [decide_eq_true hm, decide_eq_false (fun h => (hnd.1 h).1 hm)]; rfl
      · rw [decide_eq_false hm, decide_eq_true (hnd.2 ⟨hm, hd⟩)]; rfl
    · rw [decide_eq_false hd, if_neg (by simp), if_pos (by omega), if_pos (by omega)]
      exact hnext _ (decide_eq_false (fun h => hd (hnd.1 h).2)).symm

theorem row_nat (M R S : Nat) (n : Nat) : row (M : Int) (R : Int) (S : Int) n = (List.range n).map fun (i : Nat) => (((R + i * S) % M : Nat) : Int) := by
  simp [row]

theorem row_nodup (M R S : Nat) (hM : 1 ≤ M) : (row (M : Int) (R : Int) (S : Int) M).Nodup ↔ Nat.gcd S M = 1 := by
  rw [row_nat, List.Nodup, List.pairwise_map]
  constructor
  · intro h
    rcases Nat.lt_or_ge 1 (Nat.gcd S M) with hg | hg
    · exfalso
      obtain ⟨u, hu⟩ := Nat.gcd_dvd_left S M
      obtain ⟨v, hv⟩ := Nat.gcd_dvd_right S M
      generalize Nat.gcd S M = g at *
      have hv0 : 0 < v := by
        rcases Nat.eq_zero_or_pos v with h0 | h0
        · subst h0; omega
        · exact h0
      have hvM : v < M := by rw [hv]; exact (Nat.lt_mul_iff_one_lt_left hv0).2 hg
      rw [List.pairwise_iff_getElem] at h
      have := h 0 v (by rw [List.length_range]; omega) (by rw [List.length_range]; omega) hv0
      simp only [List.getElem_range, Nat.zero_mul, Nat.add_zero] at this
      apply this
      congr 1
      have e : v * S = M * u := by
        rw [hu, hv, Nat.mul_comm g v, Nat.mul_assoc]
      rw [e, Nat.add_mul_mod_self_left]
    · have : 0 < Nat.gcd S M := Nat.gcd_pos_of_pos_right S hM
      omega
  · intro h
    rw [List.pairwise_iff_getElem]
    intro i j hi hj hij e
    simp only [List.length_range] at hi hj
    simp only [List.getElem_range] at e
    have e' : (R + j * S) % M = (R + i * S) % M := by omega
    have h0 := Nat.sub_mod_eq_zero_of_mod_eq e'
    have h1 : R + j * S - (R + i * S) = (j - i) * S := by rw [Nat.sub_mul]; omega
    rw [h1] at h0
    have hd : M ∣ (j - i) * S := Nat.dvd_of_mod_eq_zero h0
    have hc : Nat.Coprime M S := by rw [Nat.Coprime, Nat.gcd_comm]; exact h
    have := Nat.le_of_dvd (by omega) (hc.dvd_of_dvd_mul_right hd)
    omega

theorem PrimeRows : stewardlaw17_PrimeRows.Pure := by
  intro a0 a1 a2 _ _ _
  have hmn : mn a0 300 ≤ 300 := by unfold mn; split <;> omega
  generalize hm : mn a0 300 = m at hmn
  obtain ⟨K, hK⟩ : ∃ K : Nat, K = 2000 := ⟨_, rfl⟩
  refine ⟨K, ?_⟩
  unfold stewardlaw17_PrimeRows.f
  rw [hm, at_rounds stewardlaw17_awake.mono (show 200 ≤ K by omega) row_awake]
  simp only [Option.bind_some, if_true]
  have hmn2 : mn m 1048576 = m := by unfold mn; rw [if_neg (by omega)]
  by_cases h1 : m < 1
  · have hmx : mx 0 m = 0 := by unfold mx; split <;> omega
    have e1 : prime_Row.f K m a1 a2 = some [] := by
      unfold prime_Row.f
      rw [hmn2, hmx, if_pos (by omega), if_pos (by decide), Option.bind_some, if_pos rfl]; rfl
    have e2 : stewardref17_Row.f K m a1 a2 = some [] := by
      unfold stewardref17_Row.f
      obtain ⟨K', rfl⟩ : ∃ j, K = j + 1 := ⟨K - 1, by omega⟩
      simp only [stewardref17_Row.l0]
      rw [if_neg (by omega)]
    rw [e1, e2]
    simp only [Option.bind_some]
    have e3 : stewardlaw14_Numbers.f K [] [] = some true := by
      unfold stewardlaw14_Numbers.f
      rw [if_pos rfl]
      exact numbers_same [] (by simp) 0 K 0 rfl (by omega)
    rw [e3]
    simp only [Option.bind_some, if_true]
    rw [if_pos h1]; rfl
  · have hmx : mx 0 m = m := by unfold mx; split <;> omega
    have e1 : prime_Row.f K m a1 a2 = some (row m (a1 % m) (a2 % m) m.toNat) := by
      unfold prime_Row.f
      rw [hmn2, hmx, if_pos (by omega), if_pos (by omega), Option.bind_some, if_neg (by omega), mod_is a1 m (by omega) (by omega), Option.bind_some, mod_is a2 m (by omega) (by omega), Option.bind_some]
      have := row_loop m (a1 % m) (a2 % m) (by omega) hmn (Int.emod_nonneg _ (by omega)) (Int.emod_lt_of_pos _ (by omega)) m.toNat K 0 (by omega) (by omega)
      simpa [row] using this
    have e2 : stewardref17_Row.f K m a1 a2 = some (row m (a1 % m) (a2 % m) m.toNat) := by
      unfold stewardref17_Row.f
      have := refrow_loop m a1 a2 (by omega) hmn m.toNat K 0 (by omega) (by omega)
      simpa [row] using this
    have hlen := row_length m (a1 % m) (a2 % m) m.toNat
    have hin : ∀ x ∈ row m (a1 % m) (a2 % m) m.toNat, 0 ≤ x ∧ x < m := by
      intro x hx
      obtain ⟨i, _, rfl⟩ := List.mem_map.1 hx
      exact ⟨Int.emod_nonneg _ (by omega), Int.emod_lt_of_pos _ (by omega)⟩
    have hnd : (row m (a1 % m) (a2 % m) m.toNat).Nodup ↔ Nat.gcd (a2 % m).toNat m.toNat = 1 := by
      have := row_nodup m.toNat (a1 % m).toNat (a2 % m).toNat (by omega)
      rwa [show ((m.toNat : Nat) : Int) = m by omega, show (((a1 % m).toNat : Nat) : Int) = a1 % m from Int.toNat_of_nonneg (Int.emod_nonneg _ (by omega)), show (((a2 % m).toNat : Nat) : Int) = a2 % m from Int.toNat_of_nonneg (Int.emod_nonneg _ (by omega))] at this
    rw [e1, e2]
    generalize row m (a1 % m) (a2 % m) m.toNat = L at *
    simp only [Option.bind_some]
    have e3 : stewardlaw14_Numbers.f K L L = some true := by
      unfold stewardlaw14_Numbers.f
      rw [if_pos rfl]
      exact numbers_same L (by omega) L.length K 0 (by omega) (by omega)
    rw [e3]
    simp only [Option.bind_some, if_true]
    rw [if_neg h1, if_pos (by omega), if_pos (by omega)]
    have hs3 := Int.emod_lt_of_pos a2 (show 0 < m by omega)
    have := seen_loop m a2 (by omega) hmn L (by omega) hin 700 (fun k hk => by
      by_cases h2 : m < 2
      · rw [if_pos h2]
        have : Nat.gcd (a2 % m).toNat m.toNat = 1 := by
          have : m.toNat = 1 := by omega
          rw [this, Nat.gcd_one_right]
        rw [decide_eq_true (hnd.2 this)]; rfl
      · rw [if_neg h2, refmod_is a2 m (by omega) (by omega), Option.bind_some, gcd_ref k _ _ (by omega), Option.bind_some]
        congr 1
        by_cases hg : Nat.gcd (a2 % m).toNat m.toNat = 1
        · rw [decide_eq_true (hnd.2 hg), hg]; rfl
        · rw [decide_eq_false (fun h => hg (hnd.1 h))]
          have : ((Nat.gcd (a2 % m).toNat m.toNat : Nat) : Int) ≠ 1 := by omega
          simp [this]) L.length K 0 (List.replicate m.toNat false) (by omega) (by omega) (by simp) (fun j hj => by simp [hj])
    simpa using this
end Go.Proofs.Ytlmppdpjjkdoaaa.Pure
