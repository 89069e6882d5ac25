/- math: normalize, Frexp, Ldexp; score: exact, Halve. Own work of this seat; no condition. -/
import Derived.Test.YthlllmnlcjkiiaaDoorSco1
import Derived.Test.YthlllmnlcjkiiaaDoorFlo4
namespace Go.Proofs.YthlllmnlcjkiiaaDoor.Cho
open Go.RowKit Go.Proofs.YthlllmnlcjkiiaaDoor.Kit Go.Proofs.YthlllmnlcjkiiaaDoor.Flo
set_option linter.unusedVariables false
set_option linter.unusedSimpArgs false

theorem lt_norm {r : Nat} (h : r < 9218868437227405312) : (FloatKind.f64.format.order r 4503599627370496 == some .lt) = decide (r < 4503599627370496) := by
  obtain ⟨k1, k2⟩ := key_norm (show r < 9223372036854775808 by omega)
  obtain ⟨m1, m2⟩ := key_norm (show 4503599627370496 < 9223372036854775808 by omega)
  rw [fmt64, order_num (by unfold Num; rw [k2]; omega) (by decide), k1, m1, cmp_int]
  by_cases l : r < 4503599627370496
  · rw [if_pos (by omega), decide_eq_true l]; rfl
  · rw [if_neg (by omega), decide_eq_false l]
    split <;> rfl
/-- A word made normal, and what its exponent is too great by. -/
def nrmF (w : Nat) : Nat := if rung w < 4503599627370496 then Ieee.double.word (sgn w) ((rung w).log2 * 4503599627370496 + mant (rung w)) else w
def nrmE (w : Nat) : Int := if rung w < 4503599627370496 then -52 else 0
theorem normalize_calls {x : Nat} (h : FinW x) (h0 : rung x ≠ 0) (w : World) : Calls Tryd.prog 43 #[.float .f64 x] w fun e w' => e = .returned (.tuple #[.float .f64 (nrmF x), .int .i64 (nrmE x)]) ∧ w = w' := by
  have HA := abs_calls h.2
  have hl := lt_norm h.1
  unfold nrmF nrmE
  by_cases hs : rung x < 4503599627370496
  · have hm := fun w => run_float_arith (P := Tryd.prog) w .mul 22 .f64 x 4841369599423283200 _ (mul_p52 h h0 hs)
    rw [decide_eq_true hs] at hl
    rw [if_pos hs, if_pos hs]
    generalize Ieee.double.word (sgn x) ((rung x).log2 * 4503599627370496 + mant (rung x)) = y at *
    generalize rung x = r at *
    clear hs h0
    go_enter Tryd.func43, Tryd.ntmps43
    go_wp2_with (go_at_call 35; refine (HA _).mono ?_; rintro e w1 ⟨rfl, rfl⟩)
    go_ret2
    exact ⟨rfl, rfl⟩
  · rw [decide_eq_false hs] at hl
    rw [if_neg hs, if_neg hs]
    generalize rung x = r at *
    clear hs h0
    go_enter Tryd.func43, Tryd.ntmps43
    go_wp2_with (go_at_call 35; refine (HA _).mono ?_; rintro e w1 ⟨rfl, rfl⟩)
    go_ret2
    exact ⟨rfl, rfl⟩
theorem eq_zero {x : Nat} (h : FinW x) : (FloatKind.f64.format.order x 0 == some .eq) = decide (rung x = 0) := by
  rw [fmt64, order_num (Nat.le_of_lt h.1) num_zero, key_zero, cmp_int]
  have := @rung_key x
  by_cases e : rung x = 0
  · rw [decide_eq_true e, this.2 e]; rfl
  · rw [decide_eq_false e]
    have hk : key x ≠ 0 := fun h => e (this.1 h)
    by_cases l : key x < 0
    · rw [if_pos l]; rfl
    · rw [if_neg l, if_neg hk]; rfl
theorem fin_num {x : Nat} (h : FinW x) : Num x := Nat.le_of_lt h.1
theorem fin_ninf {x : Nat} (h : FinW x) : ¬ rung x = 9218868437227405312 := fun e => by
  have h1 : rung x < 9218868437227405312 := h.1
  omega
/-- The exponent's bits. -/
theorem bits_ex {y : Nat} (h : y < 18446744073709551616) : Go.bits .and .u64 ((y : Int) / 4503599627370496) 2047 = ((rung y / 4503599627370496 : Nat) : Int) := by
  have e1 : (y : Int) / 4503599627370496 = ((y / 4503599627370496 : Nat) : Int) := by omega
  rw [e1, show (2047 : Int) = ((2047 : Nat) : Int) from rfl, bits_and_u (by omega) (by omega), show (2047 : Nat) = 2 ^ 11 - 1 from rfl, Nat.and_two_pow_sub_one_eq_mod]
  unfold rung
  show ((y / 4503599627370496 % 2048 : Nat) : Int) = _
  omega
theorem nrm_bd {x : Nat} (h : FinW x) (h0 : rung x ≠ 0) : FinW (nrmF x) ∧ sgn (nrmF x) = sgn x ∧ (nrmE x = -52 ∨ nrmE x = 0) ∧ 1 ≤ rung (nrmF x) / 4503599627370496 ∧ rung (nrmF x) / 4503599627370496 ≤ 2046 := by
  have h1 : rung x < 9218868437227405312 := h.1
  unfold nrmF nrmE
  by_cases hs : rung x < 4503599627370496
  · rw [if_pos hs, if_pos hs]
    have hl : (rung x).log2 ≤ 51 := by
      have := (Nat.log2_lt h0 (k := 52)).2 (by simpa using hs)
      omega
    have hb := mant_bd h0 (by omega)
    obtain ⟨g1, g2, g3⟩ := sgn_word (sgn x) (show (rung x).log2 * 4503599627370496 + mant (rung x) < 9223372036854775808 by omega)
    refine ⟨⟨?_, g3⟩, g1, .inl rfl, by rw [g2]; omega, by rw [g2]; omega⟩
    show rung _ < _
    rw [g2]
    omega
  · rw [if_neg hs, if_neg hs]
    exact ⟨h, rfl, .inr rfl, by omega, by omega⟩
set_option maxHeartbeats 1000000 in
theorem frexp_calls {x : Nat} (h : FinW x) (h0 : rung x ≠ 0) (w : World) : Calls Tryd.prog 42 #[.float .f64 x] w fun e w' => ∃ v, e = .returned (.tuple #[.float .f64 v, .int .i64 (nrmE x + (((rung (nrmF x) / 4503599627370496 : Nat) : Int) - 1023 + 1))]) ∧ w = w' := by
  have he := eq_zero h
  rw [decide_eq_false h0] at he
  have HI := isinf_calls h.2
  rw [decide_eq_false (fin_ninf h)] at HI
  have HN := isnan_calls x
  rw [decide_eq_true (fin_num h)] at HN
  have HM := normalize_calls h h0
  obtain ⟨n1, n2, n3, n4, n5⟩ := nrm_bd h h0
  have hbx := bits_ex n1.2
  have hf := fun b w => from_run b w
  have hb := fun b w => bits_run b w
  generalize nrmF x = y at *
  generalize nrmE x = ee at *
  obtain ⟨E, hE⟩ : ∃ E : Int, ((rung y / 4503599627370496 : Nat) : Int) = E := ⟨_, rfl⟩
  have n4' : 1 ≤ E := by omega
  have n5' : E ≤ 2046 := by omega
  have n3' : -52 ≤ ee ∧ ee ≤ 0 := by omega
  rw [hE] at hbx ⊢
  clear hE n4 n5 n3 n1 n2 h0
  go_enter Tryd.func42, Tryd.ntmps42
  go_wp2_with (first | (go_at_call 22; refine (HI _).mono ?_; rintro e w1 ⟨rfl, rfl⟩) | (go_at_call 24; refine (HN _).mono ?_; rintro e w1 ⟨rfl, rfl⟩) | (go_at_call 43; refine (HM _).mono ?_; rintro e w1 ⟨rfl, rfl⟩))
  go_ret2
  exact ⟨_, rfl, rfl⟩
theorem frexp_zero {x : Nat} (h : FinW x) (h0 : rung x = 0) (w : World) : Calls Tryd.prog 42 #[.float .f64 x] w fun e w' => e = .returned (.tuple #[.float .f64 x, .int .i64 0]) ∧ w = w' := by
  have he := eq_zero h
  rw [decide_eq_true h0] at he
  clear h h0
  go_enter Tryd.func42, Tryd.ntmps42
  go_wp2
  go_ret2
  exact ⟨rfl, rfl⟩
/-- The exponent that Frexp tells. -/
def frE (x : Nat) : Int := if rung x = 0 then 0 else nrmE x + (((rung (nrmF x) / 4503599627370496 : Nat) : Int) - 1023 + 1)
theorem frexp2_calls {x : Nat} (h : FinW x) (w : World) : Calls Tryd.prog 37 #[.float .f64 x] w fun e w' => ∃ v, e = .returned (.tuple #[.float .f64 v, .int .i64 (frE x)]) ∧ w = w' := by
  have HF : ∀ w, Calls Tryd.prog 42 #[.float .f64 x] w fun e w' => ∃ v, e = .returned (.tuple #[.float .f64 v, .int .i64 (frE x)]) ∧ w = w' := fun w => by
    unfold frE
    by_cases h0 : rung x = 0
    · rw [if_pos h0]
      exact (frexp_zero h h0 w).mono fun e w' h => ⟨x, h⟩
    · rw [if_neg h0]
      exact frexp_calls h h0 w
  generalize frE x = ee at *
  go_enter Tryd.func37, Tryd.ntmps37
  go_wp2_with (go_at_call 42; refine (HF _).mono ?_; rintro e w1 ⟨v, rfl, rfl⟩)
  go_ret2
  exact ⟨_, rfl, rfl⟩
/-- How many halvings only count down. -/
def stp (x : Nat) (n : Nat) : Nat := (min (n : Int) (frE x + 1021)).toNat
theorem frE_bd {x : Nat} (h : FinW x) : -1200 ≤ frE x ∧ frE x ≤ 1200 := by
  unfold frE
  by_cases h0 : rung x = 0
  · rw [if_pos h0]; omega
  · rw [if_neg h0]
    obtain ⟨_, _, n3, n4, n5⟩ := nrm_bd h h0
    omega
theorem exact_calls {x : Nat} (h : FinW x) (n : Nat) (hn : n ≤ 1000000) (w : World) : Calls Tryd.prog 32 #[.float .f64 x, .int .i64 (n : Int)] w fun e w' => e = .returned (.int .i64 ((stp x n : Nat) : Int)) ∧ w = w' := by
  have HF := frexp2_calls h
  obtain ⟨b1, b2⟩ := frE_bd h
  have hs : ((stp x n : Nat) : Int) = max 0 (min (n : Int) (frE x + 1021)) := by unfold stp; omega
  rw [hs]
  generalize frE x = ee at *
  clear hs
  have e1 : ∀ m : Int, (if m < (n : Int) then m else (n : Int)) = min (n : Int) m := fun m => by omega
  have e2 : ∀ m : Int, (if 0 < m then m else 0) = max 0 m := fun m => by omega
  obtain ⟨q, hq⟩ : ∃ q, min (n : Int) (ee + 1021) = q := ⟨_, rfl⟩
  have e3 := e1 (ee + 1021)
  rw [hq] at e3 ⊢
  obtain ⟨z, hz⟩ : ∃ z, max 0 q = z := ⟨_, rfl⟩
  have e4 := e2 q
  rw [hz] at e4 ⊢
  clear e1 e2 hq hz
  go_enter Tryd.func32, Tryd.ntmps32
  go_wp2_with (go_at_call 37; refine (HF _).mono ?_; rintro e w1 ⟨v, rfl, rfl⟩)
  go_ret
  exact ⟨rfl, rfl⟩
/-- What Ldexp needs: the number made normal, its exponent, and the new one. -/
theorem ldexp_calls {x k : Nat} (h : FinW x) (h0 : rung x ≠ 0) (hk : k ≤ 3000) {E m y e : Nat} (hE : rung (nrmF x) / 4503599627370496 = E) (hge : -1075 ≤ nrmE x + E - 1023 - k)
    (hm : (m = 4607182418800017408 ∧ -1022 ≤ nrmE x + E - 1023 - k ∧ (e : Int) = nrmE x + E - k) ∨ (m = 4368491638549381120 ∧ nrmE x + E - 1023 - k < -1022 ∧ (e : Int) = nrmE x + E - k + 53))
    (hmul : Ieee.double.mul m (Ieee.double.word (sgn x) (e * 4503599627370496 + rung (nrmF x) % 4503599627370496)) = some y) (w : World) : Calls Tryd.prog 39 #[.float .f64 x, .int .i64 (-(k : Int))] w fun e w' => e = .returned (.float .f64 y) ∧ w = w' := by
  have he := eq_zero h
  rw [decide_eq_false h0] at he
  have HI := isinf_calls h.2
  rw [decide_eq_false (fin_ninf h)] at HI
  have HN := isnan_calls x
  rw [decide_eq_true (fin_num h)] at HN
  have HM := normalize_calls h h0
  obtain ⟨n1, n2, n3, n4, n5⟩ := nrm_bd h h0
  have hf := fun b w => from_run b w
  have hb := fun b w => bits_run b w
  have hr63 := rung_lt (nrmF x)
  have hnx := bits_noexp (sgn x) hr63
  have hlt : rung (nrmF x) % 4503599627370496 < 4503599627370496 := Nat.mod_lt _ (by decide)
  have hwo := word_of n1.2
  rw [n2] at hwo
  rw [hwo] at hnx
  rw [hE] at n4 n5
  have he2 : e < 2048 := by omega
  have hex := bits_exp (sgn x) (f := rung (nrmF x) % 4503599627370496) (e := e) hlt he2
  have hbx : Go.bits .and .i64 (((nrmF x : Nat) : Int) / 4503599627370496) 2047 = (E : Int) := by
    have e1 : ((nrmF x : Nat) : Int) / 4503599627370496 = ((nrmF x / 4503599627370496 : Nat) : Int) := by omega
    have := Flo.bits_mask (((nrmF x : Nat) : Int) / 4503599627370496) 11 (by decide)
    rw [show (((2 ^ 11 - 1 : Nat) : Nat) : Int) = 2047 from rfl] at this
    rw [this, show (((2 ^ 11 : Nat) : Nat) : Int) = 2048 from rfl, e1, ← hE]
    unfold rung
    omega
  have hy0 : 0 ≤ ((nrmF x : Nat) : Int) / 4503599627370496 ∧ ((nrmF x : Nat) : Int) / 4503599627370496 ≤ 4096 := by have := n1.2; omega
  have hmr := fun w => run_float_arith (P := Tryd.prog) w .mul 22 .f64 m _ _ hmul
  generalize Ieee.double.word (sgn x) (e * 4503599627370496 + rung (nrmF x) % 4503599627370496) = z at *
  generalize Ieee.double.word (sgn x) (rung (nrmF x) % 4503599627370496) = z0 at *
  have hzt : ((z : Nat) : Int).toNat = z := Int.toNat_natCast z
  generalize nrmF x = yy at *
  generalize nrmE x = ee at *
  clear hE hr63 hwo n1 n2 h0 hlt hmul
  rcases hm with ⟨rfl, hm2, hm3⟩ | ⟨rfl, hm2, hm3⟩
  · have hex1 : Go.bits .or .u64 (z0 : Int) ((-(k : Int) + ee + ((E : Int) - 1023) + 1023) * 4503599627370496) = (z : Int) := by
      rw [← hex, Int.natCast_mul, hm3]
      congr 1
      omega
    clear hex
    go_enter Tryd.func39, Tryd.ntmps39
    go_wp2_with (first | (go_at_call 22; refine (HI _).mono ?_; rintro e w1 ⟨rfl, rfl⟩) | (go_at_call 24; refine (HN _).mono ?_; rintro e w1 ⟨rfl, rfl⟩) | (go_at_call 43; refine (HM _).mono ?_; rintro e w1 ⟨rfl, rfl⟩))
    go_ret
    exact ⟨rfl, rfl⟩
  · have hex1 : Go.bits .or .u64 (z0 : Int) ((-(k : Int) + ee + ((E : Int) - 1023) + 53 + 1023) * 4503599627370496) = (z : Int) := by
      rw [← hex, Int.natCast_mul, hm3]
      congr 1
      omega
    clear hex
    go_enter Tryd.func39, Tryd.ntmps39
    go_wp2_with (first | (go_at_call 22; refine (HI _).mono ?_; rintro e w1 ⟨rfl, rfl⟩) | (go_at_call 24; refine (HN _).mono ?_; rintro e w1 ⟨rfl, rfl⟩) | (go_at_call 43; refine (HM _).mono ?_; rintro e w1 ⟨rfl, rfl⟩))
    go_ret
    exact ⟨rfl, rfl⟩
end Go.Proofs.YthlllmnlcjkiiaaDoor.Cho
