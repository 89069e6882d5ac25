/- math on words: bits, Inf, NaN, Abs, IsInf; score.Clamp. Own work of this seat; no condition. -/
import Derived.Test.YthlllmnlcjkiiaaDoorCho3a
namespace Go.Proofs.YthlllmnlcjkiiaaDoor.Cho
open Go.RowKit Go.Proofs.YthlllmnlcjkiiaaDoor.Kit Go.Proofs.YthlllmnlcjkiiaaDoor.Flo
set_option linter.unusedVariables false
set_option linter.unusedSimpArgs false

theorem from_run (b : Int) (w : World) : (callFunc 21 #[.int .u64 b]).run Tryd.prog w = .ok (.value (.float .f64 b.toNat)) w := by
  rw [run_callFunc_extern Tryd.func21 (by kernel_rfl) (by kernel_rfl) (by kernel_rfl) (show Extern.find _ = some Extern.MathFloatBits.float64frombits by kernel_rfl)]
  rfl
theorem bits_run (b : Nat) (w : World) : (callFunc 28 #[.float .f64 b]).run Tryd.prog w = .ok (.value (.int .u64 (b : Int))) w := by
  rw [run_callFunc_extern Tryd.func28 (by kernel_rfl) (by kernel_rfl) (by kernel_rfl) (show Extern.find _ = some Extern.MathFloatBits.float64bits by kernel_rfl)]
  rfl
theorem inf_calls (w : World) : Calls Tryd.prog 36 #[.int .i64 1] w fun e w' => e = .returned (.float .f64 9218868437227405312) ∧ w = w' := by
  have hf := fun b w => from_run b w
  go_enter Tryd.func36, Tryd.ntmps36
  go_wp2
  go_ret
  exact ⟨rfl, rfl⟩
theorem nan_calls (w : World) : Calls Tryd.prog 20 #[] w fun e w' => e = .returned (.float .f64 9221120237041090561) ∧ w = w' := by
  have hf := fun b w => from_run b w
  go_enter Tryd.func20, Tryd.ntmps20
  go_wp2
  go_ret
  exact ⟨rfl, rfl⟩
theorem rung_lt (x : Nat) : rung x < 9223372036854775808 := Nat.mod_lt _ (by decide)
/-- The bits but the sign. -/
theorem bits_abs {x : Nat} (hx : x < 18446744073709551616) : Go.bits .andNot .u64 (x : Int) 9223372036854775808 = (rung x : Int) := by
  have h1 : (BitVec.ofInt 64 (x : Int)).toNat = x := by rw [BitVec.toNat_ofInt]; omega
  have h2 : (~~~(BitVec.ofInt 64 9223372036854775808)).toNat = 2 ^ 63 - 1 := by decide
  show IntKind.u64.wrap ((BitVec.ofInt 64 (x : Int) &&& ~~~(BitVec.ofInt 64 9223372036854775808)).toNat : Nat) = _
  rw [BitVec.toNat_and, h1, h2, Nat.and_two_pow_sub_one_eq_mod]
  have := rung_lt x
  unfold rung at this ⊢
  show IntKind.u64.wrap ((x % 9223372036854775808 : Nat) : Int) = _
  have h3 : ∀ z : Int, 0 ≤ z → z < 9223372036854775808 → IntKind.u64.wrap z = z := fun z h0 h => by
    unfold IntKind.wrap
    simp only [IntKind.bits, IntKind.signed, Bool.false_and, Bool.false_eq_true, if_false]
    omega
  exact h3 _ (by omega) (by omega)
theorem abs_calls {x : Nat} (hx : x < 18446744073709551616) (w : World) : Calls Tryd.prog 35 #[.float .f64 x] w fun e w' => e = .returned (.float .f64 (rung x)) ∧ w = w' := by
  have hf := fun b w => from_run b w
  have hb := fun b w => bits_run b w
  have ha := bits_abs hx
  have ht : ((rung x : Nat) : Int).toNat = rung x := Int.toNat_natCast _
  generalize rung x = r at *
  go_enter Tryd.func35, Tryd.ntmps35
  go_wp2
  go_ret
  exact ⟨rfl, rfl⟩
theorem gt_max {r : Nat} (h : r < 9223372036854775808) : (FloatKind.f64.format.order r 9218868437227405311 == some .gt) = decide (r = 9218868437227405312) := by
  obtain ⟨k1, k2⟩ := key_norm h
  obtain ⟨m1, m2⟩ := key_norm (show 9218868437227405311 < 9223372036854775808 by omega)
  have hm : Num 9218868437227405311 := by decide
  rw [fmt64]
  by_cases hn : Num r
  · rw [order_num hn hm, k1, m1, cmp_int]
    unfold Num at hn
    rw [k2] at hn
    by_cases e : r = 9218868437227405312
    · subst e; rfl
    · rw [decide_eq_false e]
      by_cases l : (r : Int) < ((9218868437227405311 : Nat) : Int)
      · rw [if_pos l]; rfl
      · rw [if_neg l, if_pos (by omega)]; rfl
  · rw [order_nan (.inl hn), decide_eq_false]
    · rfl
    · rintro rfl
      exact hn (by decide)
theorem isinf_calls {x : Nat} (hx : x < 18446744073709551616) (w : World) : Calls Tryd.prog 22 #[.float .f64 x, .int .i64 0] w fun e w' => e = .returned (.bool (decide (rung x = 9218868437227405312))) ∧ w = w' := by
  have HA := abs_calls hx
  have hg := gt_max (rung_lt x)
  generalize rung x = r at *
  generalize decide (r = 9218868437227405312) = d at *
  go_enter Tryd.func22, Tryd.ntmps22
  go_wp2_with (go_at_call 35; refine (HA _).mono ?_; rintro e w1 ⟨rfl, rfl⟩)
  go_ret
  exact ⟨rfl, rfl⟩
theorem isinf1_calls {r : Nat} (h : r < 9223372036854775808) (w : World) : Calls Tryd.prog 22 #[.float .f64 r, .int .i64 1] w fun e w' => e = .returned (.bool (decide (r = 9218868437227405312))) ∧ w = w' := by
  have hg := gt_max h
  generalize decide (r = 9218868437227405312) = d at *
  go_enter Tryd.func22, Tryd.ntmps22
  go_wp2
  go_ret
  exact ⟨rfl, rfl⟩
/-- Between both. -/
def clampF (x lo hi : Nat) : Nat := plainF (if rk hi < rk x then hi else if rk x < rk lo then lo else x)
set_option maxHeartbeats 1000000 in
theorem clamp_calls (x lo hi : Nat) (w : World) : Calls Tryd.prog 26 #[.float .f64 x, .float .f64 lo, .float .f64 hi] w fun e w' => e = .returned (.float .f64 (clampF x lo hi)) ∧ w = w' := by
  have H1 := cmp_calls x hi
  have H2 := cmp_calls x lo
  rw [cmp_rk] at H1 H2
  have HP := fun y w => plain_calls y w
  unfold clampF
  by_cases h1 : rk hi < rk x
  · rw [if_pos h1]
    rw [if_neg (by omega), if_pos h1] at H1
    have HP1 := HP hi
    generalize plainF hi = r at *
    clear H2 h1 HP
    go_enter Tryd.func26, Tryd.ntmps26
    go_wp2_with (first | (go_at_call 9; refine (H1 _).mono ?_; rintro e w1 ⟨rfl, rfl⟩) | (go_at_call 27; refine (HP1 _).mono ?_; rintro e w1 ⟨rfl, rfl⟩))
    go_ret
    exact ⟨rfl, rfl⟩
  · rw [if_neg h1]
    obtain ⟨c1, hc1, hn1⟩ : ∃ c, (if rk x < rk hi then (-1 : Int) else if rk hi < rk x then 1 else 0) = c ∧ ¬ 0 < c := ⟨_, rfl, by split <;> first | omega | (rw [if_neg h1]; omega)⟩
    rw [hc1] at H1
    have q1 : (0 < c1) = False := eq_false hn1
    clear hc1 h1
    by_cases h2 : rk x < rk lo
    · rw [if_pos h2]
      rw [if_pos h2] at H2
      have HP1 := HP lo
      generalize plainF lo = r at *
      clear h2 HP hn1
      go_enter Tryd.func26, Tryd.ntmps26
      go_wp2_with (first | (go_at_call_of 9 (Value.float .f64 hi); refine (H1 _).mono ?_; rintro e w1 ⟨rfl, rfl⟩) | (go_at_call 9; refine (H2 _).mono ?_; rintro e w1 ⟨rfl, rfl⟩) | (go_at_call 27; refine (HP1 _).mono ?_; rintro e w1 ⟨rfl, rfl⟩))
      go_ret
      exact ⟨rfl, rfl⟩
    · rw [if_neg h2]
      rw [if_neg h2] at H2
      obtain ⟨c2, hc2, hn2⟩ : ∃ c, (if rk lo < rk x then (1 : Int) else 0) = c ∧ ¬ c < 0 := ⟨_, rfl, by split <;> omega⟩
      rw [hc2] at H2
      have q2 : (c2 < 0) = False := eq_false hn2
      have HP1 := HP x
      generalize plainF x = r at *
      clear h2 HP hn1 hn2 hc2
      go_enter Tryd.func26, Tryd.ntmps26
      go_wp2_with (first | (go_at_call_of 9 (Value.float .f64 hi); refine (H1 _).mono ?_; rintro e w1 ⟨rfl, rfl⟩) | (go_at_call 9; refine (H2 _).mono ?_; rintro e w1 ⟨rfl, rfl⟩) | (go_at_call 27; refine (HP1 _).mono ?_; rintro e w1 ⟨rfl, rfl⟩))
      go_ret
      exact ⟨rfl, rfl⟩
end Go.Proofs.YthlllmnlcjkiiaaDoor.Cho
