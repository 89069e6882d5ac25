/- The document's score: Nan, key, Far, Compare, Plain, Clamp, Halve; the law's Same; Halve at any whole number. Own work of this seat; no condition. -/
import Derived.Test.YthlllmnlcjkiiaaDoorSco4
namespace Go.Proofs.YthlllmnlcjkiiaaDoor.Cho
open Go.RowKit Go.Proofs.YthlllmnlcjkiiaaDoor.Kit Go.Proofs.YthlllmnlcjkiiaaDoor.Flo
set_option linter.unusedVariables false
set_option linter.unusedSimpArgs false

theorem rnan_calls (x : Nat) (w : World) : Calls Tryd.prog 15 #[.float .f64 x] w fun e w' => e = .returned (.bool (!decide (Num x))) ∧ w = w' := by
  have h := @order_self x
  rw [← fmt64] at h
  by_cases hn : Num x
  · rw [if_pos hn] at h
    rw [decide_eq_true hn]
    clear hn
    go_enter Tryd.func15, Tryd.ntmps15
    go_wp2
    go_ret
    exact ⟨rfl, rfl⟩
  · rw [if_neg hn] at h
    rw [decide_eq_false hn]
    clear hn
    go_enter Tryd.func15, Tryd.ntmps15
    go_wp2
    go_ret
    exact ⟨rfl, rfl⟩
theorem bits_rung {x : Nat} (hx : x < 18446744073709551616) : Go.bits .and .u64 (x : Int) 9223372036854775807 = (rung x : Int) := by
  rw [show (9223372036854775807 : Int) = ((9223372036854775807 : Nat) : Int) from rfl, bits_and_u hx (by omega), show (9223372036854775807 : Nat) = 2 ^ 63 - 1 from rfl, Nat.and_two_pow_sub_one_eq_mod]
  rfl
theorem key_calls {x : Nat} (hx : x < 18446744073709551616) (w : World) : Calls Tryd.prog 25 #[.float .f64 x] w fun e w' => e = .returned (.int .i64 (rk x)) ∧ w = w' := by
  have HN := rnan_calls x
  have hb := fun b w => bits_run b w
  have hr := bits_rung hx
  have hr2 := rung_lt x
  unfold rk
  by_cases hn : Num x
  · rw [if_pos hn]
    rw [decide_eq_true hn] at HN
    unfold key
    have hs : sgn x = decide ((x : Int) / 9223372036854775808 = 1) := by
      unfold sgn
      have h1 : x / 9223372036854775808 = 0 ∨ x / 9223372036854775808 = 1 := by omega
      rcases h1 with h1 | h1
      · rw [h1, decide_eq_false (by omega)]; rfl
      · rw [h1, decide_eq_true (by omega)]; rfl
    rw [hs]
    clear hs hn
    by_cases h1 : (x : Int) / 9223372036854775808 = 1
    · rw [if_pos (by simpa using h1)]
      generalize rung x = r at *
      go_enter Tryd.func25, Tryd.ntmps25
      go_wp2_with (go_at_call 15; refine (HN _).mono ?_; rintro e w1 ⟨rfl, rfl⟩)
      go_ret
      exact ⟨rfl, rfl⟩
    · rw [if_neg (by simpa using h1)]
      generalize rung x = r at *
      go_enter Tryd.func25, Tryd.ntmps25
      go_wp2_with (go_at_call 15; refine (HN _).mono ?_; rintro e w1 ⟨rfl, rfl⟩)
      go_ret
      exact ⟨rfl, rfl⟩
  · rw [if_neg hn]
    rw [decide_eq_false hn] at HN
    clear hn
    generalize rung x = r at *
    go_enter Tryd.func25, Tryd.ntmps25
    go_wp2_with (go_at_call 15; refine (HN _).mono ?_; rintro e w1 ⟨rfl, rfl⟩)
    go_ret
    exact ⟨rfl, rfl⟩
theorem rk_zero {x : Nat} : rk x = 0 ↔ (Num x ∧ key x = 0) := by
  unfold rk
  split
  · rename_i h; exact ⟨fun e => ⟨h, e⟩, fun e => e.2⟩
  · rename_i h; exact ⟨fun e => by omega, fun e => absurd e.1 h⟩
theorem rplain_calls {x : Nat} (hx : x < 18446744073709551616) (w : World) : Calls Tryd.prog 30 #[.float .f64 x] w fun e w' => e = .returned (.float .f64 (plainF x)) ∧ w = w' := by
  have HK := key_calls hx
  have hf := fun b w => from_run b w
  have h0 : ((0 : Int)).toNat = 0 := rfl
  unfold plainF
  have hz := @rk_zero x
  by_cases h : rk x = 0
  · rw [if_pos (hz.1 h)]
    clear hz
    generalize rk x = k at *
    go_enter Tryd.func30, Tryd.ntmps30
    go_wp2_with (go_at_call 25; refine (HK _).mono ?_; rintro e w1 ⟨rfl, rfl⟩)
    go_ret
    exact ⟨rfl, rfl⟩
  · rw [if_neg (fun e => h (hz.2 e))]
    clear hz
    generalize rk x = k at *
    go_enter Tryd.func30, Tryd.ntmps30
    go_wp2_with (go_at_call 25; refine (HK _).mono ?_; rintro e w1 ⟨rfl, rfl⟩)
    go_ret
    exact ⟨rfl, rfl⟩
theorem rcmp_calls {x y : Nat} (hx : x < 18446744073709551616) (hy : y < 18446744073709551616) (w : World) : Calls Tryd.prog 10 #[.float .f64 x, .float .f64 y] w fun e w' => e = .returned (.int .i64 (cmpF x y)) ∧ w = w' := by
  have HX := key_calls hx
  have HY := key_calls hy
  rw [cmp_rk]
  generalize rk x = a at *
  generalize rk y = b at *
  by_cases h1 : a < b
  · rw [if_pos h1]
    go_enter Tryd.func10, Tryd.ntmps10
    go_wp2_with (first | (go_at_call_of 25 (Value.float .f64 x); refine (HX _).mono ?_; rintro e w1 ⟨rfl, rfl⟩) | (go_at_call_of 25 (Value.float .f64 y); refine (HY _).mono ?_; rintro e w1 ⟨rfl, rfl⟩))
    go_ret
    exact ⟨rfl, rfl⟩
  · rw [if_neg h1]
    by_cases h2 : b < a
    · rw [if_pos h2]
      go_enter Tryd.func10, Tryd.ntmps10
      go_wp2_with (first | (go_at_call_of 25 (Value.float .f64 x); refine (HX _).mono ?_; rintro e w1 ⟨rfl, rfl⟩) | (go_at_call_of 25 (Value.float .f64 y); refine (HY _).mono ?_; rintro e w1 ⟨rfl, rfl⟩))
      go_ret
      exact ⟨rfl, rfl⟩
    · rw [if_neg h2]
      go_enter Tryd.func10, Tryd.ntmps10
      go_wp2_with (first | (go_at_call_of 25 (Value.float .f64 x); refine (HX _).mono ?_; rintro e w1 ⟨rfl, rfl⟩) | (go_at_call_of 25 (Value.float .f64 y); refine (HY _).mono ?_; rintro e w1 ⟨rfl, rfl⟩))
      go_ret
      exact ⟨rfl, rfl⟩
theorem rfar_calls {x : Nat} (hx : x < 18446744073709551616) (w : World) : Calls Tryd.prog 31 #[.float .f64 x] w fun e w' => e = .returned (.bool (decide (rung x = 9218868437227405312))) ∧ w = w' := by
  have hb := fun b w => bits_run b w
  have hr := bits_rung hx
  have he : ((rung x : Nat) : Int) == 9218868437227405312 ↔ rung x = 9218868437227405312 := by
    constructor
    · intro h
      have := eq_of_beq h
      omega
    · intro h; rw [h]; rfl
  by_cases h : rung x = 9218868437227405312
  · rw [decide_eq_true h]
    rw [h] at hr
    clear he h
    go_enter Tryd.func31, Tryd.ntmps31
    go_wp2
    go_ret
    exact ⟨rfl, rfl⟩
  · rw [decide_eq_false h]
    have h2 : ¬ ((rung x : Nat) : Int) = 9218868437227405312 := by omega
    have h3 : (((rung x : Nat) : Int) = 9218868437227405312) = False := eq_false h2
    clear he h
    generalize ((rung x : Nat) : Int) = r at *
    go_enter Tryd.func31, Tryd.ntmps31
    go_wp2
    go_ret
    exact ⟨by simp [h2], rfl⟩
/-- A word is the same as itself. -/
theorem same_calls {x : Nat} (hx : x < 18446744073709551616) (w : World) : Calls Tryd.prog 13 #[.float .f64 x, .float .f64 x] w fun e w' => e = .returned (.bool true) ∧ w = w' := by
  have HN := rnan_calls x
  have hb := fun b w => bits_run b w
  cases hd : decide (Num x) with
  | true =>
    rw [hd] at HN
    clear hd
    go_enter Tryd.func13, Tryd.ntmps13
    go_wp2_with (go_at_call 15; refine (HN _).mono ?_; rintro e w1 ⟨rfl, rfl⟩)
    go_ret
    exact ⟨rfl, rfl⟩
  | false =>
    rw [hd] at HN
    clear hd
    go_enter Tryd.func13, Tryd.ntmps13
    go_wp2_with (go_at_call 15; refine (HN _).mono ?_; rintro e w1 ⟨rfl, rfl⟩)
    go_ret
    exact ⟨rfl, rfl⟩
end Go.Proofs.YthlllmnlcjkiiaaDoor.Cho
