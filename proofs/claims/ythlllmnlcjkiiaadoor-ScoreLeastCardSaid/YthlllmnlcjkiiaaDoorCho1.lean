/- score, on words: IsNaN, Plain, Compare, Load. Own work of this seat; no condition. -/
import Derived.Test.YthlllmnlcjkiiaaDoorWk
import Derived.Test.YthlllmnlcjkiiaaDoorFlat
import Derived.Test.YthlllmnlcjkiiaaDoorFlo2
namespace Go.Proofs.YthlllmnlcjkiiaaDoor.Cho
open Go.RowKit Go.Proofs.YthlllmnlcjkiiaaDoor.Kit Go.Proofs.YthlllmnlcjkiiaaDoor.Flo
set_option linter.unusedVariables false
set_option linter.unusedSimpArgs false

/-- A float is one cell: its store, for the walk. -/
theorem store_flt (P : Program) (w : World) (a : Addr) (m : Mode) (k : FloatKind) (b : Nat) : (store a (.float k b) m).run P w = stored P w a (.float k b) m := run_store P w a _ m rfl
theorem fmt64 : FloatKind.f64.format = Ieee.double := rfl
/-- Which goes ahead. -/
def cmpF (x y : Nat) : Int := if Num x then (if Num y then (if key x < key y then -1 else if key y < key x then 1 else 0) else -1) else if Num y then 1 else 0
theorem isnan_calls (x : Nat) (w : World) : Calls Tryd.prog 24 #[.float .f64 x] w fun e w' => e = .returned (.bool (!decide (Num x))) ∧ w = w' := by
  have h := @order_self x
  rw [← fmt64] at h
  by_cases hn : Num x
  · rw [if_pos hn] at h
    rw [decide_eq_true hn]
    clear hn
    go_enter Tryd.func24, Tryd.ntmps24
    go_wp2
    go_ret
    exact ⟨rfl, rfl⟩
  · rw [if_neg hn] at h
    rw [decide_eq_false hn]
    clear hn
    go_enter Tryd.func24, Tryd.ntmps24
    go_wp2
    go_ret
    exact ⟨rfl, rfl⟩
/-- With a positive zero. -/
def plainF (x : Nat) : Nat := if Num x ∧ key x = 0 then 0 else x
theorem num_zero : Num 0 := by decide
theorem key_zero : key 0 = 0 := by decide
theorem plain_calls (x : Nat) (w : World) : Calls Tryd.prog 27 #[.float .f64 x] w fun e w' => e = .returned (.float .f64 (plainF x)) ∧ w = w' := by
  unfold plainF
  by_cases hn : Num x ∧ key x = 0
  · rw [if_pos hn]
    have h : FloatKind.f64.format.order x 0 = some .eq := by
      rw [fmt64, order_num hn.1 num_zero, hn.2, key_zero]; rfl
    clear hn
    go_enter Tryd.func27, Tryd.ntmps27
    go_wp2
    go_ret
    exact ⟨rfl, rfl⟩
  · rw [if_neg hn]
    have h : (FloatKind.f64.format.order x 0 == some .eq) = false := by
      rw [fmt64]
      by_cases hx : Num x
      · rw [order_num hx num_zero, key_zero, cmp_int]
        have : key x ≠ 0 := fun h => hn ⟨hx, h⟩
        by_cases h : key x < 0
        · rw [if_pos h]; rfl
        · rw [if_neg h, if_neg this]; rfl
      · rw [order_nan (.inl hx)]; rfl
    clear hn
    go_enter Tryd.func27, Tryd.ntmps27
    go_wp2
    go_ret
    exact ⟨rfl, rfl⟩
set_option maxHeartbeats 1000000 in
theorem cmp_calls (x y : Nat) (w : World) : Calls Tryd.prog 9 #[.float .f64 x, .float .f64 y] w fun e w' => e = .returned (.int .i64 (cmpF x y)) ∧ w = w' := by
  have HX := isnan_calls x
  have HY := isnan_calls y
  unfold cmpF
  by_cases hx : Num x
  · rw [decide_eq_true hx] at HX
    rw [if_pos hx]
    by_cases hy : Num y
    · rw [decide_eq_true hy] at HY
      rw [if_pos hy]
      have ho := order_num hx hy
      rw [← fmt64, cmp_int] at ho
      clear hx hy
      by_cases h1 : key x < key y
      · rw [if_pos h1]
        rw [if_pos h1] at ho
        clear h1
        go_enter Tryd.func9, Tryd.ntmps9
        go_wp2_with (first | (go_at_call_of 24 (Value.float .f64 x); refine (HX _).mono ?_; rintro e w1 ⟨rfl, rfl⟩) | (go_at_call_of 24 (Value.float .f64 y); refine (HY _).mono ?_; rintro e w1 ⟨rfl, rfl⟩))
        go_ret
        exact ⟨rfl, rfl⟩
      · rw [if_neg h1]
        rw [if_neg h1] at ho
        by_cases h2 : key x = key y
        · rw [if_pos h2] at ho
          rw [if_neg (by omega)]
          clear h1 h2
          go_enter Tryd.func9, Tryd.ntmps9
          go_wp2_with (first | (go_at_call_of 24 (Value.float .f64 x); refine (HX _).mono ?_; rintro e w1 ⟨rfl, rfl⟩) | (go_at_call_of 24 (Value.float .f64 y); refine (HY _).mono ?_; rintro e w1 ⟨rfl, rfl⟩))
          go_ret
          exact ⟨rfl, rfl⟩
        · rw [if_neg h2] at ho
          rw [if_pos (by omega)]
          clear h1 h2
          go_enter Tryd.func9, Tryd.ntmps9
          go_wp2_with (first | (go_at_call_of 24 (Value.float .f64 x); refine (HX _).mono ?_; rintro e w1 ⟨rfl, rfl⟩) | (go_at_call_of 24 (Value.float .f64 y); refine (HY _).mono ?_; rintro e w1 ⟨rfl, rfl⟩))
          go_ret
          exact ⟨rfl, rfl⟩
    · rw [decide_eq_false hy] at HY
      rw [if_neg hy]
      clear hx hy
      go_enter Tryd.func9, Tryd.ntmps9
      go_wp2_with (first | (go_at_call_of 24 (Value.float .f64 x); refine (HX _).mono ?_; rintro e w1 ⟨rfl, rfl⟩) | (go_at_call_of 24 (Value.float .f64 y); refine (HY _).mono ?_; rintro e w1 ⟨rfl, rfl⟩))
      go_ret
      exact ⟨rfl, rfl⟩
  · rw [decide_eq_false hx] at HX
    rw [if_neg hx]
    by_cases hy : Num y
    · rw [decide_eq_true hy] at HY
      rw [if_pos hy]
      clear hx hy
      go_enter Tryd.func9, Tryd.ntmps9
      go_wp2_with (first | (go_at_call_of 24 (Value.float .f64 x); refine (HX _).mono ?_; rintro e w1 ⟨rfl, rfl⟩) | (go_at_call_of 24 (Value.float .f64 y); refine (HY _).mono ?_; rintro e w1 ⟨rfl, rfl⟩))
      go_ret
      exact ⟨rfl, rfl⟩
    · rw [decide_eq_false hy] at HY
      rw [if_neg hy]
      clear hx hy
      go_enter Tryd.func9, Tryd.ntmps9
      go_wp2_with (first | (go_at_call_of 24 (Value.float .f64 x); refine (HX _).mono ?_; rintro e w1 ⟨rfl, rfl⟩) | (go_at_call_of 24 (Value.float .f64 y); refine (HY _).mono ?_; rintro e w1 ⟨rfl, rfl⟩))
      go_ret
      exact ⟨rfl, rfl⟩
end Go.Proofs.YthlllmnlcjkiiaaDoor.Cho
