/- score.Mean and the document's. Own work of this seat; no condition. -/
import Derived.Test.YthlllmnlcjkiiaaDoorSco6
namespace Go.Proofs.YthlllmnlcjkiiaaDoor.Cho
open Go.RowKit Go.Proofs.YthlllmnlcjkiiaaDoor.Kit Go.Proofs.YthlllmnlcjkiiaaDoor.Flo
set_option linter.unusedVariables false
set_option linter.unusedSimpArgs false

theorem nearest_num (s : Bool) (m : Nat) (p : Int) : Num (Ieee.double.nearest s m p) ∧ Ieee.double.nearest s m p < 18446744073709551616 := by
  have h : ∃ r, Ieee.double.nearest s m p = Ieee.double.word s r ∧ r ≤ 9218868437227405312 := by
    unfold Ieee.Format.nearest
    split
    · exact ⟨0, rfl, by omega⟩
    · exact ⟨_, rfl, by rw [d_inf]; omega⟩
  obtain ⟨r, h1, h2⟩ := h
  obtain ⟨_, g2, g3⟩ := sgn_word s (show r < 9223372036854775808 by omega)
  rw [h1]
  exact ⟨by unfold Num; rw [g2]; exact h2, g3⟩
theorem inf_num (s : Bool) : Num (Ieee.double.word s 9218868437227405312) ∧ Ieee.double.word s 9218868437227405312 < 18446744073709551616 := by
  obtain ⟨_, g2, g3⟩ := sgn_word s (show 9218868437227405312 < 9223372036854775808 by omega)
  exact ⟨by unfold Num; rw [g2]; omega, g3⟩
theorem write_inf (s : Bool) : Ieee.double.write (.infinity s) = Ieee.double.word s 9218868437227405312 := by
  show Ieee.double.word s Ieee.double.infRung = _
  rw [d_inf]
theorem sum_number (s t : Bool) (m n : Nat) (i j : Int) : ∃ u k b, Ieee.Datum.sum (.number s m i) (.number t n j) = some (.number u k b) := ⟨_, _, _, rfl⟩
theorem sub_some {a b : Nat} (ha : FinW a) (hb : FinW b) : ∃ d, Ieee.double.sub a b = some d ∧ Num d ∧ d < 18446744073709551616 := by
  unfold Ieee.Format.sub
  rw [read_fin' ha.1, read_fin' hb.1]
  obtain ⟨u, k, c, e⟩ := sum_number (sgn a) (!(sgn b)) (ma (rung a)) (ma (rung b)) (-1074 + (ex (rung a) : Int)) (-1074 + (ex (rung b) : Int))
  have e' : Ieee.Datum.sum (.number (sgn a) (ma (rung a)) (-1074 + (ex (rung a) : Int))) (Ieee.Datum.opposite (.number (sgn b) (ma (rung b)) (-1074 + (ex (rung b) : Int)))) = some (.number u k c) := e
  rw [e', Option.map_some, write_number]
  exact ⟨_, rfl, nearest_num u k c⟩
theorem ma_ne {r : Nat} (h : r ≠ 0) : ma r ≠ 0 := by
  unfold ma
  split <;> omega
theorem mul_some {a d : Nat} (ha : FinW a) (h0 : rung a ≠ 0) (hd : Num d) : ∃ p, Ieee.double.mul a d = some p ∧ Num p ∧ p < 18446744073709551616 := by
  unfold Ieee.Format.mul
  rw [read_fin' ha.1]
  by_cases hf : rung d < 9218868437227405312
  · rw [read_fin' hf, product_number, Option.map_some, write_number]
    exact ⟨_, rfl, nearest_num _ _ _⟩
  · have hi : rung d = 9218868437227405312 := by have := num_of_rung.1 hd; omega
    rw [read_inf hi]
    have e : Ieee.Datum.product (.number (sgn a) (ma (rung a)) (-1074 + (ex (rung a) : Int))) (.infinity (sgn d)) = some (.infinity (sgn d ^^ sgn a)) := by
      show (if ma (rung a) = 0 then none else some (Ieee.Datum.infinity (sgn d ^^ sgn a))) = _
      rw [if_neg (ma_ne h0)]
    rw [e, Option.map_some, write_inf]
    exact ⟨_, rfl, inf_num _⟩
theorem add_some {a p : Nat} (ha : FinW a) (hp : Num p) : ∃ x, Ieee.double.add a p = some x ∧ Num x ∧ x < 18446744073709551616 := by
  unfold Ieee.Format.add
  rw [read_fin' ha.1]
  by_cases hf : rung p < 9218868437227405312
  · rw [read_fin' hf]
    obtain ⟨u, k, c, e⟩ := sum_number (sgn a) (sgn p) (ma (rung a)) (ma (rung p)) (-1074 + (ex (rung a) : Int)) (-1074 + (ex (rung p) : Int))
    rw [e, Option.map_some, write_number]
    exact ⟨_, rfl, nearest_num u k c⟩
  · have hi : rung p = 9218868437227405312 := by have := num_of_rung.1 hp; omega
    rw [read_inf hi]
    have e : Ieee.Datum.sum (.number (sgn a) (ma (rung a)) (-1074 + (ex (rung a) : Int))) (.infinity (sgn p)) = some (.infinity (sgn p)) := rfl
    rw [e, Option.map_some, write_inf]
    exact ⟨_, rfl, inf_num _⟩
theorem key_inj {a b : Nat} (ha : a < 18446744073709551616) (hb : b < 18446744073709551616) (h : key a = key b) (h0 : key a ≠ 0) : a = b := by
  rw [← word_of ha, ← word_of hb]
  unfold key at h h0
  have hs : sgn a = sgn b := by
    cases ha' : sgn a <;> cases hb' : sgn b <;> simp [ha', hb'] at h h0 ⊢ <;> omega
  have hr : rung a = rung b := by
    rw [hs] at h
    split at h <;> omega
  rw [hs, hr]
theorem plain_rk {a b : Nat} (ha : a < 18446744073709551616) (hb : b < 18446744073709551616) (na : Num a) (nb : Num b) (h : rk a = rk b) : plainF a = plainF b := by
  unfold rk at h
  rw [if_pos na, if_pos nb] at h
  unfold plainF
  by_cases h0 : key a = 0
  · rw [if_pos ⟨na, h0⟩, if_pos ⟨nb, by omega⟩]
  · rw [if_neg (fun e => h0 e.2), if_neg (fun e => h0 (by omega)), key_inj ha hb h h0]
def minF (x y : Nat) : Nat := if rk x < rk y then x else if rk y < rk x then y else if sgn x then x else y
def maxF (x y : Nat) : Nat := if rk x < rk y then y else if rk y < rk x then x else if sgn x then y else x
theorem clamp_minmax {x a b : Nat} (ha : a < 18446744073709551616) (hb : b < 18446744073709551616) (na : Num a) (nb : Num b) : clampF x (minF a b) (maxF a b) = if rk a < rk b then clampF x a b else clampF x b a := by
  unfold minF maxF
  by_cases h1 : rk a < rk b
  · rw [if_pos h1, if_pos h1, if_pos h1]
  · rw [if_neg h1, if_neg h1, if_neg h1]
    by_cases h2 : rk b < rk a
    · rw [if_pos h2, if_pos h2]
    · rw [if_neg h2, if_neg h2]
      have he : rk a = rk b := by omega
      have hp := plain_rk ha hb na nb he
      split
      · unfold clampF
        rw [he]
        split
        · exact hp.symm
        · split
          · exact hp
          · rfl
      · rfl
theorem order_rk {x y : Nat} (hx : Num x) (hy : Num y) : FloatKind.f64.format.order x y = some (compare (rk x) (rk y)) := by
  rw [fmt64, order_num hx hy]
  unfold rk
  rw [if_pos hx, if_pos hy]
theorem read_neg {x : Nat} (hx : Num x) : (FloatKind.f64.decode x).neg = sgn x := by
  show (Ieee.double.read x).neg = _
  by_cases h : rung x < 9218868437227405312
  · rw [read_fin' h]; rfl
  · rw [read_inf (by have := num_of_rung.1 hx; omega)]; rfl
theorem min2_run {x y : Nat} (hx : Num x) (hy : Num y) (w : World) : (Builtin.min2 (.float .f64 x) (.float .f64 y)).run Tryd.prog w = .ok (.float .f64 (minF x y)) w := by
  unfold Builtin.min2 minF
  simp only [order_rk hx hy, read_neg hx, cmp_int]
  by_cases h1 : rk x < rk y
  · rw [if_pos h1, if_pos h1]; rfl
  · rw [if_neg h1, if_neg h1]
    by_cases h2 : rk x = rk y
    · rw [if_pos h2, if_neg (show ¬ rk y < rk x by omega)]; rfl
    · rw [if_neg h2, if_pos (show rk y < rk x by omega)]; rfl
theorem max2_run {x y : Nat} (hx : Num x) (hy : Num y) (w : World) : (Builtin.max2 (.float .f64 x) (.float .f64 y)).run Tryd.prog w = .ok (.float .f64 (maxF x y)) w := by
  unfold Builtin.max2 maxF
  simp only [order_rk hx hy, read_neg hx, cmp_int]
  by_cases h1 : rk x < rk y
  · rw [if_pos h1, if_pos h1]; rfl
  · rw [if_neg h1, if_neg h1]
    by_cases h2 : rk x = rk y
    · rw [if_pos h2, if_neg (show ¬ rk y < rk x by omega)]; rfl
    · rw [if_neg h2, if_pos (show rk y < rk x by omega)]; rfl
/-- The mean. -/
structure MeanOf (old sample share m : Nat) : Prop where
  lt : m < 18446744073709551616
  nan1 : ¬ Num old → m = plainF sample
  nan2 : Num old → ¬ Num sample → m = plainF old
  mid : Num old → Num sample → m = plainF old ∨ m = plainF sample ∨ ∃ x, m = (if rk old < rk sample then clampF x old sample else clampF x sample old)
theorem rclamp_calls {x lo hi : Nat} (hx : x < 18446744073709551616) (hl : lo < 18446744073709551616) (hh : hi < 18446744073709551616) (w : World) : Calls Tryd.prog 29 #[.float .f64 x, .float .f64 lo, .float .f64 hi] w fun e w' => e = .returned (.float .f64 (clampF x lo hi)) ∧ w = w' := by
  have HX := key_calls hx
  have HL := key_calls hl
  have HH := key_calls hh
  have PX := rplain_calls hx
  have PL := rplain_calls hl
  have PH := rplain_calls hh
  unfold clampF
  generalize rk x = a at *
  generalize rk lo = b at *
  generalize rk hi = c at *
  by_cases h1 : c < a
  · rw [if_pos h1]
    generalize plainF hi = r at *
    go_enter Tryd.func29, Tryd.ntmps29
    go_wp2_with (first | (go_at_call_of 25 (Value.float .f64 x); refine (HX _).mono ?_; rintro e w1 ⟨rfl, rfl⟩) | (go_at_call_of 25 (Value.float .f64 hi); refine (HH _).mono ?_; rintro e w1 ⟨rfl, rfl⟩) | (go_at_call 30; refine (PH _).mono ?_; rintro e w1 ⟨rfl, rfl⟩))
    go_ret
    exact ⟨rfl, rfl⟩
  · rw [if_neg h1]
    have q1 : (c < a) = False := eq_false h1
    by_cases h2 : a < b
    · rw [if_pos h2]
      generalize plainF lo = r at *
      go_enter Tryd.func29, Tryd.ntmps29
      go_wp2_with (first | (go_at_call_of 25 (Value.float .f64 x); refine (HX _).mono ?_; rintro e w1 ⟨rfl, rfl⟩) | (go_at_call_of 25 (Value.float .f64 hi); refine (HH _).mono ?_; rintro e w1 ⟨rfl, rfl⟩) | (go_at_call_of 25 (Value.float .f64 lo); refine (HL _).mono ?_; rintro e w1 ⟨rfl, rfl⟩) | (go_at_call 30; refine (PL _).mono ?_; rintro e w1 ⟨rfl, rfl⟩))
      go_ret
      exact ⟨rfl, rfl⟩
    · rw [if_neg h2]
      have q2 : (a < b) = False := eq_false h2
      generalize plainF x = r at *
      go_enter Tryd.func29, Tryd.ntmps29
      go_wp2_with (first | (go_at_call_of 25 (Value.float .f64 x); refine (HX _).mono ?_; rintro e w1 ⟨rfl, rfl⟩) | (go_at_call_of 25 (Value.float .f64 hi); refine (HH _).mono ?_; rintro e w1 ⟨rfl, rfl⟩) | (go_at_call_of 25 (Value.float .f64 lo); refine (HL _).mono ?_; rintro e w1 ⟨rfl, rfl⟩) | (go_at_call 30; refine (PX _).mono ?_; rintro e w1 ⟨rfl, rfl⟩))
      go_ret
      exact ⟨rfl, rfl⟩
/-- A share lies between 0 and 1. -/
theorem share_bd (s : Nat) (hs : s < 18446744073709551616) : clampF s 0 4607182418800017408 < 18446744073709551616 ∧ Num (clampF s 0 4607182418800017408) ∧ rung (clampF s 0 4607182418800017408) < 9218868437227405312 := by
  have h1 : rk 4607182418800017408 = 4607182418800017408 := by decide
  have h0 : rk 0 = 0 := by decide
  unfold clampF
  rw [h1, h0]
  split
  · refine ⟨?_, ?_, ?_⟩ <;> decide
  · split
    · refine ⟨?_, ?_, ?_⟩ <;> decide
    · rename_i a b
      have hn : Num s := by
        refine Classical.byContradiction fun h => ?_
        have : rk s = 9223372036854775807 := by unfold rk; rw [if_neg h]
        omega
      have hk : rk s = key s := by unfold rk; rw [if_pos hn]
      have hr : rung s ≤ 4607182418800017408 := by
        unfold key at hk
        split at hk <;> omega
      unfold plainF
      split
      · refine ⟨?_, ?_, ?_⟩ <;> decide
      · exact ⟨hs, hn, by omega⟩
end Go.Proofs.YthlllmnlcjkiiaaDoor.Cho
