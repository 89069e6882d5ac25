/- score: Load at a positive weight. Own work of this seat; no condition. -/
import Derived.Test.YthlllmnlcjkiiaaCho1
namespace Go.Proofs.Ythlllmnlcjkiiaa.Cho
open Go.RowKit Go.Proofs.Ythlllmnlcjkiiaa.Kit Go.Proofs.Ythlllmnlcjkiiaa.Flo
set_option linter.unusedVariables false
set_option linter.unusedSimpArgs false

def one : Nat := 4607182418800017408
/-- The load of one that has b to do, of weight k, if all take the same time. -/
def loadW (b k : Nat) : Nat := (Ieee.double.div (wordN (b + 1)) (wordN k)).getD 0
theorem loadW_some {b k : Nat} (hb : b ≤ 65535) (h1 : 1 ≤ k) (hk : k ≤ 32768) : Ieee.double.div (wordN (b + 1)) (wordN k) = some (loadW b k) ∧ Quo (b + 1) k (loadW b k) := by
  obtain ⟨r, h, hq⟩ := div_word (B := b + 1) (W := k) (by omega) (log2_small (by omega)) (by omega) (log2_small (by omega))
  unfold loadW
  rw [h]
  exact ⟨rfl, hq⟩
theorem loadW_pos {b k : Nat} (hb : b ≤ 65535) (h1 : 1 ≤ k) (hk : k ≤ 32768) : 0 < loadW b k ∧ loadW b k < 9218868437227405312 := by
  obtain ⟨M, _, _, h, _, _, h0⟩ := (loadW_some hb h1 hk).2.near (by omega) (log2_small (by omega)) (log2_small (by omega))
  exact ⟨h0, h⟩
theorem plain_pos {r : Nat} (h0 : 0 < r) (h : r < 9218868437227405312) : plainF r = r := by
  unfold plainF
  rw [if_neg]
  rintro ⟨_, h1⟩
  rw [(key_norm (by omega)).1] at h1
  omega
theorem cmp_one_zero : cmpF one 0 = 1 := by decide
set_option maxHeartbeats 1000000 in
theorem load_even {b k : Nat} (hb : b ≤ 65535) (h1 : 1 ≤ k) (hk : k ≤ 32768) (w : World) : Calls Try.prog 15 #[.int .i64 (b : Int), .int .i64 (k : Int), .float .f64 one] w fun e w' => e = .returned (.float .f64 (loadW b k)) ∧ w = w' := by
  obtain ⟨hd, _⟩ := loadW_some hb h1 hk
  obtain ⟨p1, p2⟩ := loadW_pos hb h1 hk
  have hp := plain_pos p1 p2
  have hc1 : floatOfInt .f64 ((b : Int) + 1) = wordN (b + 1) := ofInt_pos (n := b + 1) (by omega) (log2_small (by omega))
  have hc2 : floatOfInt .f64 (k : Int) = wordN k := ofInt_pos (n := k) (by omega) (log2_small (by omega))
  have hm := fun w => run_float_arith (P := Try.prog) w .mul 27 .f64 (wordN (b + 1)) one _ (mul_one_word (n := b + 1) (by omega) (log2_small (by omega)))
  have hq := fun w => run_float_arith (P := Try.prog) w .quo 27 .f64 (wordN (b + 1)) (wordN k) _ hd
  have HC := cmp_calls one 0
  rw [cmp_one_zero] at HC
  have HP := plain_calls (loadW b k)
  rw [hp] at HP
  have hk1 : ¬ ((k : Int) < 1) := by omega
  have hmax : (if 0 < b then (b : Int) else 0) = (b : Int) := by split <;> omega
  have hmax2 : (if (0 : Int) < (b : Int) then (b : Int) else 0) = (b : Int) := by split <;> omega
  generalize loadW b k = r at *
  generalize one = on at *
  clear hd p1 p2 hp
  go_enter Try.func15, Try.ntmps15
  go_wp2_with (first | (go_at_call 14; refine (HC _).mono ?_; rintro e w1 ⟨rfl, rfl⟩) | (go_at_call 19; refine (HP _).mono ?_; rintro e w1 ⟨rfl, rfl⟩))
  go_ret
  exact ⟨rfl, rfl⟩
end Go.Proofs.Ythlllmnlcjkiiaa.Cho
