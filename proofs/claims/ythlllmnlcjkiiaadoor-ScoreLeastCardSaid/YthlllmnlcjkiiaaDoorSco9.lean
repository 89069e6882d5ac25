/- law 13: awake. Own work of this seat; no condition. -/
import Derived.Test.YthlllmnlcjkiiaaDoorSco8
import Derived.Test.YthlllmnlcjkiiaaDoorSco2
namespace Go.Proofs.YthlllmnlcjkiiaaDoor.Cho
open Go.RowKit Go.Proofs.YthlllmnlcjkiiaaDoor.Kit Go.Proofs.YthlllmnlcjkiiaaDoor.Flo
set_option linter.unusedVariables false
set_option linter.unusedSimpArgs false
attribute [local go_sem] store_flt

theorem load_none (w : World) : Calls Tryd.prog 23 #[.int .i64 1, .int .i64 0, .float .f64 4617315517961601024] w fun e w' => e = .returned (.float .f64 9218868437227405312) ∧ w = w' := by
  have HI := fun w => inf_calls w
  generalize 9218868437227405312 = inf at *
  go_enter Tryd.func23, Tryd.ntmps23
  go_wp2_with (go_at_call 36; refine (HI _).mono ?_; rintro e w1 ⟨rfl, rfl⟩)
  go_ret
  exact ⟨rfl, rfl⟩
theorem rk_nan : rk 9221120237041090561 = 9223372036854775807 := by decide
theorem rk_three : rk 4613937818241073152 = 4613937818241073152 := by decide
theorem rk_minus : rk 9223372036854775808 = 0 := by decide
theorem rk_null : rk 0 = 0 := by decide
theorem least_four {v : Int} (h : LeastOf [9221120237041090561, 4613937818241073152, 9223372036854775808, 0] v) : v = 2 := by
  rcases h with ⟨h, _⟩ | ⟨j, x, rfl, hx, hall⟩
  · cases h
  · have h2 := hall 2 9223372036854775808 rfl
    rw [rk_minus] at h2
    match j, hx with
    | 0, hx =>
      obtain rfl : 9221120237041090561 = x := by simpa using hx
      rw [rk_nan] at h2
      omega
    | 1, hx =>
      obtain rfl : 4613937818241073152 = x := by simpa using hx
      rw [rk_three] at h2
      omega
    | 2, _ => rfl
    | 3, hx =>
      obtain rfl : 0 = x := by simpa using hx
      rw [rk_null] at h2
      have := h2.2 (by omega)
      omega
    | j + 4, hx => simp at hx
theorem seg4 {w : World} {g a b c d : Nat} (hb : Blk w g 22 (flts [a, b, c, d])) : FSeg w 22 1 (some ⟨g, 0, none⟩) 4 4 (flts [a, b, c, d]) :=
  ⟨rfl, .inr ⟨g, _, rfl, hb, Nat.le_refl _, by simp [flts], fun j v hj => by simpa using hj⟩⟩
theorem least4_calls {w : World} {g a b c d : Nat} (hb : Blk w g 22 (flts [a, b, c, d])) : Calls Tryd.prog 11 #[.slice (some ⟨g, 0, none⟩) 4 4] w fun e w' => ∃ v, e = .returned (.int .i64 v) ∧ LeastOf [a, b, c, d] v ∧ w = w' := least_calls (seg4 hb) (by omega)
theorem least4w (w : World) (a b c d : Nat) : Calls Tryd.prog 11 #[.slice (some ⟨w.heap.size, 0, none⟩) 4 4] (w.alloc (.cells #[.float .f64 a, .float .f64 b, .float .f64 c, .float .f64 d] 22)) fun e w' => ∃ v, e = .returned (.int .i64 v) ∧ LeastOf [a, b, c, d] v ∧ w.alloc (.cells #[.float .f64 a, .float .f64 b, .float .f64 c, .float .f64 d] 22) = w' := least4_calls (blk_new w (flts [a, b, c, d]) 22)
set_option maxRecDepth 100000 in
set_option maxHeartbeats 2000000 in
theorem sawake_calls (w : World) : Calls Tryd.prog 8 #[] w fun e w' => e = .returned (.bool true) ∧ Step (fun _ => False) w w' := by
  have HNAN := fun w => nan_calls w
  have hf := fun w => from_run 9223372036854775808 w
  rw [show (9223372036854775808 : Int).toNat = 9223372036854775808 from rfl] at hf
  have HLO := fun w => load_none w
  have HII := isinf1_calls (r := 9218868437227405312) (by omega)
  rw [decide_eq_true rfl] at HII
  obtain ⟨m, hm, HME, _⟩ := mean_calls (old := 9221120237041090561) (sample := 4616189618054758400) (share := 4602678819172646912) (by omega) (by omega) (by omega)
  obtain rfl : m = 4616189618054758400 := by rw [hm.nan1 (by decide)]; decide
  have HTE := fun w => text_minus w
  have HHA := halve_calls (x := 4620693217682128896) (n := 2) (by omega) (by omega)
  rw [show hvF 4620693217682128896 2 = 4611686018427387904 by decide] at HHA
  have o1 : (FloatKind.f64.format.order 4616189618054758400 4616189618054758400 == some .eq) = true := by decide
  have o2 : (FloatKind.f64.format.order 4611686018427387904 4611686018427387904 == some .eq) = true := by decide
  have HL4 := Lib.hid (fun v h => @least_four v h)
  clear hm
  go_enter Tryd.func8, Tryd.ntmps8
  go_upto_region 2 with (go_at_call 20; refine (HNAN _).mono ?_; rintro e w1 ⟨rfl, rfl⟩)
  have HLX := Lib.hid (least4w w 9221120237041090561 4613937818241073152 9223372036854775808 0)
  have HAL := Lib.hid ((Step.refl (fun _ => False) w).alloc (.cells #[.float .f64 9221120237041090561, .float .f64 4613937818241073152, .float .f64 9223372036854775808, .float .f64 0] 22))
  go_wp2_with (first | (go_at_call 11; refine HLX.out.mono ?_; rintro e w2 ⟨v2, rfl, hv2, rfl⟩; obtain rfl := HL4.out _ hv2) | (go_at_call 23; refine (HLO _).mono ?_; rintro e w3 ⟨rfl, rfl⟩) | (go_at_call 22; refine (HII _).mono ?_; rintro e w3 ⟨rfl, rfl⟩) | (go_at_call 12; refine (HME _).mono ?_; rintro e w3 ⟨rfl, rfl⟩) | (go_at_call 18; refine (HTE _).mono ?_; rintro e w3 ⟨rfl, hs3⟩) | (go_at_call 16; refine (HHA _).mono ?_; rintro e w3 ⟨rfl, rfl⟩))
  go_ret
  exact ⟨rfl, HAL.out.same hs3⟩
end Go.Proofs.YthlllmnlcjkiiaaDoor.Cho
