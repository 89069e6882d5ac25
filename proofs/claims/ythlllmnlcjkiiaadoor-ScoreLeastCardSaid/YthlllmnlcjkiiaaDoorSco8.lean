/- score.Mean and the document's: one answer. Own work of this seat; printed by gen_sco8.py; no condition. -/
import Derived.Test.YthlllmnlcjkiiaaDoorSco7
namespace Go.Proofs.YthlllmnlcjkiiaaDoor.Cho
open Go.RowKit Go.Proofs.YthlllmnlcjkiiaaDoor.Kit Go.Proofs.YthlllmnlcjkiiaaDoor.Flo
set_option linter.unusedVariables false
set_option linter.unusedSimpArgs false

theorem min_run {x y : Nat} (hx : Num x) (hy : Num y) (a : Array TypeId) (t : TypeId) (w : World) : (Builtin.min_ a t #[.float .f64 x, .float .f64 y]).run Tryd.prog w = .ok (.float .f64 (minF x y)) w := by
  simp [Builtin.min_, min2_run hx hy]
theorem max_run {x y : Nat} (hx : Num x) (hy : Num y) (a : Array TypeId) (t : TypeId) (w : World) : (Builtin.max_ a t #[.float .f64 x, .float .f64 y]).run Tryd.prog w = .ok (.float .f64 (maxF x y)) w := by
  simp [Builtin.max_, max2_run hx hy]
set_option maxHeartbeats 4000000 in
theorem mean_calls {old sample share : Nat} (ho : old < 18446744073709551616) (hs : sample < 18446744073709551616) (hh : share < 18446744073709551616) : ∃ m, MeanOf old sample share m ∧
    (∀ w, Calls Tryd.prog 12 #[.float .f64 old, .float .f64 sample, .float .f64 share] w fun e w' => e = .returned (.float .f64 m) ∧ w = w') ∧
    (∀ w, Calls Tryd.prog 14 #[.float .f64 old, .float .f64 sample, .float .f64 share] w fun e w' => e = .returned (.float .f64 m) ∧ w = w') := by
  have HC := clamp_calls share 0 4607182418800017408
  have HRC := rclamp_calls hh (show 0 < 18446744073709551616 by decide) (show 4607182418800017408 < 18446744073709551616 by decide)
  obtain ⟨s1, s2, s3⟩ := share_bd share hh
  have HNO := isnan_calls old
  have HNS := isnan_calls sample
  have HRNO := rnan_calls old
  have HRNS := rnan_calls sample
  have HPO := plain_calls old
  have HPS := plain_calls sample
  have HRPO := rplain_calls ho
  have HRPS := rplain_calls hs
  have HIO := isinf_calls ho
  have HIS := isinf_calls hs
  have HFO := rfar_calls ho
  have HFS := rfar_calls hs
  have HKO := key_calls ho
  have HKS := key_calls hs
  generalize clampF share 0 4607182418800017408 = sh at *
  have HKH := key_calls s1
  have hz := eq_zero (x := sh) ⟨s3, s1⟩
  by_cases no : Num old
  · rw [decide_eq_true no] at HNO HRNO
    by_cases ns : Num sample
    · rw [decide_eq_true ns] at HNS HRNS
      by_cases h0 : rung sh = 0
      · refine ⟨plainF old, ⟨plain_lt ho, fun h => absurd no h, fun _ h => absurd ns h, fun _ _ => .inl rfl⟩, ?_⟩
        rw [decide_eq_true h0] at hz
        have hk : rk sh = 0 := rk_zero.2 ⟨s2, rung_key.2 h0⟩
        rw [hk] at HKH
        clear hk h0 s1 s2 s3 no ns HIO HIS HFO HFS HKO HKS ho hs hh
        constructor
        · intro w
          generalize plainF old = m at *
          go_enter Tryd.func12, Tryd.ntmps12
          go_wp2_with (first | (go_at_call 26; refine (HC _).mono ?_; rintro e w1 ⟨rfl, rfl⟩) | (go_at_call_of 24 (Value.float .f64 old); refine (HNO _).mono ?_; rintro e w1 ⟨rfl, rfl⟩) | (go_at_call_of 24 (Value.float .f64 sample); refine (HNS _).mono ?_; rintro e w1 ⟨rfl, rfl⟩) | (go_at_call_of 22 (Value.float .f64 old); refine (HIO _).mono ?_; rintro e w1 ⟨rfl, rfl⟩) | (go_at_call_of 22 (Value.float .f64 sample); refine (HIS _).mono ?_; rintro e w1 ⟨rfl, rfl⟩) | (go_at_call_of 27 (Value.float .f64 old); refine (HPO _).mono ?_; rintro e w1 ⟨rfl, rfl⟩))
          go_ret
          exact ⟨rfl, rfl⟩
        · intro w
          generalize plainF old = m at *
          go_enter Tryd.func14, Tryd.ntmps14
          go_wp2_with (first | (go_at_call 29; refine (HRC _).mono ?_; rintro e w1 ⟨rfl, rfl⟩) | (go_at_call_of 15 (Value.float .f64 old); refine (HRNO _).mono ?_; rintro e w1 ⟨rfl, rfl⟩) | (go_at_call_of 15 (Value.float .f64 sample); refine (HRNS _).mono ?_; rintro e w1 ⟨rfl, rfl⟩) | (go_at_call_of 25 (Value.float .f64 sh); refine (HKH _).mono ?_; rintro e w1 ⟨rfl, rfl⟩) | (go_at_call_of 31 (Value.float .f64 old); refine (HFO _).mono ?_; rintro e w1 ⟨rfl, rfl⟩) | (go_at_call_of 31 (Value.float .f64 sample); refine (HFS _).mono ?_; rintro e w1 ⟨rfl, rfl⟩) | (go_at_call_of 30 (Value.float .f64 old); refine (HRPO _).mono ?_; rintro e w1 ⟨rfl, rfl⟩))
          go_ret
          exact ⟨rfl, rfl⟩
      · rw [decide_eq_false h0] at hz
        have hk : ¬ rk sh = 0 := fun h => h0 (rung_key.1 (rk_zero.1 h).2)
        by_cases io : rung old = 9218868437227405312
        · refine ⟨plainF sample, ⟨plain_lt hs, fun h => absurd no h, fun _ h => absurd ns h, fun _ _ => .inr (.inl rfl)⟩, ?_⟩
          rw [decide_eq_true io] at HIO HFO
          generalize rk sh = kk at *
          clear h0 s1 s2 s3 no ns io HIS HFS HKO HKS ho hs hh
          constructor
          · intro w
            generalize plainF sample = m at *
            go_enter Tryd.func12, Tryd.ntmps12
            go_wp2_with (first | (go_at_call 26; refine (HC _).mono ?_; rintro e w1 ⟨rfl, rfl⟩) | (go_at_call_of 24 (Value.float .f64 old); refine (HNO _).mono ?_; rintro e w1 ⟨rfl, rfl⟩) | (go_at_call_of 24 (Value.float .f64 sample); refine (HNS _).mono ?_; rintro e w1 ⟨rfl, rfl⟩) | (go_at_call_of 22 (Value.float .f64 old); refine (HIO _).mono ?_; rintro e w1 ⟨rfl, rfl⟩) | (go_at_call_of 22 (Value.float .f64 sample); refine (HIS _).mono ?_; rintro e w1 ⟨rfl, rfl⟩) | (go_at_call_of 27 (Value.float .f64 sample); refine (HPS _).mono ?_; rintro e w1 ⟨rfl, rfl⟩))
            go_ret
            exact ⟨rfl, rfl⟩
          · intro w
            generalize plainF sample = m at *
            go_enter Tryd.func14, Tryd.ntmps14
            go_wp2_with (first | (go_at_call 29; refine (HRC _).mono ?_; rintro e w1 ⟨rfl, rfl⟩) | (go_at_call_of 15 (Value.float .f64 old); refine (HRNO _).mono ?_; rintro e w1 ⟨rfl, rfl⟩) | (go_at_call_of 15 (Value.float .f64 sample); refine (HRNS _).mono ?_; rintro e w1 ⟨rfl, rfl⟩) | (go_at_call_of 25 (Value.float .f64 sh); refine (HKH _).mono ?_; rintro e w1 ⟨rfl, rfl⟩) | (go_at_call_of 31 (Value.float .f64 old); refine (HFO _).mono ?_; rintro e w1 ⟨rfl, rfl⟩) | (go_at_call_of 31 (Value.float .f64 sample); refine (HFS _).mono ?_; rintro e w1 ⟨rfl, rfl⟩) | (go_at_call_of 30 (Value.float .f64 sample); refine (HRPS _).mono ?_; rintro e w1 ⟨rfl, rfl⟩))
            go_ret
            exact ⟨rfl, rfl⟩
        · rw [decide_eq_false io] at HIO HFO
          by_cases is_ : rung sample = 9218868437227405312
          · refine ⟨plainF sample, ⟨plain_lt hs, fun h => absurd no h, fun _ h => absurd ns h, fun _ _ => .inr (.inl rfl)⟩, ?_⟩
            rw [decide_eq_true is_] at HIS HFS
            generalize rk sh = kk at *
            clear h0 s1 s2 s3 no ns io is_ HKO HKS ho hs hh
            constructor
            · intro w
              generalize plainF sample = m at *
              go_enter Tryd.func12, Tryd.ntmps12
              go_wp2_with (first | (go_at_call 26; refine (HC _).mono ?_; rintro e w1 ⟨rfl, rfl⟩) | (go_at_call_of 24 (Value.float .f64 old); refine (HNO _).mono ?_; rintro e w1 ⟨rfl, rfl⟩) | (go_at_call_of 24 (Value.float .f64 sample); refine (HNS _).mono ?_; rintro e w1 ⟨rfl, rfl⟩) | (go_at_call_of 22 (Value.float .f64 old); refine (HIO _).mono ?_; rintro e w1 ⟨rfl, rfl⟩) | (go_at_call_of 22 (Value.float .f64 sample); refine (HIS _).mono ?_; rintro e w1 ⟨rfl, rfl⟩) | (go_at_call_of 27 (Value.float .f64 sample); refine (HPS _).mono ?_; rintro e w1 ⟨rfl, rfl⟩))
              go_ret
              exact ⟨rfl, rfl⟩
            · intro w
              generalize plainF sample = m at *
              go_enter Tryd.func14, Tryd.ntmps14
              go_wp2_with (first | (go_at_call 29; refine (HRC _).mono ?_; rintro e w1 ⟨rfl, rfl⟩) | (go_at_call_of 15 (Value.float .f64 old); refine (HRNO _).mono ?_; rintro e w1 ⟨rfl, rfl⟩) | (go_at_call_of 15 (Value.float .f64 sample); refine (HRNS _).mono ?_; rintro e w1 ⟨rfl, rfl⟩) | (go_at_call_of 25 (Value.float .f64 sh); refine (HKH _).mono ?_; rintro e w1 ⟨rfl, rfl⟩) | (go_at_call_of 31 (Value.float .f64 old); refine (HFO _).mono ?_; rintro e w1 ⟨rfl, rfl⟩) | (go_at_call_of 31 (Value.float .f64 sample); refine (HFS _).mono ?_; rintro e w1 ⟨rfl, rfl⟩) | (go_at_call_of 30 (Value.float .f64 sample); refine (HRPS _).mono ?_; rintro e w1 ⟨rfl, rfl⟩))
              go_ret
              exact ⟨rfl, rfl⟩
          · rw [decide_eq_false is_] at HIS HFS
            have fo : FinW old := ⟨by have := num_of_rung.1 no; unfold Flo.Fin; omega, ho⟩
            have fs : FinW sample := ⟨by have := num_of_rung.1 ns; unfold Flo.Fin; omega, hs⟩
            obtain ⟨d, hd1, hd2, hd3⟩ := sub_some fs fo
            obtain ⟨p, hp1, hp2, hp3⟩ := mul_some (a := sh) ⟨s3, s1⟩ h0 hd2
            obtain ⟨x, hx1, hx2, hx3⟩ := add_some fo hp2
            have hcm := clamp_minmax (x := x) ho hs no ns
            have hml : clampF x (minF old sample) (maxF old sample) < 18446744073709551616 := by
              unfold clampF minF maxF
              refine plain_lt ?_
              repeat (first | assumption | split)
            refine ⟨clampF x (minF old sample) (maxF old sample), ⟨hml, fun h => absurd no h, fun _ h => absurd ns h, fun _ _ => .inr (.inr ⟨x, hcm⟩)⟩, ?_⟩
            have e1 := fun w => run_float_arith (P := Tryd.prog) w .sub 22 .f64 sample old _ hd1
            have e2 := fun w => run_float_arith (P := Tryd.prog) w .mul 22 .f64 sh d _ hp1
            have e3 := fun w => run_float_arith (P := Tryd.prog) w .add 22 .f64 old p _ hx1
            have emin := fun a t w => min_run no ns a t w
            have emax := fun a t w => max_run no ns a t w
            have HCX := clamp_calls x (minF old sample) (maxF old sample)
            have HRX1 := rclamp_calls hx3 ho hs
            have HRX2 := rclamp_calls hx3 hs ho
            generalize minF old sample = mi at *
            generalize maxF old sample = mx at *
            generalize rk sh = kk at *
            generalize clampF x mi mx = m at *
            clear h0 s1 s2 s3 no ns io is_ hh hd1 hd2 hd3 hp1 hp2 hp3 hx1 hx2 hx3 fo fs hml HPO HPS HRPO HRPS
            constructor
            · intro w
              clear hcm
              go_enter Tryd.func12, Tryd.ntmps12
              go_wp2_with (first | (go_at_call_of 26 (Value.float .f64 share); refine (HC _).mono ?_; rintro e w1 ⟨rfl, rfl⟩) | (go_at_call_of 24 (Value.float .f64 old); refine (HNO _).mono ?_; rintro e w1 ⟨rfl, rfl⟩) | (go_at_call_of 24 (Value.float .f64 sample); refine (HNS _).mono ?_; rintro e w1 ⟨rfl, rfl⟩) | (go_at_call_of 22 (Value.float .f64 old); refine (HIO _).mono ?_; rintro e w1 ⟨rfl, rfl⟩) | (go_at_call_of 22 (Value.float .f64 sample); refine (HIS _).mono ?_; rintro e w1 ⟨rfl, rfl⟩) | (go_at_call_of 26 (Value.float .f64 x); refine (HCX _).mono ?_; rintro e w1 ⟨rfl, rfl⟩))
              go_ret
              exact ⟨rfl, rfl⟩
            · intro w
              by_cases hlt : rk old < rk sample
              · rw [if_pos hlt] at hcm
                rw [← hcm] at HRX1
                generalize rk old = ko at *
                generalize rk sample = ks at *
                clear hcm
                go_enter Tryd.func14, Tryd.ntmps14
                go_wp2_with (first | (go_at_call_of 29 (Value.float .f64 share); refine (HRC _).mono ?_; rintro e w1 ⟨rfl, rfl⟩) | (go_at_call_of 15 (Value.float .f64 old); refine (HRNO _).mono ?_; rintro e w1 ⟨rfl, rfl⟩) | (go_at_call_of 15 (Value.float .f64 sample); refine (HRNS _).mono ?_; rintro e w1 ⟨rfl, rfl⟩) | (go_at_call_of 25 (Value.float .f64 sh); refine (HKH _).mono ?_; rintro e w1 ⟨rfl, rfl⟩) | (go_at_call_of 31 (Value.float .f64 old); refine (HFO _).mono ?_; rintro e w1 ⟨rfl, rfl⟩) | (go_at_call_of 31 (Value.float .f64 sample); refine (HFS _).mono ?_; rintro e w1 ⟨rfl, rfl⟩) | (go_at_call_of 25 (Value.float .f64 old); refine (HKO _).mono ?_; rintro e w1 ⟨rfl, rfl⟩) | (go_at_call_of 25 (Value.float .f64 sample); refine (HKS _).mono ?_; rintro e w1 ⟨rfl, rfl⟩) | (go_at_call_of 29 (Value.float .f64 x); refine (HRX1 _).mono ?_; rintro e w1 ⟨rfl, rfl⟩))
                go_ret
                exact ⟨rfl, rfl⟩
              · rw [if_neg hlt] at hcm
                rw [← hcm] at HRX2
                have q1 : (rk old < rk sample) = False := eq_false hlt
                generalize rk old = ko at *
                generalize rk sample = ks at *
                clear hcm hlt
                go_enter Tryd.func14, Tryd.ntmps14
                go_wp2_with (first | (go_at_call_of 29 (Value.float .f64 share); refine (HRC _).mono ?_; rintro e w1 ⟨rfl, rfl⟩) | (go_at_call_of 15 (Value.float .f64 old); refine (HRNO _).mono ?_; rintro e w1 ⟨rfl, rfl⟩) | (go_at_call_of 15 (Value.float .f64 sample); refine (HRNS _).mono ?_; rintro e w1 ⟨rfl, rfl⟩) | (go_at_call_of 25 (Value.float .f64 sh); refine (HKH _).mono ?_; rintro e w1 ⟨rfl, rfl⟩) | (go_at_call_of 31 (Value.float .f64 old); refine (HFO _).mono ?_; rintro e w1 ⟨rfl, rfl⟩) | (go_at_call_of 31 (Value.float .f64 sample); refine (HFS _).mono ?_; rintro e w1 ⟨rfl, rfl⟩) | (go_at_call_of 25 (Value.float .f64 old); refine (HKO _).mono ?_; rintro e w1 ⟨rfl, rfl⟩) | (go_at_call_of 25 (Value.float .f64 sample); refine (HKS _).mono ?_; rintro e w1 ⟨rfl, rfl⟩) | (go_at_call_of 29 (Value.float .f64 x); refine (HRX2 _).mono ?_; rintro e w1 ⟨rfl, rfl⟩))
                go_ret
                exact ⟨rfl, rfl⟩
    · rw [decide_eq_false ns] at HNS HRNS
      refine ⟨plainF old, ⟨plain_lt ho, fun h => absurd no h, fun _ _ => rfl, fun _ h => absurd h ns⟩, ?_⟩
      clear s1 s2 s3 no ns HIO HIS HFO HFS HKO HKS ho hs hh hz HKH
      constructor
      · intro w
        generalize plainF old = m at *
        go_enter Tryd.func12, Tryd.ntmps12
        go_wp2_with (first | (go_at_call 26; refine (HC _).mono ?_; rintro e w1 ⟨rfl, rfl⟩) | (go_at_call_of 24 (Value.float .f64 old); refine (HNO _).mono ?_; rintro e w1 ⟨rfl, rfl⟩) | (go_at_call_of 24 (Value.float .f64 sample); refine (HNS _).mono ?_; rintro e w1 ⟨rfl, rfl⟩) | (go_at_call_of 22 (Value.float .f64 old); refine (HIO _).mono ?_; rintro e w1 ⟨rfl, rfl⟩) | (go_at_call_of 22 (Value.float .f64 sample); refine (HIS _).mono ?_; rintro e w1 ⟨rfl, rfl⟩) | (go_at_call_of 27 (Value.float .f64 old); refine (HPO _).mono ?_; rintro e w1 ⟨rfl, rfl⟩))
        go_ret
        exact ⟨rfl, rfl⟩
      · intro w
        generalize plainF old = m at *
        go_enter Tryd.func14, Tryd.ntmps14
        go_wp2_with (first | (go_at_call 29; refine (HRC _).mono ?_; rintro e w1 ⟨rfl, rfl⟩) | (go_at_call_of 15 (Value.float .f64 old); refine (HRNO _).mono ?_; rintro e w1 ⟨rfl, rfl⟩) | (go_at_call_of 15 (Value.float .f64 sample); refine (HRNS _).mono ?_; rintro e w1 ⟨rfl, rfl⟩) | (go_at_call_of 25 (Value.float .f64 sh); refine (HKH _).mono ?_; rintro e w1 ⟨rfl, rfl⟩) | (go_at_call_of 31 (Value.float .f64 old); refine (HFO _).mono ?_; rintro e w1 ⟨rfl, rfl⟩) | (go_at_call_of 31 (Value.float .f64 sample); refine (HFS _).mono ?_; rintro e w1 ⟨rfl, rfl⟩) | (go_at_call_of 30 (Value.float .f64 old); refine (HRPO _).mono ?_; rintro e w1 ⟨rfl, rfl⟩))
        go_ret
        exact ⟨rfl, rfl⟩
  · rw [decide_eq_false no] at HNO HRNO
    refine ⟨plainF sample, ⟨plain_lt hs, fun _ => rfl, fun h _ => absurd h no, fun h _ => absurd h no⟩, ?_⟩
    clear s1 s2 s3 no HIO HIS HFO HFS HKO HKS ho hs hh hz HKH
    constructor
    · intro w
      generalize plainF sample = m at *
      go_enter Tryd.func12, Tryd.ntmps12
      go_wp2_with (first | (go_at_call 26; refine (HC _).mono ?_; rintro e w1 ⟨rfl, rfl⟩) | (go_at_call_of 24 (Value.float .f64 old); refine (HNO _).mono ?_; rintro e w1 ⟨rfl, rfl⟩) | (go_at_call_of 24 (Value.float .f64 sample); refine (HNS _).mono ?_; rintro e w1 ⟨rfl, rfl⟩) | (go_at_call_of 22 (Value.float .f64 old); refine (HIO _).mono ?_; rintro e w1 ⟨rfl, rfl⟩) | (go_at_call_of 22 (Value.float .f64 sample); refine (HIS _).mono ?_; rintro e w1 ⟨rfl, rfl⟩) | (go_at_call_of 27 (Value.float .f64 sample); refine (HPS _).mono ?_; rintro e w1 ⟨rfl, rfl⟩))
      go_ret
      exact ⟨rfl, rfl⟩
    · intro w
      generalize plainF sample = m at *
      go_enter Tryd.func14, Tryd.ntmps14
      go_wp2_with (first | (go_at_call 29; refine (HRC _).mono ?_; rintro e w1 ⟨rfl, rfl⟩) | (go_at_call_of 15 (Value.float .f64 old); refine (HRNO _).mono ?_; rintro e w1 ⟨rfl, rfl⟩) | (go_at_call_of 15 (Value.float .f64 sample); refine (HRNS _).mono ?_; rintro e w1 ⟨rfl, rfl⟩) | (go_at_call_of 25 (Value.float .f64 sh); refine (HKH _).mono ?_; rintro e w1 ⟨rfl, rfl⟩) | (go_at_call_of 31 (Value.float .f64 old); refine (HFO _).mono ?_; rintro e w1 ⟨rfl, rfl⟩) | (go_at_call_of 31 (Value.float .f64 sample); refine (HFS _).mono ?_; rintro e w1 ⟨rfl, rfl⟩) | (go_at_call_of 30 (Value.float .f64 sample); refine (HRPS _).mono ?_; rintro e w1 ⟨rfl, rfl⟩))
      go_ret
      exact ⟨rfl, rfl⟩
end Go.Proofs.YthlllmnlcjkiiaaDoor.Cho
