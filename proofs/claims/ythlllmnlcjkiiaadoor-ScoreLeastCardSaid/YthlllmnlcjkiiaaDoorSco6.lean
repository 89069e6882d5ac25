/- score.Halve and the document's Halve at any whole number. Own work of this seat; no condition. -/
import Derived.Test.YthlllmnlcjkiiaaDoorSco5
namespace Go.Proofs.YthlllmnlcjkiiaaDoor.Cho
open Go.RowKit Go.Proofs.YthlllmnlcjkiiaaDoor.Kit Go.Proofs.YthlllmnlcjkiiaaDoor.Flo
set_option linter.unusedVariables false
set_option linter.unusedSimpArgs false

def hvF (x : Nat) (n : Int) : Nat := if rung x < 9218868437227405312 then plainF (halfN n.toNat x) else plainF x
theorem plain_lt {x : Nat} (h : x < 18446744073709551616) : plainF x < 18446744073709551616 := by
  unfold plainF
  split <;> omega
theorem hvF_lt {x : Nat} (h : x < 18446744073709551616) (n : Int) : hvF x n < 18446744073709551616 := by
  unfold hvF
  split
  · rename_i h1
    exact plain_lt (halfN_ok _ ⟨h1, h⟩).2
  · exact plain_lt h
theorem num_of_rung {x : Nat} : Num x ↔ rung x ≤ 9218868437227405312 := Iff.rfl
set_option maxHeartbeats 1000000 in
theorem halve_calls {x : Nat} (hx : x < 18446744073709551616) {n : Int} (hn : n ≤ 1000000) (w : World) : Calls Tryd.prog 16 #[.float .f64 x, .int .i64 n] w fun e w' => e = .returned (.float .f64 (hvF x n)) ∧ w = w' := by
  by_cases h1 : n < 1
  · have e : hvF x n = plainF x := by
      unfold hvF
      rw [show n.toNat = 0 by omega]
      split <;> rfl
    rw [e]
    have HP := plain_calls x
    clear e
    go_enter Tryd.func16, Tryd.ntmps16
    go_wp2_with (go_at_call 27; refine (HP _).mono ?_; rintro e w1 ⟨rfl, rfl⟩)
    go_ret
    exact ⟨rfl, rfl⟩
  · by_cases h2 : rung x < 9218868437227405312
    · have := halve_fin (n := n.toNat) ⟨h2, hx⟩ (by omega) (by omega) w
      rw [show ((n.toNat : Nat) : Int) = n by omega] at this
      unfold hvF
      rw [if_pos h2]
      exact this
    · have e : hvF x n = plainF x := by unfold hvF; rw [if_neg h2]
      rw [e]
      have HP := plain_calls x
      have HN := isnan_calls x
      have HI := isinf_calls hx
      clear e
      by_cases h3 : rung x = 9218868437227405312
      · rw [decide_eq_true h3] at HI
        rw [decide_eq_true (num_of_rung.2 (by omega))] at HN
        clear h2 h3
        go_enter Tryd.func16, Tryd.ntmps16
        go_wp2_with (first | (go_at_call 22; refine (HI _).mono ?_; rintro e w1 ⟨rfl, rfl⟩) | (go_at_call 24; refine (HN _).mono ?_; rintro e w1 ⟨rfl, rfl⟩) | (go_at_call 27; refine (HP _).mono ?_; rintro e w1 ⟨rfl, rfl⟩))
        go_ret
        exact ⟨rfl, rfl⟩
      · rw [decide_eq_false (fun h => by have := num_of_rung.1 h; omega)] at HN
        clear h2 h3 HI
        go_enter Tryd.func16, Tryd.ntmps16
        go_wp2_with (first | (go_at_call 24; refine (HN _).mono ?_; rintro e w1 ⟨rfl, rfl⟩) | (go_at_call 27; refine (HP _).mono ?_; rintro e w1 ⟨rfl, rfl⟩))
        go_ret
        exact ⟨rfl, rfl⟩
theorem hvF_next {z : Nat} {j : Int} (h : FinW z) (hj : 0 < j) : hvF (hW z) (j - 1) = hvF z j := by
  unfold hvF
  rw [if_pos (show rung z < 9218868437227405312 from h.1), if_pos (show rung (hW z) < 9218868437227405312 from (hW_ok h).2.1.1)]
  obtain ⟨i, hi⟩ : ∃ i, j.toNat = i + 1 := ⟨j.toNat - 1, by omega⟩
  rw [hi, show (j - 1).toNat = i by omega]
  rfl
theorem hvF_end {z : Nat} {j : Int} (hz : z < 18446744073709551616) (h : ¬ (0 < j ∧ rk z ≠ 0 ∧ Num z ∧ rung z ≠ 9218868437227405312)) : hvF z j = plainF z := by
  unfold hvF
  by_cases h1 : rung z < 9218868437227405312
  · rw [if_pos h1]
    by_cases h2 : 0 < j
    · have h3 : rung z = 0 := by
        refine Classical.byContradiction fun h3 => h ⟨h2, fun e => h3 (rung_key.1 (rk_zero.1 e).2), Nat.le_of_lt h1, by omega⟩
      rw [halfN_zero_eq _ ⟨h1, hz⟩ h3]
    · rw [show j.toNat = 0 by omega]; rfl
  · rw [if_neg h1]
set_option maxHeartbeats 1000000 in
theorem rhalve_calls {x : Nat} (hx : x < 18446744073709551616) {n : Int} (hn : n ≤ 1000000) (w : World) : Calls Tryd.prog 17 #[.float .f64 x, .int .i64 n] w fun e w' => e = .returned (.float .f64 (hvF x n)) ∧ w = w' := by
  obtain ⟨res, hres⟩ : ∃ res, hvF x n = res := ⟨_, rfl⟩
  rw [hres]
  have HRES := Lib.hid hres
  clear hres
  go_enter Tryd.func17, Tryd.ntmps17
  go_wp2
  go_loop [0, 1] (fun v0 v1 => ∃ (z : Nat) (j : Int), v0 = .float .f64 z ∧ v1 = .int .i64 j ∧ j ≤ 1000000 ∧ z < 18446744073709551616 ∧ Hid (hvF z j = res)) (fun _ v => (intOf v).toNat)
  case atStart => exact ⟨x, n, rfl, rfl, hn, hx, HRES⟩
  case round =>
    obtain ⟨z, j, rfl, rfl, hj, hz, hr⟩ := hrel
    have HK := key_calls hz
    have HN := rnan_calls z
    have HF := rfar_calls hz
    have HP := rplain_calls hz
    by_cases hgo : 0 < j ∧ rk z ≠ 0 ∧ Num z ∧ rung z ≠ 9218868437227405312
    · obtain ⟨g1, g2, g3, g4⟩ := hgo
      rw [decide_eq_true g3] at HN
      rw [decide_eq_false g4] at HF
      have hfz : FinW z := ⟨by have := num_of_rung.1 g3; unfold Flo.Fin; omega, hz⟩
      obtain ⟨d1, d2, _⟩ := hW_ok hfz
      have hdv := fun w => run_float_arith (P := Tryd.prog) w .quo 22 .f64 z 4611686018427387904 _ d1
      have HR := Lib.hid ((hvF_next hfz g1).trans hr.out)
      have HD2 := Lib.hid d2.2
      clear hr g3 g4 hfz d1 d2 HP
      generalize hW z = z2 at *
      generalize rk z = kk at *
      go_wp2_with (first | (go_at_call 25; refine (HK _).mono ?_; rintro e w1 ⟨rfl, rfl⟩) | (go_at_call 15; refine (HN _).mono ?_; rintro e w1 ⟨rfl, rfl⟩) | (go_at_call 31; refine (HF _).mono ?_; rintro e w1 ⟨rfl, rfl⟩))
      exact ⟨⟨z2, j - 1, rfl, rfl, by omega, HD2.out, HR⟩, by simp only [intOf]; omega⟩
    · have HE := Lib.hid ((hvF_end hz hgo).symm.trans hr.out)
      clear hr
      by_cases g1 : 0 < j
      · by_cases g2 : rk z = 0
        · rw [g2] at HK
          clear hgo g2 HN HF
          go_wp2_with (first | (go_at_call 25; refine (HK _).mono ?_; rintro e w1 ⟨rfl, rfl⟩) | (go_at_call 30; refine (HP _).mono ?_; rintro e w1 ⟨rfl, rfl⟩))
          go_ret
          exact ⟨congrArg (fun q => Ending.returned (.float .f64 q)) HE.out, rfl⟩
        · by_cases g3 : Num z
          · have g4 : rung z = 9218868437227405312 := Classical.byContradiction fun h => hgo ⟨g1, g2, g3, h⟩
            rw [decide_eq_true g3] at HN
            rw [decide_eq_true g4] at HF
            clear hgo g3 g4
            generalize rk z = kk at *
            go_wp2_with (first | (go_at_call 25; refine (HK _).mono ?_; rintro e w1 ⟨rfl, rfl⟩) | (go_at_call 15; refine (HN _).mono ?_; rintro e w1 ⟨rfl, rfl⟩) | (go_at_call 31; refine (HF _).mono ?_; rintro e w1 ⟨rfl, rfl⟩) | (go_at_call 30; refine (HP _).mono ?_; rintro e w1 ⟨rfl, rfl⟩))
            go_ret
            exact ⟨congrArg (fun q => Ending.returned (.float .f64 q)) HE.out, rfl⟩
          · rw [decide_eq_false g3] at HN
            clear hgo g3 HF
            generalize rk z = kk at *
            go_wp2_with (first | (go_at_call 25; refine (HK _).mono ?_; rintro e w1 ⟨rfl, rfl⟩) | (go_at_call 15; refine (HN _).mono ?_; rintro e w1 ⟨rfl, rfl⟩) | (go_at_call 30; refine (HP _).mono ?_; rintro e w1 ⟨rfl, rfl⟩))
            go_ret
            exact ⟨congrArg (fun q => Ending.returned (.float .f64 q)) HE.out, rfl⟩
      · have g1' : (0 < j) = False := eq_false g1
        clear hgo HK HN HF g1
        go_wp2_with (go_at_call 30; refine (HP _).mono ?_; rintro e w1 ⟨rfl, rfl⟩)
        go_ret
        exact ⟨congrArg (fun q => Ending.returned (.float .f64 q)) HE.out, rfl⟩
/-- Halved some times, and some more. -/
theorem hvF_more {x : Nat} (hx : x < 18446744073709551616) (n : Int) (m : Nat) : hvF (hvF x n) (m : Int) = hvF x ((n.toNat : Int) + (m : Int)) := by
  have hp0 : ∀ {y : Nat}, FinW y → rung y = 0 → plainF y = 0 := fun hy h => by
    unfold plainF
    rw [if_pos ⟨fin_num hy, rung_key.2 h⟩]
  have hp1 : ∀ {y : Nat}, rung y ≠ 0 → plainF y = y := fun h => by
    unfold plainF
    rw [if_neg (fun e => h (rung_key.1 e.2))]
  unfold hvF
  by_cases h : rung x < 9218868437227405312
  · rw [if_pos h, if_pos h, show ((n.toNat : Int) + (m : Int)).toNat = n.toNat + m by omega, halfN_add, show ((m : Nat) : Int).toNat = m by omega]
    have hy := halfN_ok n.toNat (w := x) ⟨h, hx⟩
    generalize halfN n.toNat x = y at *
    have hf0 : FinW 0 := ⟨by decide, by decide⟩
    by_cases h0 : rung y = 0
    · rw [hp0 hy h0, if_pos (by decide), hp0 (halfN_ok m hf0) (halfN_zero m hf0 (by decide)), hp0 (halfN_ok m hy) (halfN_zero m hy h0)]
    · rw [hp1 h0, if_pos (show rung y < 9218868437227405312 from hy.1)]
  · rw [if_neg h, if_neg h, hp1 (by omega), if_neg h, hp1 (by omega)]
end Go.Proofs.YthlllmnlcjkiiaaDoor.Cho
