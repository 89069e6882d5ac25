/- math.Ldexp; score.Halve. Own work of this seat; no condition. -/
import Derived.Test.YthlllmnlcjkiiaaDoorSco3
namespace Go.Proofs.YthlllmnlcjkiiaaDoor.Cho
open Go.RowKit Go.Proofs.YthlllmnlcjkiiaaDoor.Kit Go.Proofs.YthlllmnlcjkiiaaDoor.Flo
set_option linter.unusedVariables false
set_option linter.unusedSimpArgs false

theorem hW_zero {w : Nat} (h : FinW w) (h0 : rung w = 0) : hW w = w := by
  obtain ⟨_, a, b, c, _⟩ := hW_ok h
  have h1 := word_of a.2
  rw [b, c h0] at h1
  have h2 := word_of h.2
  rw [h0] at h2
  exact h1.symm.trans h2
theorem halfN_zero_eq : ∀ (k : Nat) {w : Nat}, FinW w → rung w = 0 → halfN k w = w
  | 0, w, h, e => rfl
  | k + 1, w, h, e => by
    show halfN k (hW w) = w
    rw [hW_zero h e]
    exact halfN_zero_eq k h e
theorem ldexp_zero {x : Nat} (h : FinW x) (h0 : rung x = 0) (k : Int) (w : World) : Calls Tryd.prog 39 #[.float .f64 x, .int .i64 k] w fun e w' => e = .returned (.float .f64 x) ∧ w = w' := by
  have he := eq_zero h
  rw [decide_eq_true h0] at he
  clear h h0
  go_enter Tryd.func39, Tryd.ntmps39
  go_wp2
  go_ret
  exact ⟨rfl, rfl⟩
theorem ldexp_half {x : Nat} (h : FinW x) {n : Nat} (hn : n ≤ 1000000) (w : World) : Calls Tryd.prog 39 #[.float .f64 x, .int .i64 (-((stp x n : Nat) : Int))] w fun e w' => e = .returned (.float .f64 (halfN (stp x n) x)) ∧ w = w' := by
  by_cases h0 : rung x = 0
  · rw [halfN_zero_eq _ h h0]
    exact ldexp_zero h h0 _ w
  · obtain ⟨n1, n2, n3, n4, n5⟩ := nrm_bd h h0
    have hx63 : rung x < 9218868437227405312 := h.1
    have hfr : frE x = nrmE x + (((rung (nrmF x) / 4503599627370496 : Nat) : Int) - 1023 + 1) := by unfold frE; rw [if_neg h0]
    by_cases hs : rung x < 4503599627370496
    · have e1 : nrmF x = Ieee.double.word (sgn x) ((rung x).log2 * 4503599627370496 + mant (rung x)) := by unfold nrmF; rw [if_pos hs]
      have e2 : nrmE x = -52 := by unfold nrmE; rw [if_pos hs]
      have hl : (rung x).log2 ≤ 51 := by
        have := (Nat.log2_lt h0 (k := 52)).2 (by simpa using hs)
        omega
      have hb := mant_bd h0 (by omega)
      have e3 : rung (nrmF x) = (rung x).log2 * 4503599627370496 + mant (rung x) := by rw [e1]; exact (sgn_word (sgn x) (by omega)).2.1
      have e4 : rung (nrmF x) / 4503599627370496 = (rung x).log2 + 1 := by rw [e3]; omega
      have e5 : rung (nrmF x) % 4503599627370496 = mant (rung x) - 4503599627370496 := by rw [e3]; omega
      have hst : stp x n = 0 := by unfold stp; rw [hfr, e2, e4]; omega
      rw [hst]
      refine ldexp_calls h h0 (by omega) (m := 4368491638549381120) (e := (rung x).log2 + 2) e4 (by rw [e2]; omega) (.inr ⟨rfl, by rw [e2]; omega, by rw [e2]; omega⟩) ?_ w
      rw [e5, show ((rung x).log2 + 2) * 4503599627370496 + (mant (rung x) - 4503599627370496) = ((rung x).log2 + 1) * 4503599627370496 + mant (rung x) by omega, mul_m53 (sgn x) h0 hs, word_of h.2]
      rfl
    · have e1 : nrmF x = x := by unfold nrmF; rw [if_neg hs]
      have e2 : nrmE x = 0 := by unfold nrmE; rw [if_neg hs]
      rw [e1] at n4 n5 hfr
      obtain ⟨E, hE⟩ : ∃ E, rung x / 4503599627370496 = E := ⟨_, rfl⟩
      rw [hE] at n4 n5 hfr
      have hst : stp x n + 1 ≤ E := by unfold stp; rw [hfr, e2]; omega
      generalize stp x n = k at *
      have hsh := halfN_shift k h (by
        have : (k + 1) * 4503599627370496 ≤ E * 4503599627370496 := Nat.mul_le_mul_right _ hst
        omega)
      have hr1 : rung x - k * 4503599627370496 = (E - k) * 4503599627370496 + rung x % 4503599627370496 := by
        have : (E - k) * 4503599627370496 = E * 4503599627370496 - k * 4503599627370496 := Nat.sub_mul ..
        have : k * 4503599627370496 ≤ E * 4503599627370496 := Nat.mul_le_mul_right _ (by omega)
        omega
      have hfk := halfN_ok k h
      refine ldexp_calls h h0 (by omega) (E := E) (m := 4607182418800017408) (e := E - k) (by rw [e1]; exact hE) (by rw [e2]; omega) (.inl ⟨rfl, by rw [e2]; omega, by rw [e2]; omega⟩) ?_ w
      rw [e1, ← hr1, ← hsh]
      refine one_mul hfk.1 hfk.2 ?_
      rw [hsh, (sgn_word (sgn x) (by omega)).2.1, hr1]
      have : 1 * 4503599627370496 ≤ (E - k) * 4503599627370496 := Nat.mul_le_mul_right _ (by omega)
      omega
theorem ldexp2_calls {x : Nat} (h : FinW x) {n : Nat} (hn : n ≤ 1000000) (w : World) : Calls Tryd.prog 33 #[.float .f64 x, .int .i64 (-((stp x n : Nat) : Int))] w fun e w' => e = .returned (.float .f64 (halfN (stp x n) x)) ∧ w = w' := by
  have HL := fun w => ldexp_half h hn w
  generalize halfN (stp x n) x = y at *
  generalize (-((stp x n : Nat) : Int)) = q at *
  go_enter Tryd.func33, Tryd.ntmps33
  go_wp2_with (go_at_call 39; refine (HL _).mono ?_; rintro e w1 ⟨rfl, rfl⟩)
  go_ret
  exact ⟨rfl, rfl⟩
/-- Halved n times, zeros positive. -/
def halveF (x : Nat) (n : Nat) : Nat := if rung x < 9218868437227405312 then plainF (halfN n x) else plainF x
theorem stp_le (x n : Nat) : stp x n ≤ n := by unfold stp; omega
set_option maxHeartbeats 1000000 in
theorem halve_fin {x n : Nat} (h : FinW x) (h1 : 1 ≤ n) (hn : n ≤ 1000000) (w : World) : Calls Tryd.prog 16 #[.float .f64 x, .int .i64 (n : Int)] w fun e w' => e = .returned (.float .f64 (plainF (halfN n x))) ∧ w = w' := by
  have HI := isinf_calls h.2
  rw [decide_eq_false (fin_ninf h)] at HI
  have HN := isnan_calls x
  rw [decide_eq_true (fin_num h)] at HN
  have HE := fun w => exact_calls h n hn w
  have HL := fun w => ldexp2_calls h hn w
  have hle := stp_le x n
  have hn1 : ¬ ((n : Int) < 1) := by omega
  have hadd := halfN_add (stp x n) (n - stp x n) x
  rw [show stp x n + (n - stp x n) = n by omega] at hadd
  have hfy := halfN_ok (stp x n) h
  generalize halfN (stp x n) x = y at *
  generalize stp x n = k at *
  have HADD := Lib.hid hadd
  have HFY := Lib.hid hfy
  clear hadd hfy
  generalize halfN n x = res at *
  have HP := Lib.hid (fun y w => plain_calls y w)
  go_enter Tryd.func16, Tryd.ntmps16
  go_wp2_with (first | (go_at_call 22; refine (HI _).mono ?_; rintro e w1 ⟨rfl, rfl⟩) | (go_at_call 24; refine (HN _).mono ?_; rintro e w1 ⟨rfl, rfl⟩) | (go_at_call 32; refine (HE _).mono ?_; rintro e w1 ⟨rfl, rfl⟩) | (go_at_call 33; refine (HL _).mono ?_; rintro e w1 ⟨rfl, rfl⟩))
  go_loop [0, 6] (fun v0 v6 => ∃ (z j : Nat), v0 = .float .f64 z ∧ v6 = .int .i64 (j : Int) ∧ j ≤ n ∧ FinW z ∧ res = halfN j z) (fun _ v => (intOf v).toNat)
  case atStart => exact ⟨y, n - k, rfl, by congr 1; omega, by omega, HFY.out, HADD.out⟩
  case round =>
    obtain ⟨z, j, rfl, rfl, hj, hz, hres⟩ := hrel
    have heq := eq_zero hz
    by_cases hj0 : j = 0
    · subst hj0
      have hq : ((0 : Int) < ((0 : Nat) : Int)) = False := eq_false (by omega)
      have HPZ := HP.out z
      have E0 := Lib.hid (show res = z from hres)
      clear hres heq
      go_wp2_with (go_at_call 27; refine (HPZ _).mono ?_; rintro e w1 ⟨rfl, rfl⟩)
      go_ret
      exact ⟨congrArg (fun q => Ending.returned (.float .f64 (plainF q))) E0.out.symm, rfl⟩
    · have hq : (0 : Int) < (j : Int) := by omega
      by_cases hz0 : rung z = 0
      · rw [decide_eq_true hz0] at heq
        have heq2 : (FloatKind.f64.format.order z 0 != some .eq) = false := by simp only [bne, heq]; rfl
        have HPZ := HP.out z
        have E0 := Lib.hid (show res = z by rw [hres]; exact halfN_zero_eq j hz hz0)
        clear hres
        go_wp2_with (go_at_call 27; refine (HPZ _).mono ?_; rintro e w1 ⟨rfl, rfl⟩)
        go_ret
        exact ⟨congrArg (fun q => Ending.returned (.float .f64 (plainF q))) E0.out.symm, rfl⟩
      · rw [decide_eq_false hz0] at heq
        have heq2 : (FloatKind.f64.format.order z 0 != some .eq) = true := by simp only [bne, heq]; rfl
        obtain ⟨d1, d2, _⟩ := hW_ok hz
        have hdv := fun w => run_float_arith (P := Tryd.prog) w .quo 22 .f64 z 4611686018427387904 _ d1
        have HR := Lib.hid (show res = halfN (j - 1) (hW z) by
          rw [hres]
          obtain ⟨i, rfl⟩ : ∃ i, j = i + 1 := ⟨j - 1, by omega⟩
          rfl)
        have HD2 := Lib.hid d2
        clear hres d1 d2
        generalize hW z = hz' at *
        go_wp2
        exact ⟨⟨hz', j - 1, rfl, by congr 1; omega, by omega, HD2.out, HR.out⟩, by simp only [intOf]; omega⟩
end Go.Proofs.YthlllmnlcjkiiaaDoor.Cho
