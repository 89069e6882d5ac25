/- score.Least over a row that came in. Own work of this seat; no condition. -/
import Derived.Test.YthlllmnlcjkiiaaDoorSco9
namespace Go.Proofs.YthlllmnlcjkiiaaDoor.Cho
open Go.RowKit Go.Proofs.YthlllmnlcjkiiaaDoor.Kit Go.Proofs.YthlllmnlcjkiiaaDoor.Flo
set_option linter.unusedVariables false
set_option linter.unusedSimpArgs false

set_option maxRecDepth 100000 in
set_option maxHeartbeats 1000000 in
theorem least_src {w : World} {A : Option Addr} {n c : Nat} {xs : List Nat} (hn : xs.length = n) (h : ∀ i x, xs[i]? = some x → ∃ ad, A = some ad ∧ w.cell? (ad.add i) = some (.float .f64 x)) (hmax : n ≤ 1000000) :
    Calls Tryd.prog 11 #[.slice A n c] w fun e w' => ∃ v, e = .returned (.int .i64 v) ∧ LeastOf xs v ∧ w = w' := by
  have HH := Lib.hid h
  clear h
  go_enter Tryd.func11, Tryd.ntmps11
  go_wp2
  go_loop [3, 8] (fun v3 v8 => ∃ (i : Nat), i ≤ n ∧ v8 = .int .i64 (i : Int) ∧ ((i = 0 ∧ v3 = .int .i64 (-1)) ∨ ∃ j x, v3 = .int .i64 ((j : Nat) : Int) ∧ j < i ∧ xs[j]? = some x ∧ ∀ k y, k < i → xs[k]? = some y → rk x ≤ rk y ∧ (k < j → rk x < rk y))) (fun _ v => n - (intOf v).toNat)
  case atStart => exact ⟨0, by omega, rfl, .inl ⟨rfl, rfl⟩⟩
  case round =>
    obtain ⟨i, hi, rfl, hb⟩ := hrel
    by_cases hlt : i < n
    · have hlt' : (i : Int) < (n : Int) := by omega
      obtain ⟨y, hy⟩ : ∃ y, xs[i]? = some y := ⟨_, List.getElem?_eq_getElem (by omega)⟩
      obtain ⟨ad, rfl, c0⟩ := HH.out i y hy
      rcases hb with ⟨hi0, rfl⟩ | ⟨j, x, rfl, hj, hx, hall⟩
      · have hnx : ∀ k z, k < i + 1 → xs[k]? = some z → rk y ≤ rk z ∧ (k < i → rk y < rk z) := fun k z hk hz => by
          obtain rfl : k = i := by omega
          rw [hy] at hz
          obtain rfl := Option.some.inj hz
          exact ⟨Int.le_refl _, fun h => absurd h (Nat.lt_irrefl _)⟩
        have HY := Lib.hid hy
        have HNX := Lib.hid hnx
        have HI0 := Lib.hid hi0
        clear hnx hy hi0
        go_wp2
        exact ⟨⟨i + 1, by omega, by go_num, .inr ⟨i, y, rfl, by omega, HY.out, HNX.out⟩⟩, by simp [intOf]; omega⟩
      · have hj1 : ¬ ((j : Int) = -1) := by omega
        obtain ⟨ad', ead, cj⟩ := HH.out j x hx
        obtain rfl := Option.some.inj ead
        have HC := cmp_calls y x
        rw [cmp_rk] at HC
        have hjn : ((j : Int) < (n : Int)) := by omega
        by_cases hl : rk y < rk x
        · rw [if_pos hl] at HC
          have hnx : ∀ k z, k < i + 1 → xs[k]? = some z → rk y ≤ rk z ∧ (k < i → rk y < rk z) := fun k z hk hz => by
            by_cases e : k = i
            · subst e
              rw [hy] at hz
              obtain rfl := Option.some.inj hz
              exact ⟨Int.le_refl _, fun h => absurd h (Nat.lt_irrefl _)⟩
            · have := (hall k z (by omega) hz).1
              omega
          have HY := Lib.hid hy
          have HNX := Lib.hid hnx
          clear hnx hall hx hl hy
          go_wp2_with (go_at_call 9; refine (HC _).mono ?_; rintro e1 w1 ⟨rfl, rfl⟩)
          exact ⟨⟨i + 1, by omega, by go_num, .inr ⟨i, y, rfl, by omega, HY.out, HNX.out⟩⟩, by simp [intOf]; omega⟩
        · rw [if_neg hl] at HC
          have hnx : ∀ k z, k < i + 1 → xs[k]? = some z → rk x ≤ rk z ∧ (k < j → rk x < rk z) := fun k z hk hz => by
            by_cases e : k = i
            · subst e
              rw [hy] at hz
              obtain rfl := Option.some.inj hz
              exact ⟨by omega, fun h => by omega⟩
            · exact hall k z (by omega) hz
          have HX := Lib.hid hx
          have HNX := Lib.hid hnx
          have hge : ¬ ((if rk x < rk y then (1 : Int) else 0) < 0) := by split <;> omega
          obtain ⟨cv, hcv⟩ : ∃ cv, (if rk x < rk y then (1 : Int) else 0) = cv := ⟨_, rfl⟩
          rw [hcv] at HC hge
          have q1 : (cv < 0) = False := eq_false hge
          clear hnx hall hx hl hcv hy
          go_wp2_with (go_at_call 9; refine (HC _).mono ?_; rintro e1 w1 ⟨rfl, rfl⟩)
          exact ⟨⟨i + 1, by omega, by go_num, .inr ⟨j, x, rfl, by omega, HX.out, HNX.out⟩⟩, by simp [intOf]; omega⟩
    · obtain rfl : i = n := by omega
      have HB := Lib.hid hb
      rcases hb with ⟨rfl, rfl⟩ | ⟨j, x, rfl, hj, hx, hall⟩
      · clear HB
        go_wp2
        go_ret
        exact ⟨-1, rfl, .inl ⟨List.eq_nil_of_length_eq_zero hn, rfl⟩, rfl⟩
      · have HALL := Lib.hid hall
        have HX := Lib.hid hx
        clear hall hx HB
        go_wp2
        go_ret
        exact ⟨(j : Int), rfl, .inr ⟨j, x, rfl, HX.out, fun k y hk => HALL.out k y (by
          have := (List.getElem?_eq_some_iff.1 hk).1
          omega) hk⟩, rfl⟩

end Go.Proofs.YthlllmnlcjkiiaaDoor.Cho
