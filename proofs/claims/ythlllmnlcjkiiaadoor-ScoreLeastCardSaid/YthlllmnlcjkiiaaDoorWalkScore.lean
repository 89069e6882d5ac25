/- The walks of stewardlaw13.ScoreOrders, ScoreHalves, ScoreLeast, ScoreMeans. Own work of this seat. -/
import Derived.Test.YthlllmnlcjkiiaaDoorSco9
import Derived.Test.YthlllmnlcjkiiaaDoorFBase
namespace Go.Proofs.YthlllmnlcjkiiaaDoor.Cho
open Go.RowKit Go.Proofs.YthlllmnlcjkiiaaDoor.Kit Go.Proofs.YthlllmnlcjkiiaaDoor.Flo Go.Proofs.YthlllmnlcjkiiaaDoor.Base Go.Proofs.YthlllmnlcjkiiaaDoorW.PrintWords
set_option linter.unusedVariables false
set_option linter.unusedSimpArgs false

theorem cmp_one (x y : Nat) : cmpF x y = -1 ∨ cmpF x y = 0 ∨ cmpF x y = 1 := by
  rw [cmp_rk]
  split
  · exact .inl rfl
  · split
    · exact .inr (.inr rfl)
    · exact .inr (.inl rfl)
theorem cmp_neg (x y : Nat) : cmpF x y = -cmpF y x := by
  rw [cmp_rk, cmp_rk]
  by_cases h1 : rk x < rk y
  · rw [if_pos h1, if_neg (show ¬ rk y < rk x by omega), if_pos h1]
  · rw [if_neg h1]
    by_cases h2 : rk y < rk x
    · rw [if_pos h2, if_pos h2]; rfl
    · rw [if_neg h2, if_neg h2, if_neg h1]; rfl
theorem cmp_self (x : Nat) : cmpF x x = 0 := by rw [cmp_rk, if_neg (Int.lt_irrefl _), if_neg (Int.lt_irrefl _)]
theorem cmp_third (a b c : Nat) : ¬ (cmpF a b ≤ 0 ∧ cmpF b c ≤ 0) ∨ (cmpF a c ≤ 0 ∧ (cmpF a c < 0 ∨ (cmpF a b = 0 ∧ cmpF b c = 0))) := by
  rw [cmp_rk, cmp_rk, cmp_rk]
  generalize rk a = A
  generalize rk b = B
  generalize rk c = C
  by_cases h1 : A < B
  · rw [if_pos h1]
    by_cases h2 : B < C
    · rw [if_pos h2, if_pos (by omega)]; right; omega
    · rw [if_neg h2]
      by_cases h3 : C < B
      · rw [if_pos h3]; left; omega
      · rw [if_neg h3, if_pos (by omega)]; right; omega
  · rw [if_neg h1]
    by_cases h2 : B < A
    · rw [if_pos h2]; left; omega
    · rw [if_neg h2]
      by_cases h3 : B < C
      · rw [if_pos h3, if_pos (by omega)]; right; omega
      · rw [if_neg h3]
        by_cases h4 : C < B
        · rw [if_pos h4]; left; omega
        · rw [if_neg h4, if_neg (by omega), if_neg (by omega)]; right; omega
set_option maxRecDepth 100000 in
set_option maxHeartbeats 4000000 in
theorem orders_calls (a b c : Nat) (ha : a < 18446744073709551616) (hb : b < 18446744073709551616) (hc : c < 18446744073709551616) (w : World) :
    Calls Tryd.prog 3 #[.float .f64 a, .float .f64 b, .float .f64 c] w fun e w' => e = .returned (.bool true) ∧ Below w.heap.size w w' := by
  have HC := Lib.hid (fun x y w => cmp_calls x y w)
  have HR := rcmp_calls ha hb
  have h3 := cmp_third a b c
  have x1 := cmp_one b a
  have y1 := cmp_one b c
  have z1 := cmp_one a c
  have eaa := cmp_self a
  have eab := cmp_neg a b
  rw [eab] at HR h3
  obtain ⟨X, hX⟩ : ∃ X, cmpF b a = X := ⟨_, rfl⟩
  obtain ⟨Y, hY⟩ : ∃ Y, cmpF b c = Y := ⟨_, rfl⟩
  obtain ⟨Z, hZ⟩ : ∃ Z, cmpF a c = Z := ⟨_, rfl⟩
  rw [hX] at eab HR h3 x1
  rw [hY] at h3 y1
  rw [hZ] at h3 z1
  clear ha hb hc
  rcases x1 with rfl | rfl | rfl
  all_goals rcases y1 with rfl | rfl | rfl
  all_goals rcases z1 with rfl | rfl | rfl
  all_goals first
    | (exfalso; revert h3; decide)
    | (clear h3
       go_enter Tryd.func3, Tryd.ntmps3
       go_wp2_with (first | (go_at_call 8; refine (sawake_calls _).mono ?_; rintro e w1 ⟨rfl, hs1⟩) | (go_at_call 9; refine (HC.out _ _ _).mono ?_; rintro e w2 ⟨rfl, rfl⟩) | (go_at_call 10; refine (HR _).mono ?_; rintro e w2 ⟨rfl, rfl⟩))
       go_ret
       exact ⟨rfl, hs1.below (Nat.le_refl _) (fun _ h => h.elim)⟩)
set_option maxRecDepth 100000 in
set_option maxHeartbeats 2000000 in
theorem halves_calls (x : Nat) (n m : Int) (hx : x < 18446744073709551616) (w : World) :
    Calls Tryd.prog 6 #[.float .f64 x, .int .i64 n, .int .i64 m] w fun e w' => e = .returned (.bool true) ∧ Below w.heap.size w w' := by
  obtain ⟨n3, hn3, hn3b⟩ : ∃ q, (if (3000 : Int) < n then (3000 : Int) else n) = q ∧ q ≤ 3000 := ⟨_, rfl, by split <;> omega⟩
  obtain ⟨n0, hn0, hn0b⟩ : ∃ q, (if (0 : Int) < n3 then n3 else 0) = q ∧ q = ((n3.toNat : Nat) : Int) := ⟨_, rfl, by split <;> omega⟩
  have hm : Go.bits .and .i64 m 1023 = m % 1024 := Flo.bits_mask m 10 (by decide)
  obtain ⟨q, hq⟩ : ∃ q : Nat, m % 1024 = (q : Int) := ⟨(m % 1024).toNat, by omega⟩
  have hqb : q ≤ 1023 := by omega
  rw [hq] at hm
  have HX := Lib.hid (fun (n : Int) (hn : n ≤ 1000000) w => halve_calls hx hn w)
  have HRA := rhalve_calls hx (n := n3) (by omega)
  have hal := hvF_lt hx n3
  have HB := halve_calls hal (n := (q : Int)) (by omega)
  have hmore := hvF_more hx n3 q
  rw [← hn0b] at hmore
  rw [hmore] at HB
  have HS1 := same_calls hal
  have HS2 := same_calls (hvF_lt hx (n0 + (q : Int)))
  have hn0c : 0 ≤ n0 ∧ n0 ≤ 3000 := by omega
  clear hmore hn0b hq
  obtain ⟨aa, haa⟩ : ∃ q, hvF x n3 = q := ⟨_, rfl⟩
  obtain ⟨bb, hbb⟩ : ∃ z, hvF x (n0 + (q : Int)) = z := ⟨_, rfl⟩
  rw [haa] at HRA HB HS1
  rw [hbb] at HB HS2
  clear hal
  go_enter Tryd.func6, Tryd.ntmps6
  go_wp2_with (first | (go_at_call 8; refine (sawake_calls _).mono ?_; rintro e w1 ⟨rfl, hs1⟩) | (go_at_call_of 16 (Value.float .f64 aa); refine (HB _).mono ?_; rintro e w2 ⟨rfl, rfl⟩) | (go_at_call 16; refine (HX.out _ (by omega) _).mono ?_; rintro e w2 ⟨rfl, rfl⟩) | (go_at_call 17; refine (HRA _).mono ?_; rintro e w2 ⟨rfl, rfl⟩) | (go_at_call_of 13 (Value.float .f64 aa); refine (HS1 _).mono ?_; rintro e w2 ⟨rfl, rfl⟩) | (go_at_call 13; refine (HS2 _).mono ?_; rintro e w2 ⟨rfl, rfl⟩))
  go_ret
  exact ⟨rfl, hs1.below (Nat.le_refl _) (fun _ h => h.elim)⟩
end Go.Proofs.YthlllmnlcjkiiaaDoor.Cho
