/- The walks of stewardlaw13.ScoreMeans and ScoreLeast. Own work of this seat. -/
import Derived.Test.YthlllmnlcjkiiaaDoorWalkScore
import Derived.Test.YthlllmnlcjkiiaaDoorSco10
namespace Go.Proofs.YthlllmnlcjkiiaaDoor.Cho
open Go.RowKit Go.Proofs.YthlllmnlcjkiiaaDoor.Kit Go.Proofs.YthlllmnlcjkiiaaDoor.Flo Go.Proofs.YthlllmnlcjkiiaaDoor.Base Go.Proofs.YthlllmnlcjkiiaaDoorW.PrintWords
set_option linter.unusedVariables false
set_option linter.unusedSimpArgs false

theorem rk_plain (x : Nat) : rk (plainF x) = rk x := by
  unfold plainF
  split
  · rename_i h
    rw [rk_null]
    exact (rk_zero.2 h).symm
  · rfl
theorem clamp_rk {x lo hi : Nat} (h : rk lo ≤ rk hi) : rk lo ≤ rk (clampF x lo hi) ∧ rk (clampF x lo hi) ≤ rk hi := by
  unfold clampF
  rw [rk_plain]
  split
  · omega
  · split <;> omega
theorem cmp_zero {x y : Nat} (h : rk x = rk y) : cmpF x y = 0 := by rw [cmp_rk, h, if_neg (Int.lt_irrefl _), if_neg (Int.lt_irrefl _)]
theorem cmp_le {x y : Nat} : (rk x ≤ rk y → cmpF x y ≤ 0) ∧ (rk y ≤ rk x → 0 ≤ cmpF x y) := by
  rw [cmp_rk]
  constructor
  · intro h; split
    · omega
    · rw [if_neg (by omega)]; omega
  · intro h; rw [if_neg (by omega)]; split <;> omega
theorem mean_mid {old sample share m : Nat} (h : MeanOf old sample share m) (no : Num old) (ns : Num sample) : (cmpF old m ≤ 0 ∧ cmpF m sample ≤ 0) ∨ (0 ≤ cmpF old m ∧ 0 ≤ cmpF m sample) := by
  have hr : (rk old ≤ rk m ∧ rk m ≤ rk sample) ∨ (rk m ≤ rk old ∧ rk sample ≤ rk m) := by
    rcases h.mid no ns with rfl | rfl | ⟨x, rfl⟩
    · rw [rk_plain]; omega
    · rw [rk_plain]; omega
    · by_cases hl : rk old < rk sample
      · rw [if_pos hl]
        have := clamp_rk (x := x) (Int.le_of_lt hl)
        omega
      · rw [if_neg hl]
        have := clamp_rk (x := x) (show rk sample ≤ rk old by omega)
        omega
  rcases hr with ⟨a, b⟩ | ⟨a, b⟩
  · exact .inl ⟨cmp_le.1 a, cmp_le.1 b⟩
  · exact .inr ⟨cmp_le.2 a, cmp_le.2 b⟩
set_option maxRecDepth 100000 in
set_option maxHeartbeats 4000000 in
theorem means_calls (old sample share : Nat) (ho : old < 18446744073709551616) (hs : sample < 18446744073709551616) (hh : share < 18446744073709551616) (w : World) :
    Calls Tryd.prog 5 #[.float .f64 old, .float .f64 sample, .float .f64 share] w fun e w' => e = .returned (.bool true) ∧ Below w.heap.size w w' := by
  obtain ⟨m, hm, HME, HRM⟩ := mean_calls ho hs hh
  have HS := same_calls hm.lt
  have HNO := rnan_calls old
  have HNS := rnan_calls sample
  have H1 := rcmp_calls hm.lt ho
  have H2 := rcmp_calls hm.lt hs
  have H3 := rcmp_calls ho hm.lt
  by_cases no : Num old
  · rw [decide_eq_true no] at HNO
    by_cases ns : Num sample
    · rw [decide_eq_true ns] at HNS
      have hmid := mean_mid hm no ns
      have a1 := cmp_one old m
      have b1 := cmp_one m sample
      clear hm ho hs hh no ns H1
      generalize cmpF old m = X at *
      generalize cmpF m sample = Y at *
      rcases a1 with rfl | rfl | rfl
      all_goals rcases b1 with rfl | rfl | rfl
      all_goals first
        | (exfalso; revert hmid; decide)
        | (clear hmid
           go_enter Tryd.func5, Tryd.ntmps5
           go_wp2_with (first | (go_at_call 8; refine (sawake_calls _).mono ?_; rintro e w1 ⟨rfl, hs1⟩) | (go_at_call 12; refine (HME _).mono ?_; rintro e w2 ⟨rfl, rfl⟩) | (go_at_call 14; refine (HRM _).mono ?_; rintro e w2 ⟨rfl, rfl⟩) | (go_at_call 13; refine (HS _).mono ?_; rintro e w2 ⟨rfl, rfl⟩) | (go_at_call_of 15 (Value.float .f64 old); refine (HNO _).mono ?_; rintro e w2 ⟨rfl, rfl⟩) | (go_at_call_of 15 (Value.float .f64 sample); refine (HNS _).mono ?_; rintro e w2 ⟨rfl, rfl⟩) | (go_at_call_of 10 (Value.float .f64 old); refine (H3 _).mono ?_; rintro e w2 ⟨rfl, rfl⟩) | (go_at_call_of 10 (Value.float .f64 m); refine (H2 _).mono ?_; rintro e w2 ⟨rfl, rfl⟩))
           go_ret
           exact ⟨rfl, hs1.below (Nat.le_refl _) (fun _ h => h.elim)⟩)
    · rw [decide_eq_false ns] at HNS
      have e1 : cmpF m old = 0 := cmp_zero (by rw [hm.nan2 no ns, rk_plain])
      rw [e1] at H1
      clear hm ho hs hh no ns e1 H2 H3
      go_enter Tryd.func5, Tryd.ntmps5
      go_wp2_with (first | (go_at_call 8; refine (sawake_calls _).mono ?_; rintro e w1 ⟨rfl, hs1⟩) | (go_at_call 12; refine (HME _).mono ?_; rintro e w2 ⟨rfl, rfl⟩) | (go_at_call 14; refine (HRM _).mono ?_; rintro e w2 ⟨rfl, rfl⟩) | (go_at_call 13; refine (HS _).mono ?_; rintro e w2 ⟨rfl, rfl⟩) | (go_at_call_of 15 (Value.float .f64 old); refine (HNO _).mono ?_; rintro e w2 ⟨rfl, rfl⟩) | (go_at_call_of 15 (Value.float .f64 sample); refine (HNS _).mono ?_; rintro e w2 ⟨rfl, rfl⟩) | (go_at_call 10; refine (H1 _).mono ?_; rintro e w2 ⟨rfl, rfl⟩))
      go_ret
      exact ⟨rfl, hs1.below (Nat.le_refl _) (fun _ h => h.elim)⟩
  · rw [decide_eq_false no] at HNO
    have e2 : cmpF m sample = 0 := cmp_zero (by rw [hm.nan1 no, rk_plain])
    have HC := Lib.hid (fun y (hy : y < 18446744073709551616) w => rcmp_calls hm.lt hy w)
    have HO := ho
    have HSA := hs
    have c1 := cmp_one m old
    clear hm hh no H1 H2 H3
    obtain ⟨X, hX⟩ : ∃ X, cmpF m old = X := ⟨_, rfl⟩
    rw [hX] at c1
    rcases c1 with rfl | rfl | rfl
    all_goals
      go_enter Tryd.func5, Tryd.ntmps5
      go_wp2_with (first | (go_at_call 8; refine (sawake_calls _).mono ?_; rintro e w1 ⟨rfl, hs1⟩) | (go_at_call 12; refine (HME _).mono ?_; rintro e w2 ⟨rfl, rfl⟩) | (go_at_call 14; refine (HRM _).mono ?_; rintro e w2 ⟨rfl, rfl⟩) | (go_at_call 13; refine (HS _).mono ?_; rintro e w2 ⟨rfl, rfl⟩) | (go_at_call_of 15 (Value.float .f64 old); refine (HNO _).mono ?_; rintro e w2 ⟨rfl, rfl⟩) | (go_at_call 10; refine (HC.out _ (by assumption) _).mono ?_; rintro e w2 ⟨rfl, rfl⟩))
      go_ret
      exact ⟨rfl, hs1.below (Nat.le_refl _) (fun _ h => h.elim)⟩

theorem flt_at {w : World} {A : Option Addr} {n : Nat} {xs : List Nat} (h : Kd.C kFlt w A n xs) (hn : xs.length = n) (i : Nat) (x : Nat) (hx : xs[i]? = some x) : ∃ (ad : Addr), A = some ad ∧ ∀ w', Below w.heap.size w w' → w'.cell? (ad.add i) = some (.float .f64 x) := by
  have hi := (List.getElem?_eq_some_iff.1 hx).1
  obtain ⟨ad, c, e, _, hK, hc0⟩ := Kd.C_get h 0 (i : Int) (by omega) (by omega)
  have hc : ∀ j u, c[j]? = some u → w.cell? (ad.add (i * 1 + j)) = some u := hc0
  have hK' : c = [.float .f64 (xs.getD i 0)] := hK
  subst hK'
  have h1 := hc 0 _ rfl
  rw [Nat.mul_one, Nat.add_zero, List.getD_eq_getElem?_getD, hx] at h1
  refine ⟨ad, e, fun w' hb => ?_⟩
  rw [hb.cell (by
    rcases Nat.lt_or_ge (ad.add i).block w.heap.size with hl | hl
    · exact hl
    · unfold World.cell? at h1
      rw [Array.getElem?_eq_none hl] at h1
      simp at h1)]
  exact h1
set_option maxRecDepth 100000 in
set_option maxHeartbeats 4000000 in
theorem sleast_calls (A0 : Option Addr) (c0 : Nat) (l : List Nat) (w : World) (hr : Kd.C kFlt w A0 l.length l) (hc : l.length ≤ c0) (hg : ∀ x ∈ l, x < 18446744073709551616) :
    Calls Tryd.prog 4 #[.slice A0 l.length c0] w fun e w' => e = .returned (.bool true) ∧ Below w.heap.size w w' := by
  obtain ⟨m, hm, hmL⟩ : ∃ m : Nat, (if (30 : Int) < (l.length : Int) then (30 : Int) else (l.length : Int)) = (m : Int) ∧ (m ≤ l.length ∧ m ≤ 30) := by
    by_cases h9 : (30 : Int) < (l.length : Int)
    · exact ⟨30, if_pos h9, by omega, by omega⟩
    · exact ⟨l.length, if_neg h9, by omega, by omega⟩
  have HAT := Lib.hid (fun i x (hx : (l.take m)[i]? = some x) => flt_at hr rfl i x (by
    rw [List.getElem?_take] at hx
    split at hx
    · exact hx
    · cases hx))
  have HLT := Lib.hid (fun i x (hx : (l.take m)[i]? = some x) => hg x (List.mem_of_mem_take (List.mem_of_getElem? hx)))
  have hlen : (l.take m).length = m := by rw [List.length_take]; omega
  generalize l.take m = xs at *
  have hmc : ((m : Int) ≤ (c0 : Int)) := by omega
  have m0 : (0 : Int) ≤ (m : Int) := by omega
  have hm30 := hmL.2
  generalize l.length = L at *
  clear hr hc hg hmL
  have HLEN := Lib.hid hlen
  have HLE := Lib.hid (fun w1 (hs : Step (fun _ => False) w w1) => least_src (w := w1) (A := A0) (c := c0) hlen (fun i x hx => by
    obtain ⟨ad, e, hcell⟩ := HAT.out i x hx
    exact ⟨ad, e, hcell w1 (hs.below (Nat.le_refl _) (fun _ h => h.elim))⟩) (by omega))
  clear hlen
  go_enter Tryd.func4, Tryd.ntmps4
  go_upto_region 5 with (first | (go_at_call 8; refine (sawake_calls _).mono ?_; rintro e w1 ⟨rfl, hs1⟩) | (go_at_call 11; refine (HLE.out _ hs1).mono ?_; rintro e w2 ⟨v, rfl, hv, rfl⟩))
  have HV := Lib.hid hv
  have HS1 := Lib.hid hs1
  clear hv HLE hs1
  by_cases hm0 : m = 0
  · subst hm0
    obtain rfl : xs = [] := List.eq_nil_of_length_eq_zero HLEN.out
    obtain rfl : v = -1 := by
      rcases HV.out with ⟨_, h⟩ | ⟨j, x, rfl, hx, _⟩
      · exact h
      · simp at hx
    go_wp2
    go_ret
    exact ⟨rfl, HS1.out.below (Nat.le_refl _) (fun _ h => h.elim)⟩
  · have hm0' : ¬ ((m : Int) = 0) := by omega
    obtain ⟨j, x, rfl, hx, hall, hj⟩ : ∃ (j : Nat) (x : Nat), v = (j : Int) ∧ xs[j]? = some x ∧ (∀ i y, xs[i]? = some y → rk x ≤ rk y ∧ (i < j → rk x < rk y)) ∧ j < m := by
      rcases HV.out with ⟨h, _⟩ | ⟨j, x, rfl, hx, hall⟩
      · have h1 := HLEN.out
        rw [h] at h1
        simp at h1
        omega
      · have := (List.getElem?_eq_some_iff.1 hx).1
        exact ⟨j, x, rfl, hx, hall, by have := HLEN.out; omega⟩
    obtain ⟨ad, rfl, hcx⟩ := HAT.out j x hx
    have HCX := Lib.hid hcx
    have HALL := Lib.hid hall
    have hxl := HLT.out j x hx
    have hj1 : ¬ ((j : Int) < 0) := by omega
    have hj2 : ((j : Int) < (m : Int)) := by omega
    have hj3 : ((m : Int) ≤ (j : Int)) = False := eq_false (by omega)
    clear hcx hall hx HV
    have hb1 := HS1.out.below (Nat.le_refl _) (fun _ h => h.elim)
    go_wp2
    go_loopw [31] (fun v31 wr => ∃ (k : Nat), v31 = .int .i64 (k : Int) ∧ k ≤ m ∧ Below w.heap.size w wr) (fun v _ => m - (intOf v).toNat)
    case atStart => exact ⟨0, rfl, Nat.zero_le _, hb1⟩
    case round =>
      obtain ⟨k, rfl, hk, hb⟩ := hrel
      by_cases hki : k < m
      · have hki' : ((k : Int) < (m : Int)) := by omega
        obtain ⟨y, hy⟩ : ∃ y, xs[k]? = some y := ⟨_, List.getElem?_eq_getElem (by have := HLEN.out; omega)⟩
        obtain ⟨ad', ead, hcy⟩ := HAT.out k y hy
        obtain rfl := Option.some.inj ead
        have cy := hcy _ hb
        have cx := HCX.out _ hb
        have HR := rcmp_calls (HLT.out k y hy) hxl
        obtain ⟨h1, h2⟩ := HALL.out k y hy
        have hr1 : cmpF y x = 0 ∨ cmpF y x = 1 := by
          rcases cmp_one y x with h | h | h
          · have := (cmp_le (x := y) (y := x)).2 h1; omega
          · exact .inl h
          · exact .inr h
        have hr2 : cmpF y x = 0 → ((k : Int) < (j : Int)) = False := fun h => eq_false (fun hkj => by
          have h3 := h2 (by omega)
          rw [cmp_rk, if_neg (by omega), if_pos h3] at h
          omega)
        have HB := Lib.hid hb
        clear h1 h2 hcy hy hb
        generalize cmpF y x = z at *
        rcases hr1 with rfl | rfl
        · have q1 := hr2 rfl
          clear hr2
          go_wp2_with (go_at_call 10; refine (HR _).mono ?_; rintro e w2 ⟨rfl, rfl⟩)
          go_roundw
          case rel => exact ⟨k + 1, by go_num, by omega, HB.out⟩
          case measure =>
            simp only [intOf]
            omega
        · clear hr2
          go_wp2_with (go_at_call 10; refine (HR _).mono ?_; rintro e w2 ⟨rfl, rfl⟩)
          go_roundw
          case rel => exact ⟨k + 1, by go_num, by omega, HB.out⟩
          case measure =>
            simp only [intOf]
            omega
      · have hki' : ¬ ((k : Int) < (m : Int)) := by omega
        have HB := Lib.hid hb
        clear hb
        go_wp2
        go_ret
        exact ⟨rfl, HB.out⟩
end Go.Proofs.YthlllmnlcjkiiaaDoor.Cho
