/- The walk of stewardlaw14.DrawsTwo. Own work of this seat. -/
import Derived.Test.YtlmppdpjjkdoaaaDraws3
namespace Go.Proofs.Ytlmppdpjjkdoaaa.Draws
open Go.RowKit Go.Proofs.Ytlmppdpjjkdoaaa.Kit Go.Proofs.Ytlmppdpjjkdoaaa.PDrawsTwo Go.Proofs.YtlmppdpjjkdoaaaW.PrintWords Go.Proofs.YtlmppdpjjkdoaaaW.PrintLast Go.Proofs.YtlmppdpjjkdoaaaW.PrintMore
set_option linter.unusedVariables false
set_option linter.unusedSimpArgs false
attribute [local go_sem] max2_int min2_int max_two min_two

theorem src_take {w : World} {A : Option Addr} {l : List Int} (h : Kd.C (Kd.int .u64) w A l.length l) (m : Nat) (hm : m ≤ l.length) : Src w A m (uvals (l.take m)) := by
  refine ⟨by rw [uvals_length, List.length_take]; omega, ?_⟩
  cases A with
  | none =>
    refine .inl ⟨rfl, ?_⟩
    rcases Nat.eq_zero_or_pos l.length with h0 | h0
    · have : l = [] := List.eq_nil_of_length_eq_zero h0
      subst this; simp [uvals]
    · obtain ⟨ad, e, _⟩ := Kd.at_int h 0 (by omega) (by omega)
      cases e
  | some a =>
    refine .inr ⟨a, rfl, fun j v hj => ?_⟩
    rw [uvals, List.getElem?_map, List.getElem?_take] at hj
    by_cases hjm : j < m
    · rw [if_pos hjm, List.getElem?_eq_getElem (by omega)] at hj
      obtain rfl := Option.some.inj hj
      obtain ⟨ad, e, hc⟩ := Kd.at_int h (j : Int) (by omega) (by omega)
      obtain rfl := Option.some.inj e
      rw [Int.toNat_natCast] at hc
      rw [hc]
      simp [rd, List.getD_eq_getElem?_getD, show j < l.length by omega]
    · rw [if_neg hjm] at hj; cases hj
theorem fits_take {l : List Int} (h : Fits l) (m : Nat) : Fits (l.take m) := fun x hx => h x (List.mem_of_mem_take hx)

set_option maxRecDepth 100000 in
set_option maxHeartbeats 1000000 in
theorem law_two_calls (A : Option Addr) (c : Nat) (l : List Int) (N : Int) (w : World) (hN1 : N ≤ 9223372036854775807) (hr : Kd.C (Kd.int .u64) w A l.length l) (hc : l.length ≤ c) (hf : Fits l) :
    Calls Try.prog 9 #[.slice A l.length c, .int .i64 N] w fun e w' => e = .returned (.bool true) ∧ Below w.heap.size w w' := by
  obtain ⟨m, hm, hml, hm9, hmn⟩ : ∃ m : Nat, (if (9 : Int) < (l.length : Int) then (9 : Int) else (l.length : Int)) = (m : Int) ∧ m ≤ l.length ∧ m ≤ 9 ∧ (m : Int) ≤ (c : Int) := by
    by_cases h9 : (9 : Int) < (l.length : Int)
    · exact ⟨9, if_pos h9, by omega, by omega, by omega⟩
    · exact ⟨l.length, if_neg h9, by omega, by omega, by omega⟩
  have hfit := fits_take hf m
  have hA : ∀ w', Below w.heap.size w w' → Src w' A m (uvals (l.take m)) := fun w' hb => src_take (Kd.C_below hr hb) m hml
  generalize l.take m = ys at *
  generalize l.length = L at *
  clear hr
  have m0 : (0 : Int) ≤ (m : Int) := by omega
  go_enter Try.func9, Try.ntmps9
  go_upto_region 6 with (first | (go_at_call 34; refine (awake_calls _).mono ?_; rintro e0 w0 ⟨rfl, hb0⟩) | (go_at_call 35; refine (new_calls _).mono ?_; rintro e1 w1 ⟨p, rfl, hD1, hb1⟩))
  have hb := hb0.trans (hb1.mono hb0.size)
  have HPU := push_calls (cB := c) hD1 (hA _ hb) hfit (by omega)
  rw [Nat.zero_add, List.nil_append] at HPU
  clear hA
  have hw1 : w0.heap.size ≤ w1.heap.size := hb1.size
  go_upto_region 7 with (first | (go_at_call 36; refine HPU.mono ?_; rintro e2 w2 ⟨rfl, ⟨A2, c2, hD2⟩, hb2⟩))
  have hw2 := Nat.le_trans hw1 hb2.size
  have hB := hb.trans (hb2.mono hb0.size)
  clear hb HPU hD1 hb1 hfit
  by_cases hN : N < 2
  · go_wp2_with (first | (go_at_call 37; refine (two_small_calls _ _ _ hN).mono ?_; rintro e3 w3 ⟨rfl, rfl⟩) | (go_at_call 38; refine (short_calls hD2).mono ?_; rintro e4 w4 ⟨rfl, rfl⟩))
    go_ret
    exact ⟨rfl, hB⟩
  · have h1 := head_fits hD2.fits
    have h2 := head_fits (tail_fits hD2.fits)
    have i1 := below_in h1.1 h1.2 (show 1 ≤ N by omega) hN1
    have i2 := below_in h2.1 h2.2 (show 1 ≤ N - 1 by omega) (by omega)
    have HT := two_calls hD2 (by omega) (by omega) (by omega) hw2 N hN hN1 _ _ (below_is h1.1 h1.2 (by omega) hN1) (below_is h2.1 h2.2 (by omega) (by omega)) i1.1 i1.2 i2.1 i2.2
    clear h1 h2
    generalize ys.headD 0 * N / 18446744073709551616 = a at *
    generalize ys.tail.headD 0 * (N - 1) / 18446744073709551616 = b at *
    generalize hb' : (if a ≤ b then b + 1 else b) = b' at HT
    have hb1' : 0 ≤ b' ∧ b' < N ∧ a ≠ b' := by rw [← hb']; split <;> omega
    obtain ⟨j1, j2, j3⟩ := hb1'
    clear hb'
    obtain ⟨a0, a1⟩ := i1
    go_wp2_with (first | (go_at_call 37; refine HT.mono ?_; rintro e3 w3 ⟨rfl, hb3⟩))
    rw [show (a != b') = true from bne_iff_ne.2 j3]
    go_ret
    exact ⟨rfl, hB.trans (hb3.mono hb0.size)⟩
end Go.Proofs.Ytlmppdpjjkdoaaa.Draws
