/- The walk of stewardlaw01.SiphashBelow. Own work of this seat. -/
import Derived.Test.YtlmppdpjjkdoaabSip6
import Derived.Test.YtlmppdpjjkdoaabSipBelowPure
namespace Go.Proofs.Ytlmppdpjjkdoaab.SipB
open Go.RowKit Go.Proofs.Ytlmppdpjjkdoaab.Kit Go.Proofs.Ytlmppdpjjkdoaab.Sip Go.Proofs.Ytlmppdpjjkdoaab.PSiphashBelow Go.Proofs.YtlmppdpjjkdoaabW.PrintWords Go.Proofs.YtlmppdpjjkdoaabW.PrintLast Go.Proofs.YtlmppdpjjkdoaabW.PrintMore
set_option linter.unusedVariables false

def bel (x n : Int) : Int := if n < 1 then 0 else x * n / 18446744073709551616
theorem below_calls (x n : Int) (w : World) (hx0 : 0 ≤ x) (hx1 : x < 18446744073709551616) (hn1 : n ≤ 9223372036854775807) :
    Calls Try.prog 7 #[.int .u64 x, .int .i64 n] w fun e w' => e = .returned (.int .i64 (bel x n)) ∧ Drawn0 w w' := by
  refine siphash_Below.calls x n _ w ?_
  unfold bel
  by_cases h : n < 1
  · rw [if_pos h]; unfold siphash_Below.f; rw [if_pos h]
  · rw [if_neg h]; exact below_is hx0 hx1 (by omega) hn1
theorem refbelow_calls (x n : Int) (w : World) (hx0 : 0 ≤ x) (hx1 : x < 18446744073709551616) (hn1 : n ≤ 9223372036854775807) :
    Calls Try.prog 8 #[.int .u64 x, .int .i64 n] w fun e w' => e = .returned (.int .i64 (bel x n)) ∧ Drawn0 w w' := by
  refine stewardref01_Below.calls x n _ w ?_
  unfold bel
  by_cases h : n < 1
  · rw [if_pos h]; unfold stewardref01_Below.f; rw [if_pos h]
  · rw [if_neg h]; exact refbelow_is hx0 hx1 (by omega) hn1

set_option maxRecDepth 100000 in
set_option maxHeartbeats 2000000 in
theorem law_calls (x y n : Int) (w : World) (hx0 : 0 ≤ x) (hx1 : x < 18446744073709551616) (hy0 : 0 ≤ y) (hy1 : y < 18446744073709551616) (hn1 : n ≤ 9223372036854775807) :
    Calls Try.prog 3 #[.int .u64 x, .int .u64 y, .int .i64 n] w fun e w' => e = .returned (.bool true) ∧ Below w.heap.size w w' := by
  by_cases hn : n < 1
  · have e1 : (bel x n == 0) = true := by unfold bel; rw [if_pos hn]; rfl
    have e2 : (bel y n == 0) = true := by unfold bel; rw [if_pos hn]; rfl
    go_enter Try.func3, Try.ntmps3
    go_wp2_with (first | (go_at_call 6; refine (awake_calls _).mono ?_; rintro e w1 ⟨rfl, hb1⟩) | (go_at_call 7; refine (below_calls _ _ _ (by assumption) (by assumption) hn1).mono ?_; rintro e w2 ⟨rfl, ⟨⟨nq, rfl⟩⟩⟩))
    go_ret
    exact ⟨rfl, ((Step.of_below (F := fun _ => False) hb1).drewN _) |>.below (Nat.le_refl _) (fun _ h => h.elim)⟩
  · have hb : bel x n = x * n / 18446744073709551616 := if_neg hn
    have hb' : bel y n = y * n / 18446744073709551616 := if_neg hn
    obtain ⟨f1, f2⟩ := below_facts hx0 hx1 (show 1 ≤ n by omega)
    have f3 : x ≤ y → x * n / 18446744073709551616 ≤ y * n / 18446744073709551616 := fun h => below_mono (by omega) h
    rw [← hb] at f1 f2 f3
    rw [← hb'] at f3
    clear hb hb'
    have e0 : (bel x n == bel x n) = true := by simp
    by_cases hxy : y < x
    · clear f3
      go_enter Try.func3, Try.ntmps3
      go_wp2_with (first | (go_at_call 6; refine (awake_calls _).mono ?_; rintro e w1 ⟨rfl, hb1⟩) | (go_at_call 7; refine (below_calls _ _ _ (by assumption) (by assumption) hn1).mono ?_; rintro e w2 ⟨rfl, ⟨⟨nq, rfl⟩⟩⟩) | (go_at_call 8; refine (refbelow_calls _ _ _ (by assumption) (by assumption) hn1).mono ?_; rintro e w2 ⟨rfl, ⟨⟨nq, rfl⟩⟩⟩))
      go_ret
      exact ⟨rfl, ((Step.of_below (F := fun _ => False) hb1).drewN _) |>.below (Nat.le_refl _) (fun _ h => h.elim)⟩
    · have f4 := f3 (by omega)
      clear f3
      go_enter Try.func3, Try.ntmps3
      go_wp2_with (first | (go_at_call 6; refine (awake_calls _).mono ?_; rintro e w1 ⟨rfl, hb1⟩) | (go_at_call 7; refine (below_calls _ _ _ (by assumption) (by assumption) hn1).mono ?_; rintro e w2 ⟨rfl, ⟨⟨nq, rfl⟩⟩⟩) | (go_at_call 8; refine (refbelow_calls _ _ _ (by assumption) (by assumption) hn1).mono ?_; rintro e w2 ⟨rfl, ⟨⟨nq, rfl⟩⟩⟩))
      go_ret
      exact ⟨rfl, ((Step.of_below (F := fun _ => False) hb1).drewN _) |>.below (Nat.le_refl _) (fun _ h => h.elim)⟩
end Go.Proofs.Ytlmppdpjjkdoaab.SipB
