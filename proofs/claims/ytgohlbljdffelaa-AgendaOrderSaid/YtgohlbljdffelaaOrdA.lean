/- law 20: awake. Own work of this seat. -/
import Derived.Test.YtgohlbljdffelaaAgTInt
import Derived.Test.YtgohlbljdffelaaAgTStr
namespace Go.Proofs.Ytgohlbljdffelaa.Ord
open Go.RowKit Go.Proofs.Ytgohlbljdffelaa.Kit Go.Proofs.Ytgohlbljdffelaa.AgP
set_option linter.unusedVariables false
set_option linter.unusedSimpArgs false

def ka : ByteArray := ⟨#[97]⟩
def kb : ByteArray := ⟨#[98]⟩
theorem l3 : setL (setL (setL [] ka (AgStr.clipT 5) ((0 + 1 : Nat) : Int)) kb (AgStr.clipT 3) ((0 + 1 + 1 : Nat) : Int)) ka (AgStr.clipT 2) ((0 + 1 + 1 + 1 : Nat) : Int) = [⟨ka, 2, 3⟩, ⟨kb, 3, 2⟩] := by kernel_rfl
set_option maxRecDepth 100000 in
set_option maxHeartbeats 1000000 in
theorem awake_calls (w : World) : Calls Try.prog 8 #[] w fun e w' => e = .returned (.bool true) ∧ Step (fun _ => False) w w' := by
  have H1 := AgStr.new_calls w
  have hka : AgStr.KOk ka := by unfold AgStr.KOk; decide
  have hkb : AgStr.KOk kb := by unfold AgStr.KOk; decide
  go_enter Try.func8, Try.ntmps8
  go_upto_region 4 with (go_at_call 21; refine H1.mono ?_; rintro e w1 ⟨a, F1, rfl, hA1, hs1, hF1⟩)
  have S1 := AgStr.set_calls hA1 (by omega) hka 5
  have hall1 : Step (fun k => w.heap.size ≤ k) w w1 := hs1.mono (fun _ _ h => h.elim)
  go_upto_region 5 with (go_at_call 29; refine S1.mono ?_; rintro e w2 ⟨rfl, F2, hA2, hs2, hF2⟩)
  have S2 := AgStr.set_calls hA2 (by omega) hkb 3
  go_upto_region 6 with (go_at_call 29; refine S2.mono ?_; rintro e w3 ⟨rfl, F3, hA3, hs3, hF3⟩)
  have S3 := AgStr.set_calls hA3 (by omega) hka 2
  go_upto_region 7 with (go_at_call 29; refine S3.mono ?_; rintro e w4 ⟨rfl, F4, hA4, hs4, hF4⟩)
  rw [l3] at hA4
  have P4 := AgStr.apop_calls hA4 (by omega) 9
  have e1 : AgStr.popV [⟨ka, 2, 3⟩, ⟨kb, 3, 2⟩] 9 = (ka, 2, true) := rfl
  have e2 : AgStr.popL [⟨ka, 2, 3⟩, ⟨kb, 3, 2⟩] 9 = [⟨kb, 3, 2⟩] := rfl
  rw [e1, e2] at P4
  clear S1 S2 S3 H1 e1 e2
  unfold ka at P4
  have hst : Step (fun k => w.heap.size ≤ k) w w4 := by
    have z1 := hs1.size
    have z2 := hs2.size
    have z3 := hs3.size
    have f2 : ∀ k, F2 k → w.heap.size ≤ k := fun k hk => (hF2 k hk).elim (hF1 k) (fun h => by omega)
    have f3 : ∀ k, F3 k → w.heap.size ≤ k := fun k hk => (hF3 k hk).elim (f2 k) (fun h => by omega)
    exact ((hall1.same (hs2.mono (fun j _ h => hF1 j h))).same (hs3.mono (fun j _ h => f2 j h))).same (hs4.mono (fun j _ h => f3 j h))
  have f4 : ∀ k, F4 k → w.heap.size ≤ k := by
    have z1 := hs1.size
    have z2 := hs2.size
    have z3 := hs3.size
    have f2 : ∀ k, F2 k → w.heap.size ≤ k := fun k hk => (hF2 k hk).elim (hF1 k) (fun h => by omega)
    have f3 : ∀ k, F3 k → w.heap.size ≤ k := fun k hk => (hF3 k hk).elim (f2 k) (fun h => by omega)
    exact fun k hk => (hF4 k hk).elim (f3 k) (fun h => by omega)
  go_wp2_with (first | (go_at_call 30; refine P4.mono ?_; rintro e w5 ⟨rfl, hA5, hs5⟩; have hN := AgStr.alen_calls hA5) | (go_at_call 31; refine hN.mono ?_; rintro e w6 ⟨rfl, rfl⟩))
  go_ret
  refine ⟨by simp, ?_⟩
  have hz := hst.same (hs5.mono (fun j _ h => f4 j h))
  exact ⟨hz.os, hz.tape, hz.output, hz.size, fun k hk _ => hz.block k hk (by omega)⟩
end Go.Proofs.Ytgohlbljdffelaa.Ord
