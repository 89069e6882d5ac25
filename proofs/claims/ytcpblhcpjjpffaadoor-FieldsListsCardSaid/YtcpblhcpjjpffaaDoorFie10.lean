/- law 06: awake. Own work of this seat; no condition. -/
import Derived.Test.YtcpblhcpjjpffaaDoorFie7
import Derived.Test.YtcpblhcpjjpffaaDoorFie9
namespace Go.Proofs.YtcpblhcpjjpffaaDoor.Fie
open Go.RowKit Go.Proofs.YtcpblhcpjjpffaaDoor.Kit Go.Proofs.YtcpblhcpjjpffaaDoor.Oct Go.Proofs.YtcpblhcpjjpffaaDoor.Cut
set_option linter.unusedVariables false
set_option linter.unusedSimpArgs false

def lHost : List Fd := [⟨⟨#[72, 111, 115, 116]⟩, ⟨#[97]⟩⟩, ⟨⟨#[88]⟩, ⟨#[49]⟩⟩, ⟨⟨#[72, 79, 83, 84]⟩, ⟨#[99]⟩⟩]
theorem p_host : parseF ⟨#[72, 111, 115, 116, 58, 32, 32, 97, 32]⟩ = some (⟨#[72, 111, 115, 116]⟩, ⟨#[97]⟩) := by kernel_rfl
theorem t_host : ofL (textL (setF lHost ⟨#[104, 111, 115, 116]⟩ ⟨#[98]⟩)) = ⟨#[104, 111, 115, 116, 58, 32, 98, 13, 10, 88, 58, 32, 49, 13, 10]⟩ := by kernel_rfl
theorem ln_host : lineB ⟨#[72, 111, 115, 116]⟩ ⟨#[97]⟩ = ⟨#[72, 111, 115, 116, 58, 32, 97, 13, 10]⟩ := by kernel_rfl
theorem len_set : (setF lHost ⟨#[104, 111, 115, 116]⟩ ⟨#[98]⟩).length = 2 := by kernel_rfl
theorem sm_host : Sml lHost := by
  intro x hx
  simp only [lHost, List.mem_cons, List.not_mem_nil, or_false] at hx
  rcases hx with rfl | rfl | rfl <;> decide
theorem sm_set : Sml (setF lHost ⟨#[104, 111, 115, 116]⟩ ⟨#[98]⟩) := by
  have e : setF lHost ⟨#[104, 111, 115, 116]⟩ ⟨#[98]⟩ = [⟨⟨#[104, 111, 115, 116]⟩, ⟨#[98]⟩⟩, ⟨⟨#[88]⟩, ⟨#[49]⟩⟩] := by kernel_rfl
  rw [e]
  intro x hx
  simp only [List.mem_cons, List.not_mem_nil, or_false] at hx
  rcases hx with rfl | rfl <;> decide
set_option maxRecDepth 100000 in
set_option maxHeartbeats 2000000 in
theorem awake_calls (w : World) : Calls Tryd.prog 10 #[] w fun e w' => e = .returned (.bool true) ∧ Step (fun _ => False) w w' := by
  have hp0 := fun w => parse_calls ⟨#[72, 111, 115, 116, 58, 32, 32, 97, 32]⟩ (by decide) w
  rw [p_host] at hp0
  simp only [pfN, pfV, pfE] at hp0
  have HP := Lib.hid hp0
  have hl0 := fun w => line_calls ⟨#[72, 111, 115, 116]⟩ ⟨#[97]⟩ (by decide) (by decide) w
  rw [ln_host] at hl0
  have HL := Lib.hid hl0
  have hq := fun w => eqFd ⟨⟨#[72, 111, 115, 116]⟩, ⟨#[97]⟩⟩ ⟨⟨#[72, 111, 115, 116]⟩, ⟨#[97]⟩⟩ w
  rw [(eqF_iff _ _).2 rfl] at hq
  simp only at hq
  clear hp0 hl0
  go_enter Tryd.func10, Tryd.ntmps10
  go_upto_region 2 with (go_at_call 12; refine (HP.out _).mono ?_; rintro e w1 ⟨rfl, hs1⟩)
  refine alloc_next (cs := [.string ⟨#[72, 111, 115, 116]⟩, .string ⟨#[97]⟩]) ?_
  intro w2 hE hs2
  have e0 := hE.cell (i := 0) rfl
  have e1 := hE.cell (i := 1) rfl
  go_upto_region 3 with (fail)
  refine alloc_next (cs := fdcs lHost) ?_
  intro w3 hR hs3
  have hE3 := hE.keep hs3 (fun h => h)
  clear e0 e1
  have e0 := hE3.cell (i := 0) rfl
  have e1 := hE3.cell (i := 1) rfl
  have hFW : FW w3 25 (some ⟨w2.heap.size, 0, none⟩) 3 3 lHost := ⟨rfl, .inr ⟨w2.heap.size, _, rfl, hR, Nat.le_refl _, by decide, fun j v hj => by simpa using hj⟩⟩
  have hlt : w2.heap.size < w3.heap.size := hR.lt
  generalize w2.heap.size = g at *
  have HSET := Lib.hid (set_calls (c := 3) (n := 3) hFW.rd (fun k hk => by have : g = k := Option.some.inj hk; omega) (by omega) (by omega) sm_host ⟨#[104, 111, 115, 116]⟩ ⟨#[98]⟩ (by decide))
  have HE3 := Lib.hid hE3
  clear hFW hR hE hE3
  go_wp2_with (first
    | (go_at_call 36; refine HSET.out.mono ?_; rintro e w4 ⟨A4, k4, c4, rfl, hF4, hs4, hf4⟩; have hE4 := HE3.out.keep hs4 (fun h => h))
    | (go_at_call 39; refine (text_calls hF4.rd (fun k hk => FSeg.lt hF4 hk) (by have h := hF4.len; rw [len_set] at h; omega) sm_set).mono ?_; rw [t_host]; rintro e w5 ⟨rfl, hs5⟩; have hE5 := hE4.keep hs5 (fun h => h); clear e0 e1; have e0 := hE5.cell (i := 0) rfl; have e1 := hE5.cell (i := 1) rfl)
    | (go_at_call 14; refine (HL.out _).mono ?_; rintro e w6 ⟨rfl, hs6⟩))
  go_ret
  exact ⟨rfl, ((((hs1.same hs2).same hs3).same hs4).same hs5).same hs6⟩
end Go.Proofs.YtcpblhcpjjpffaaDoor.Fie
