/- health: New. Own work of this seat. -/
import Derived.Test.YtghiklaeenhljaaHea7
namespace Go.Proofs.Ytghiklaeenhljaa.Hea
open Go.RowKit Go.Proofs.Ytghiklaeenhljaa.Kit Go.Proofs.Ytghiklaeenhljaa.PStewardRamps Go.Proofs.YtghiklaeenhljaaW.PrintWords Go.Proofs.Ytghiklaeenhljaa.AgP Go.Proofs.Ytghiklaeenhljaa
set_option linter.unusedVariables false
set_option linter.unusedSimpArgs false

set_option maxRecDepth 100000 in
set_option maxHeartbeats 4000000 in
theorem new_calls {c : Cf} (hc : CfOk c) (w : World) :
    Calls Try.prog 7 #[.agg #[.int .i64 c.every, .int .i64 c.wait, .int .i64 c.rise, .int .i64 c.fall]] w fun e w' => ∃ p F, e = .returned (.pointer (some ⟨p, 0, none⟩)) ∧ HeR w' p F c (fun _ => none) [] 0 0 0 ∧ Step (fun _ => False) w w' ∧ ∀ k, F k → w.heap.size ≤ k := by
  have HCL := Lib.hid (fun w1 => clip_ok hc w1)
  have HNW := Lib.hid (fun w1 => AgStr.new_calls w1)
  have hmm := @run_makeMap Try.prog
  go_enter Try.func7, Try.ntmps7
  go_upto_region 1 with (fail)
  refine alloc_next (cs := [.int .i64 c.every, .int .i64 c.wait, .int .i64 c.rise, .int .i64 c.fall]) ?_
  intro w1 hO hs1
  have o0 := hO.cell (i := 0) rfl
  have o1 := hO.cell (i := 1) rfl
  have o2 := hO.cell (i := 2) rfl
  have o3 := hO.cell (i := 3) rfl
  go_wp2_with (first | (go_at_call 26; refine (HCL.out _).mono ?_; rintro e w2 ⟨rfl, hs2⟩) | (go_at_call 27; refine (HNW.out _).mono ?_; rintro e w3 ⟨a, FA, rfl, hA, hs3, hn3⟩))
  go_ret
  have hz : ∀ (W : World) (o : Obj), (W.alloc o).heap.size = W.heap.size + 1 := fun W o => by show (W.heap.push _).size = _; simp
  have hB := blk_new w3 [.int .i64 c.every, .int .i64 c.wait, .int .i64 c.rise, .int .i64 c.fall, .map (some w2.heap.size), .pointer (some ⟨a, 0, none⟩), .int .i64 0] 73
  have hal : Step (fun _ => False) w3 (w3.alloc (.cells #[.int .i64 c.every, .int .i64 c.wait, .int .i64 c.rise, .int .i64 c.fall, .map (some w2.heap.size), .pointer (some ⟨a, 0, none⟩), .int .i64 0] 73)) := (Step.refl _ _).alloc _
  have hM := ((mg_new Try.prog 9 w2).keep hs3 (fun h => h)).keep hal (fun h => h)
  have hA' := hA.keep hal (fun _ _ h => h)
  have hz1 := hs1.size
  have hz2 := hs2.size
  have hz3 := hs3.size
  rw [hz] at hz3
  have hz4 := hz w3 (.cells #[.int .i64 c.every, .int .i64 c.wait, .int .i64 c.rise, .int .i64 c.fall, .map (some w2.heap.size), .pointer (some ⟨a, 0, none⟩), .int .i64 0] 73)
  have hfa : ∀ k, FA k → w2.heap.size + 1 ≤ k ∧ k < w3.heap.size := fun k hk => ⟨by have := hn3 k hk; rw [hz] at this; exact this, hA.lt hk⟩
  refine ⟨_, fun k => k = w3.heap.size ∨ k = w2.heap.size ∨ FA k, rfl, ⟨fun k hk => ?_, a, w2.heap.size, FA, 0, 0, fun _ => none, ⟨hB, hA', hM, fun s => rfl, ⟨fun h => by have := hfa _ h; omega, fun h => by have := hfa _ h; omega, by omega⟩, fun s x h => (by cases h), hc⟩, ⟨Nat.le_refl _, Nat.le_refl _⟩, fun k hk => hk⟩, ((hs1.same hs2).same (((Step.refl _ _).alloc _).same hs3)).same hal, fun k hk => ?_⟩
  · rcases hk with h | h | h
    · omega
    · omega
    · have := hfa k h; omega
  · rcases hk with h | h | h
    · omega
    · omega
    · have := hfa k h; omega
end Go.Proofs.Ytghiklaeenhljaa.Hea
