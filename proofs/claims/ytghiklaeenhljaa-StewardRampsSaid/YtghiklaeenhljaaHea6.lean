/- health: Result, Add, New. Own work of this seat. -/
import Derived.Test.YtghiklaeenhljaaHea5
namespace Go.Proofs.Ytghiklaeenhljaa.Hea
open Go.RowKit Go.Proofs.Ytghiklaeenhljaa.Kit Go.Proofs.Ytghiklaeenhljaa.PStewardRamps Go.Proofs.YtghiklaeenhljaaW.PrintWords Go.Proofs.Ytghiklaeenhljaa.AgP Go.Proofs.Ytghiklaeenhljaa
set_option linter.unusedVariables false
set_option linter.unusedSimpArgs false

theorem tick_calls (now : Int) (w : World) : Calls Try.prog 28 #[.int .i64 now] w fun e w' => e = .returned (.int .i64 (AgStr.clipT now)) ∧ Step (fun _ => False) w w' := by
  have hf : health_tick.f now = some (AgStr.clipT now) := by
    unfold health_tick.f
    congr 1
    unfold AgStr.clipT mx mn
    split <;> split <;> omega
  exact (health_tick.calls now _ w hf).mono fun e w' h => ⟨h.1, step_bel h.2⟩

set_option maxRecDepth 100000 in
set_option maxHeartbeats 2000000 in
theorem res_none {w : World} {p : Nat} {F : Nat → Prop} {c : Cf} {q : ByteArray → Option Ho} {L : List (Ev ByteArray)} {t u : Nat} {ep : Int} (h : HeR w p F c q L t u ep) {s : ByteArray} (hs : s.size ≤ 1000) (good : Bool) (now : Int) (hq : q s = none) :
    Calls Try.prog 12 #[.pointer (some ⟨p, 0, none⟩), .string s, .bool good, .int .i64 now] w fun e w' => e = .returned (.tuple #[.slice none 0 0, .int .i64 6]) ∧ Step (fun _ => False) w w' := by
  obtain ⟨g1, a, M, FA, n, m, f, hx, hnu, hF⟩ := h
  have c4 := hx.blk.cell (i := 4) rfl
  have hl := hx.look_ok hs
  rw [hq] at hl
  unfold encH at hl
  simp only [Option.getD_none, Option.isSome_none] at hl
  clear hx hF
  go_enter Try.func12, Try.ntmps12
  go_wp2
  go_ret2
  exact ⟨rfl, (Step.refl _ _).alloc _⟩
set_option maxRecDepth 100000 in
set_option maxHeartbeats 2000000 in
theorem res_idle {w : World} {p : Nat} {F : Nat → Prop} {c : Cf} {q : ByteArray → Option Ho} {L : List (Ev ByteArray)} {t u : Nat} {ep : Int} (h : HeR w p F c q L t u ep) {s : ByteArray} (hs : s.size ≤ 1000) (good : Bool) (now : Int) {x : Ho} (hq : q s = some x) (hw : x.waits = false) :
    Calls Try.prog 12 #[.pointer (some ⟨p, 0, none⟩), .string s, .bool good, .int .i64 now] w fun e w' => e = .returned (.tuple #[.slice none 0 0, .int .i64 9]) ∧ Step (fun _ => False) w w' := by
  obtain ⟨g1, a, M, FA, n, m, f, hx, hnu, hF⟩ := h
  have c4 := hx.blk.cell (i := 4) rfl
  have hl := hx.look_ok hs
  rw [hq] at hl
  unfold encH at hl
  obtain ⟨⟨x0, x1, x2, x3⟩, x4⟩ := x
  simp only at hw
  subst hw
  simp only [Option.getD_some, Option.isSome_some] at hl
  clear hx hF
  go_enter Try.func12, Try.ntmps12
  go_upto_region 2 with (fail)
  refine alloc_next (cs := [.bool x0, .int .i64 x1, .int .i64 x2, .int .i64 x3, .bool false]) ?_
  intro w1 hO hs1
  have o4 := hO.cell (i := 4) rfl
  go_wp2
  go_ret2
  exact ⟨rfl, hs1⟩
set_option maxRecDepth 100000 in
set_option maxHeartbeats 2000000 in
theorem res_waits {w : World} {p : Nat} {F : Nat → Prop} {c : Cf} {q : ByteArray → Option Ho} {L : List (Ev ByteArray)} {t u : Nat} {ep : Int} (h : HeR w p F c q L t u ep) (hu : u ≤ 79000) (hep : 0 ≤ ep ∧ ep ≤ 1000000000) {s : ByteArray} (hs : s.size ≤ 1000) (good : Bool) (now : Int) {x : Ho} (hq : q s = some x) (hw : x.waits = true) :
    Calls Try.prog 12 #[.pointer (some ⟨p, 0, none⟩), .string s, .bool good, .int .i64 now] w fun e w' => ∃ F' A cA, e = .returned (.tuple #[.slice A (resE (resP x.pb c good (AgStr.clipT now)) s (AgStr.clipT now)).length cA, .int .i64 0]) ∧ ESeg w' A (resE (resP x.pb c good (AgStr.clipT now)) s (AgStr.clipT now)).length cA (resE (resP x.pb c good (AgStr.clipT now)) s (AgStr.clipT now)) ∧ (∀ k, blockOf A = some k → w.heap.size ≤ k ∧ ¬ F' k) ∧
      HeR w' p F' c (setQ q s (some ⟨(resP x.pb c good (AgStr.clipT now)).1, false⟩)) (timL L t s (AgStr.clipT now + c.every)).1 (timL L t s (AgStr.clipT now + c.every)).2 (u + 2) (if (resP x.pb c good (AgStr.clipT now)).2 then ep + 1 else ep) ∧ Step F w w' ∧ ∀ k, F' k → F k ∨ w.heap.size ≤ k := by
  obtain ⟨g1, a, M, FA, n, m, f, hx, hnu, hF⟩ := id h
  have c4 := hx.blk.cell (i := 4) rfl
  have hl := hx.look_ok hs
  have hpk : PbOk x.pb := hx.ok s x hq
  have hcl : 0 ≤ AgStr.clipT now ∧ AgStr.clipT now ≤ 1099511627776 := by unfold AgStr.clipT; omega
  have HTI := Lib.hid (fun w1 => tick_calls now w1)
  have HRE := Lib.hid (fun w1 (hs1 : Step (fun _ => False) w w1) => result2_calls (h.same hs1) hu hep hs good hcl (x := x) (by rw [hq]; rfl) hpk)
  rw [hq] at hl
  unfold encH at hl
  generalize AgStr.clipT now = nw at *
  obtain ⟨⟨x0, x1, x2, x3⟩, x4⟩ := x
  simp only at hw
  subst hw
  simp only [Option.getD_some, Option.isSome_some] at hl
  simp only at HRE
  generalize resE (resP ⟨x0, x1, x2, x3⟩ c good nw) s nw = re at *
  generalize resP ⟨x0, x1, x2, x3⟩ c good nw = rr at *
  generalize (if rr.2 = true then ep + 1 else ep) = en at *
  clear hx hF h
  go_enter Try.func12, Try.ntmps12
  go_upto_region 2 with (fail)
  refine alloc_next (cs := [.bool x0, .int .i64 x1, .int .i64 x2, .int .i64 x3, .bool true]) ?_
  intro w1 hO hs1
  have o4 := hO.cell (i := 4) rfl
  go_wp2_with (first | (go_at_call 28; refine (HTI.out _).mono ?_; rintro e w2 ⟨rfl, hs2⟩) | (go_at_call 34; refine (HRE.out _ (hs1.same hs2)).mono ?_; rintro e w3 ⟨F3, A3, c3, rfl, hA3, hf3, hI3, hs3, hn3⟩))
  go_ret2
  have hz := (hs1.same hs2).size
  exact ⟨F3, A3, c3, rfl, hA3, fun k hk => ⟨by have := (hf3 k hk).1; omega, (hf3 k hk).2⟩, hI3, ((hs1.same hs2).mono (fun _ _ h => h.elim)).same hs3, fun k hk => (hn3 k hk).imp id (fun h => by omega)⟩
end Go.Proofs.Ytghiklaeenhljaa.Hea
