/- For any probe p, any bounds c and any list l of flags the law stewardlaw21.ProbeResults answers true: the program's Result gives the reference's probe at each of the first 60 flags, its Run the same count and state, its Clip the reference's bounds. No condition. -/
import Derived.Test.YtlmppdpjjkdoaaaRows
import Derived.Test.YtlmppdpjjkdoaaaWalkProbeResults
import Derived.Test.YtlmppdpjjkdoaaaBase
import Derived.WalkKit
import Derived.ProofKit
import Derived.OpenShut
import Derived.ShutString
import Derived.ChangeOld
import Derived.Below
import Derived.SizedLaws
namespace Go.Proofs.Ytlmppdpjjkdoaaa.probeResults
open Go.ChangeShapes Go.WideShapes Go.ChangeAt Go.RowKit Go.Proofs.Ytlmppdpjjkdoaaa.Base Go.Proofs.YtlmppdpjjkdoaaaW.PrintWords
set_option linter.unusedVariables false
theorem own : ownKnob Try.prog.godebug = none := by kernel_rfl
set_option maxRecDepth 100000 in
theorem lifted (os : Os) (started : os.Started) (H : Type) (enc : TypeId × Value → H) :
    ReturnsInHanded {} Try.checked os 3 .any (Rows.probeResultsSpec.pre6 enc Try.prog Try.f3 Rows.probeResultsRow.domain false) (Rows.probeResultsSpec.post enc Try.prog Try.f3 false true false false) := by
  refine returnsInHanded_of_change_sized (C := Try.checked) own started (by kernel_rfl) Try.func3
    (ChangeSpec.witness6 (enc := enc) (C := Try.checked) false ⟨#[], #[.agg #[.bool false, .int .i64 0, .int .i64 0, .int .i64 0], .agg #[.int .i64 0, .int .i64 0, .int .i64 0, .int .i64 0], .slice none 0 0], []⟩ 8 (by kernel_rfl) (by kernel_rfl) (by kernel_rfl) (by kernel_rfl)) ?_
  intro W base args ds gs before hval0 hW hcnd hsz0 _
  have hval : ∀ (j : Nat) t v, Try.f3.params[j]? = some t → args[j]? = some v → Value.okWide Try.prog W .any base t v := hval0
  have hW' := hW
  obtain ⟨p, q, hA0, hV, rfl, hfz, hnd⟩ := hW
  have hA : DataW.TrodAll enc Try.prog W 0 (fun _ => true) true Try.f3.params.toList args.toList ds p := hA0
  rw [Try.params3] at hA hval
  have hkeep := fun (W' : World) (bel : Below W.heap.size W W') => trodAll_keep (P := Try.prog) (by kernel_rfl) bel (fun t ht => by
    have e : t = 23 ∨ t = 25 ∨ t = 26 := by simpa using ht
    rcases e with rfl | rfl | rfl
    · exact ⟨by kernel_rfl, of_decide_eq_true (by kernel_rfl)⟩
    · exact ⟨by kernel_rfl, of_decide_eq_true (by kernel_rfl)⟩
    · exact ⟨by kernel_rfl, of_decide_eq_true (by kernel_rfl)⟩) hA
  obtain ⟨v0, vs0, d0, ds0, p0, q0, hargs, rfl, rfl, h0, r0⟩ := trodAll_cons hA
  obtain ⟨v1, vs1, d1, ds1, p1, q1, rfl, rfl, rfl, h1, r1⟩ := trodAll_cons r0
  obtain ⟨v2, vs2, d2, ds2, p2, q2, rfl, rfl, rfl, h2, r2⟩ := trodAll_cons r1
  obtain ⟨rfl, rfl, rfl⟩ := trodAll_nil r2
  obtain rfl : args = #[v0, v1, v2] := by cases args; simp_all
  obtain ⟨rfl, rfl⟩ := trodVars_none hV
  obtain ⟨cs0, rfl, hcs0⟩ := okWide_struct Try.underlying23 (hval 0 23 v0 rfl rfl)
  obtain ⟨cs1, rfl, hcs1⟩ := okWide_struct Try.underlying25 (hval 1 25 v1 rfl rfl)
  obtain ⟨sa2, sn2, sc2, rfl⟩ := okWide_slice Try.underlying26 (hval 2 26 v2 rfl rfl)
  obtain ⟨fuel0, hf0⟩ := h0
  obtain ⟨fuel1, hf1⟩ := h1
  obtain ⟨fuel2, hf2⟩ := h2
  have hop0 : Opens enc Try.prog W 0 (fun _ => true) true (Kd.pair Kd.bool (Kd.pair (Kd.int .i64) (Kd.pair (Kd.int .i64) (Kd.int .i64)))) _ 23 :=
    opens_struct Try.underlying23 (by kernel_rfl) (fopens_cons rfl (opens_bool Try.underlying4 (by kernel_rfl)) (fopens_cons rfl (opens_int Try.underlying3 (by kernel_rfl)) (fopens_cons rfl (opens_int Try.underlying3 (by kernel_rfl)) (fopens_last rfl (opens_int Try.underlying3 (by kernel_rfl))))))
  have hop1 : Opens enc Try.prog W 0 (fun _ => true) true (Kd.pair (Kd.int .i64) (Kd.pair (Kd.int .i64) (Kd.pair (Kd.int .i64) (Kd.int .i64)))) _ 25 :=
    opens_struct Try.underlying25 (by kernel_rfl) (fopens_cons rfl (opens_int Try.underlying3 (by kernel_rfl)) (fopens_cons rfl (opens_int Try.underlying3 (by kernel_rfl)) (fopens_cons rfl (opens_int Try.underlying3 (by kernel_rfl)) (fopens_last rfl (opens_int Try.underlying3 (by kernel_rfl))))))
  obtain ⟨⟨up, good, bad, since⟩, ⟨c0, c1, e0, rfl, c2, c3, rfl, rfl, c4, c5, rfl, rfl, rfl⟩, _, wg, wb, _⟩ := hop0.2 _ _ _ hf0
  obtain ⟨⟨ev, wa, ri, fa⟩, ⟨c6, c7, e1, rfl, c8, c9, rfl, rfl, c10, c11, rfl, rfl, rfl⟩, _⟩ := hop1.2 _ _ _ hf1
  obtain ⟨A2, c2', l2, e2, hle2, hC2, hG2⟩ := opens_row Try.underlying26 (opens_bool Try.underlying4 (by kernel_rfl)) hf2
  obtain ⟨rfl, rfl, rfl⟩ : sa2 = A2 ∧ sn2 = l2.length ∧ sc2 = c2' := by simpa [Value.cells] using e2
  obtain rfl : cs0 = #[.bool up, .int .i64 good, .int .i64 bad, .int .i64 since] := by cases cs0; simpa [Value.cells] using e0
  obtain rfl : cs1 = #[.int .i64 ev, .int .i64 wa, .int .i64 ri, .int .i64 fa] := by cases cs1; simpa [Value.cells] using e1
  have bg : -9223372036854775808 ≤ good ∧ good ≤ 9223372036854775807 := bounds_i64 wg
  have bb : -9223372036854775808 ≤ bad ∧ bad ≤ 9223372036854775807 := bounds_i64 wb
  refine (ProbeR.results_calls up good bad since ev wa ri fa (by omega) (by omega) (by omega) (by omega) sa2 sc2 l2 W hC2 hle2).mono fun e W' ⟨he, bel⟩ => ?_
  subst he
  exact ⟨_, rfl, _, _, _, [], _, [], hW', trodAll_mk1 (shut_bool Try.underlying4 _), hkeep W' bel, rfl, bel.frame _, fun h => by cases h⟩
theorem over : Rows.probeResultsRow.holds Try.pinned (OpenSpec.ofChange Rows.probeResultsSpec) :=
  OpenClaim.holds_of_wide 3 Try.f3 rfl rfl rfl rfl rfl rfl rfl ⟨rfl, rfl, rfl, rfl, rfl⟩ rfl rfl rfl rfl rfl (by kernel_rfl) Try.func3 (by kernel_rfl)
    (of_decide_eq_true (by kernel_rfl)) (by unfold Func.isWrapper; first | (rw [if_pos (by decide +kernel)]; kernel_rfl) | (rw [if_neg (by decide +kernel)]; exact ⟨rfl, rfl⟩))
    (fun os started H enc _ => lifted os started H enc)
theorem proved : Rows.ProbeResultsSaid := over
#print axioms proved
end Go.Proofs.Ytlmppdpjjkdoaaa.probeResults
namespace Go.Proofs.Ytlmppdpjjkdoaaa
/-- The row, under a short name, for the claim. -/
theorem probeResults_holds : Rows.ProbeResultsSaid := probeResults.proved
end Go.Proofs.Ytlmppdpjjkdoaaa
