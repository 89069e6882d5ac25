/- For any record x (a flag, two whole numbers, a list of flags) the law stewardlaw21.ProbeRows answers true: a probe goes up, or down, just behind as many results in a row as are wanted. No condition. -/
import Derived.Test.YtlmppdpjjkdoaaaRows
import Derived.Test.YtlmppdpjjkdoaaaWalkProbeRows
import Derived.Test.YtlmppdpjjkdoaaaBase
import Derived.WalkKit
import Derived.ProofKit
import Derived.OpenShut
import Derived.ShutString
import Derived.ChangeOld
import Derived.Below
import Derived.SizedLaws
namespace Go.Proofs.Ytlmppdpjjkdoaaa.probeRows
open Go.ChangeShapes Go.WideShapes Go.ChangeAt Go.RowKit Go.Proofs.Ytlmppdpjjkdoaaa.Base Go.Proofs.YtlmppdpjjkdoaaaW.PrintWords
set_option linter.unusedVariables false
theorem own : ownKnob Try.prog.godebug = none := by kernel_rfl
set_option maxRecDepth 100000 in
theorem lifted (os : Os) (started : os.Started) (H : Type) (enc : TypeId × Value → H) :
    ReturnsInHanded {} Try.checked os 4 .any (Rows.probeRowsSpec.pre6 enc Try.prog Try.f4 Rows.probeRowsRow.domain false) (Rows.probeRowsSpec.post enc Try.prog Try.f4 false true false false) := by
  refine returnsInHanded_of_change_sized (C := Try.checked) own started (by kernel_rfl) Try.func4
    (ChangeSpec.witness6 (enc := enc) (C := Try.checked) false ⟨#[], #[.agg #[.bool false, .int .i64 0, .int .i64 0, .slice none 0 0]], []⟩ 8 (by kernel_rfl) (by kernel_rfl) (by kernel_rfl) (by kernel_rfl)) ?_
  intro W base args ds gs before hval0 hW hcnd hsz0 _
  have hval : ∀ (j : Nat) t v, Try.f4.params[j]? = some t → args[j]? = some v → Value.okWide Try.prog W .any base t v := hval0
  have hW' := hW
  obtain ⟨p, q, hA0, hV, rfl, hfz, hnd⟩ := hW
  have hA : DataW.TrodAll enc Try.prog W 0 (fun _ => true) true Try.f4.params.toList args.toList ds p := hA0
  rw [Try.params4] at hA hval
  have hkeep := fun (W' : World) (bel : Below W.heap.size W W') => trodAll_keep (P := Try.prog) (by kernel_rfl) bel (fun t ht => by
    have e : t = 40 := by simpa using ht
    subst e
    exact ⟨by kernel_rfl, of_decide_eq_true (by kernel_rfl)⟩) hA
  obtain ⟨v0, vs0, d0, ds0, p0, q0, hargs, rfl, rfl, h0, r0⟩ := trodAll_cons hA
  obtain ⟨rfl, rfl, rfl⟩ := trodAll_nil r0
  obtain rfl : args = #[v0] := by cases args; simp_all
  obtain ⟨rfl, rfl⟩ := trodVars_none hV
  obtain ⟨cs, rfl, hcs⟩ := okWide_struct Try.underlying40 (hval 0 40 v0 rfl rfl)
  obtain ⟨fuel, hf⟩ := h0
  have hop : Opens enc Try.prog W 0 (fun _ => true) true (Kd.pair Kd.bool (Kd.pair (Kd.int .i64) (Kd.pair (Kd.int .i64) (Kd.slice 4 Kd.bool)))) _ 40 :=
    opens_struct Try.underlying40 (by kernel_rfl) (fopens_cons rfl (opens_bool Try.underlying4 (by kernel_rfl)) (fopens_cons rfl (opens_int Try.underlying3 (by kernel_rfl)) (fopens_cons rfl (opens_int Try.underlying3 (by kernel_rfl)) (fopens_last rfl (opens_slice Try.underlying26 (by kernel_rfl) (opens_bool Try.underlying4 (by kernel_rfl)))))))
  obtain ⟨⟨up, rise, fall, l⟩, ⟨c0, c1, e, rfl, c2, c3, rfl, rfl, c4, c5, rfl, rfl, A, c, rfl, hle, hC⟩, _, wr, wf, _⟩ := hop.2 _ _ _ hf
  obtain rfl : cs = #[.bool up, .int .i64 rise, .int .i64 fall, .slice A l.length c] := by cases cs; simpa [Value.cells] using e
  refine (Probe.rows_calls up rise fall A c l W hC hle).mono fun e W' ⟨he, bel⟩ => ?_
  subst he
  exact ⟨_, rfl, _, _, _, [], _, [], hW', trodAll_mk1 (shut_bool Try.underlying4 _), hkeep W' bel, rfl, bel.frame _, fun h => by cases h⟩
theorem over : Rows.probeRowsRow.holds Try.pinned (OpenSpec.ofChange Rows.probeRowsSpec) :=
  OpenClaim.holds_of_wide 4 Try.f4 rfl rfl rfl rfl rfl rfl rfl ⟨rfl, rfl, rfl, rfl, rfl⟩ rfl rfl rfl rfl rfl (by kernel_rfl) Try.func4 (by kernel_rfl)
    (of_decide_eq_true (by kernel_rfl)) (by unfold Func.isWrapper; first | (rw [if_pos (by decide +kernel)]; kernel_rfl) | (rw [if_neg (by decide +kernel)]; exact ⟨rfl, rfl⟩))
    (fun os started H enc _ => lifted os started H enc)
theorem proved : Rows.ProbeRowsSaid := over
#print axioms proved
end Go.Proofs.Ytlmppdpjjkdoaaa.probeRows
namespace Go.Proofs.Ytlmppdpjjkdoaaa
/-- The row, under a short name, for the claim. -/
theorem probeRows_holds : Rows.ProbeRowsSaid := probeRows.proved
end Go.Proofs.Ytlmppdpjjkdoaaa
