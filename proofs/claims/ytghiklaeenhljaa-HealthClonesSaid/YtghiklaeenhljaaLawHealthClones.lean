/- For any Config and any two lists of acts the law stewardlaw23.HealthClones answers true: behind the first 20 acts a clone is taken, 20 more acts are done on the clone alone, and then both the elder one and the clone are the document's, each its own. No condition. -/
import Derived.Test.YtghiklaeenhljaaWalkHealthClones
import Derived.Test.YtghiklaeenhljaaRows
import Derived.Test.YtghiklaeenhljaaMHealthEpochs2
import Derived.WalkKit
import Derived.ProofKit
import Derived.OpenShut
import Derived.ShutString
import Derived.ChangeOld
import Derived.Below
import Derived.SizedLaws
namespace Go.Proofs.Ytghiklaeenhljaa.healthClones
open Go.ChangeShapes Go.WideShapes Go.ChangeAt Go.RowKit Go.Proofs.Ytghiklaeenhljaa.Base Go.Proofs.YtghiklaeenhljaaW.PrintWords
open Go.ChangeMaps (open_string shut_string)
set_option linter.unusedVariables false
theorem own : ownKnob Try.prog.godebug = none := by kernel_rfl
set_option maxRecDepth 100000 in
theorem lifted (os : Os) (started : os.Started) (H : Type) (enc : TypeId × Value → H) :
    ReturnsInHanded {} Try.checked os 6 .any (Rows.healthClonesSpec.pre6 enc Try.prog Try.f6 Rows.healthClonesRow.domain false) (Rows.healthClonesSpec.post enc Try.prog Try.f6 false true false false) := by
  refine returnsInHanded_of_change_sized (C := Try.checked) own started (by kernel_rfl) Try.func6
    (ChangeSpec.witness6 (enc := enc) (C := Try.checked) false ⟨#[], #[.agg #[.int .i64 0, .int .i64 0, .int .i64 0, .int .i64 0], .slice none 0 0, .slice none 0 0], []⟩ 8 (by kernel_rfl) (by kernel_rfl) (by kernel_rfl) (by kernel_rfl)) ?_
  intro W base args ds gs before hval0 hW hcnd hsz0 _
  have hsz : (DataW.weightsEach Try.prog (Try.f6.params.toList ++ Rows.healthClonesSpec.plain.varTypes Try.prog) (ds ++ gs)).all (· ≤ reachBytes) = true := hsz0
  have hval : ∀ (j : Nat) t v, Try.f6.params[j]? = some t → args[j]? = some v → Value.okWide Try.prog W .any base t v := hval0
  have hW' := hW
  obtain ⟨p, q, hA0, hV, rfl, hfz, hnd⟩ := hW
  have hA : DataW.TrodAll enc Try.prog W 0 (fun _ => true) true Try.f6.params.toList args.toList ds p := hA0
  rw [Try.params6] at hA hval hsz
  have hkeep := fun (W' : World) (bel : Below W.heap.size W W') => trodAll_keep (P := Try.prog) (by kernel_rfl) bel (fun t ht => by
    have e : t = 45 ∨ t = 46 := by simpa using ht
    rcases e with rfl | rfl
    · exact ⟨by kernel_rfl, of_decide_eq_true (by kernel_rfl)⟩
    · exact ⟨by kernel_rfl, of_decide_eq_true (by kernel_rfl)⟩) hA
  obtain ⟨v0, vs0, d0, ds0, p0, q0, hargs, rfl, rfl, h0, r0⟩ := trodAll_cons hA
  obtain ⟨v1, vs1, d1, ds1, p1, q1, rfl, rfl, rfl, h1, r1⟩ := trodAll_cons r0
  obtain ⟨v2, vs2, d2, ds2, p2, q2, rfl, rfl, rfl, h2, r2⟩ := trodAll_cons r1
  obtain ⟨rfl, rfl, rfl⟩ := trodAll_nil r2
  obtain rfl : args = #[v0, v1, v2] := by cases args; simp_all
  obtain ⟨rfl, rfl⟩ := trodVars_none hV
  obtain ⟨cs0, rfl, hcs0⟩ := okWide_struct Try.underlying45 (hval 0 45 v0 rfl rfl)
  obtain ⟨fuel0, hf0⟩ := h0
  have hop0 : Opens enc Try.prog W 0 (fun _ => true) true (Kd.pair (Kd.int .i64) (Kd.pair (Kd.int .i64) (Kd.pair (Kd.int .i64) (Kd.int .i64)))) _ 45 :=
    opens_struct Try.underlying45 (by kernel_rfl) (fopens_cons rfl (opens_int Try.underlying3 (by kernel_rfl)) (fopens_cons rfl (opens_int Try.underlying3 (by kernel_rfl)) (fopens_cons rfl (opens_int Try.underlying3 (by kernel_rfl)) (fopens_last rfl (opens_int Try.underlying3 (by kernel_rfl))))))
  obtain ⟨⟨i0a, i0b, i0c, i0d⟩, ⟨j0a, j0b, e0, rfl, j0c, j0d, rfl, rfl, j0e, j0f, rfl, rfl, rfl⟩, _⟩ := hop0.2 _ _ _ hf0
  obtain rfl : cs0 = #[.int .i64 i0a, .int .i64 i0b, .int .i64 i0c, .int .i64 i0d] := by cases cs0; simpa [Value.cells] using e0
  obtain ⟨sa1, sn1, sc1, rfl⟩ := okWide_slice Try.underlying46 (hval 1 46 v1 rfl rfl)
  obtain ⟨fuel1, hf1⟩ := h1
  obtain ⟨A1, c1, l1, e1, hle1, hC1, hG1⟩ := opens_row Try.underlying46 (opens_iso (fun x : Hea.Act5 => (x.f0, x.f1, x.f2, x.f3)) (fun p => ⟨p.1, p.2.1, p.2.2.1, p.2.2.2⟩) (fun _ => rfl) (opens_struct Try.underlying51 (by kernel_rfl) (fopens_cons rfl (opens_int Try.underlying3 (by kernel_rfl)) (fopens_cons rfl (opens_int Try.underlying3 (by kernel_rfl)) (fopens_cons rfl (opens_string Try.underlying9 (by kernel_rfl)) (fopens_last rfl (opens_bool Try.underlying4 (by kernel_rfl)))))))) hf1
  obtain ⟨rfl, rfl, rfl⟩ : sa1 = A1 ∧ sn1 = l1.length ∧ sc1 = c1 := by simpa [Value.cells] using e1
  obtain ⟨sa2, sn2, sc2, rfl⟩ := okWide_slice Try.underlying46 (hval 2 46 v2 rfl rfl)
  obtain ⟨fuel2, hf2⟩ := h2
  obtain ⟨A2, c2, l2, e2, hle2, hC2, hG2⟩ := opens_row Try.underlying46 (opens_iso (fun x : Hea.Act5 => (x.f0, x.f1, x.f2, x.f3)) (fun p => ⟨p.1, p.2.1, p.2.2.1, p.2.2.2⟩) (fun _ => rfl) (opens_struct Try.underlying51 (by kernel_rfl) (fopens_cons rfl (opens_int Try.underlying3 (by kernel_rfl)) (fopens_cons rfl (opens_int Try.underlying3 (by kernel_rfl)) (fopens_cons rfl (opens_string Try.underlying9 (by kernel_rfl)) (fopens_last rfl (opens_bool Try.underlying4 (by kernel_rfl)))))))) hf2
  obtain ⟨rfl, rfl, rfl⟩ : sa2 = A2 ∧ sn2 = l2.length ∧ sc2 = c2 := by simpa [Value.cells] using e2
  refine (HeD.clones_calls ⟨i0a, i0b, i0c, i0d⟩ sa1 sc1 l1 sa2 sc2 l2 W hC1 hle1 (fun x hx => by have := (hG1 x hx).2.2.1; unfold maxLen at this; omega) hC2 hle2 (fun x hx => by have := (hG2 x hx).2.2.1; unfold maxLen at this; omega)).mono fun e W' ⟨he, bel⟩ => ?_
  subst he
  exact ⟨_, rfl, _, _, _, [], _, [], hW', trodAll_mk1 (shut_bool Try.underlying4 _), hkeep W' bel, rfl, bel.frame _, fun h => by cases h⟩
theorem over : Rows.healthClonesRow.holds Try.pinned (OpenSpec.ofChange Rows.healthClonesSpec) :=
  OpenClaim.holds_of_wide 6 Try.f6 rfl rfl rfl rfl rfl rfl rfl ⟨rfl, rfl, rfl, rfl, rfl⟩ rfl rfl rfl rfl rfl (by kernel_rfl) Try.func6 (by kernel_rfl)
    (of_decide_eq_true (by kernel_rfl)) (by unfold Func.isWrapper; first | (rw [if_pos (by decide +kernel)]; kernel_rfl) | (rw [if_neg (by decide +kernel)]; exact ⟨rfl, rfl⟩))
    (fun os started H enc _ => lifted os started H enc)
theorem proved : Rows.HealthClonesSaid := over
#print axioms proved
end Go.Proofs.Ytghiklaeenhljaa.healthClones
namespace Go.Proofs.Ytghiklaeenhljaa
/-- The row, under a short name, for the claim. -/
theorem healthClones_holds : Rows.HealthClonesSaid := healthClones.proved
end Go.Proofs.Ytghiklaeenhljaa
