/- For any two lists of acts and any whole number start the law stewardlaw25.IdleClones answers true: behind the first 25 acts a clone is taken, 20 more acts are done on the clone alone, and then both the elder one and the clone are the document's, each its own. No condition. -/
import Derived.Test.YtgohlbljdffelaaWalkIdleClones
import Derived.Test.YtgohlbljdffelaaRows
import Derived.Test.YtgohlbljdffelaaBase
import Derived.WalkKit
import Derived.ProofKit
import Derived.OpenShut
import Derived.ShutString
import Derived.ChangeOld
import Derived.Below
import Derived.SizedLaws
namespace Go.Proofs.Ytgohlbljdffelaa.idleClones
open Go.ChangeShapes Go.WideShapes Go.ChangeAt Go.RowKit Go.Proofs.Ytgohlbljdffelaa.Base Go.Proofs.YtgohlbljdffelaaW.PrintWords
open Go.ChangeMaps (open_string shut_string)
set_option linter.unusedVariables false
theorem own : ownKnob Try.prog.godebug = none := by kernel_rfl
set_option maxRecDepth 100000 in
theorem lifted (os : Os) (started : os.Started) (H : Type) (enc : TypeId × Value → H) :
    ReturnsInHanded {} Try.checked os 7 .any (Rows.idleClonesSpec.pre6 enc Try.prog Try.f7 Rows.idleClonesRow.domain false) (Rows.idleClonesSpec.post enc Try.prog Try.f7 false true false false) := by
  refine returnsInHanded_of_change_sized (C := Try.checked) own started (by kernel_rfl) Try.func7
    (ChangeSpec.witness6 (enc := enc) (C := Try.checked) false ⟨#[], #[.slice none 0 0, .slice none 0 0, .int .i64 0], []⟩ 8 (by kernel_rfl) (by kernel_rfl) (by kernel_rfl) (by kernel_rfl)) ?_
  intro W base args ds gs before hval0 hW hcnd hsz0 _
  have hsz : (DataW.weightsEach Try.prog (Try.f7.params.toList ++ Rows.idleClonesSpec.plain.varTypes Try.prog) (ds ++ gs)).all (· ≤ reachBytes) = true := hsz0
  have hval : ∀ (j : Nat) t v, Try.f7.params[j]? = some t → args[j]? = some v → Value.okWide Try.prog W .any base t v := hval0
  have hW' := hW
  obtain ⟨p, q, hA0, hV, rfl, hfz, hnd⟩ := hW
  have hA : DataW.TrodAll enc Try.prog W 0 (fun _ => true) true Try.f7.params.toList args.toList ds p := hA0
  rw [Try.params7] at hA hval hsz
  have hkeep := fun (W' : World) (bel : Below W.heap.size W W') => trodAll_keep (P := Try.prog) (by kernel_rfl) bel (fun t ht => by
    have e : t = 33 ∨ t = 3 := by simpa using ht
    rcases e with rfl | rfl
    · exact ⟨by kernel_rfl, of_decide_eq_true (by kernel_rfl)⟩
    · exact ⟨by kernel_rfl, of_decide_eq_true (by kernel_rfl)⟩) hA
  obtain ⟨v0, vs0, d0, ds0, p0, q0, hargs, rfl, rfl, h0, r0⟩ := trodAll_cons hA
  obtain ⟨v1, vs1, d1, ds1, p1, q1, rfl, rfl, rfl, h1, r1⟩ := trodAll_cons r0
  obtain ⟨v2, vs2, d2, ds2, p2, q2, rfl, rfl, rfl, h2, r2⟩ := trodAll_cons r1
  obtain ⟨rfl, rfl, rfl⟩ := trodAll_nil r2
  obtain rfl : args = #[v0, v1, v2] := by cases args; simp_all
  obtain ⟨rfl, rfl⟩ := trodVars_none hV
  obtain ⟨sa0, sn0, sc0, rfl⟩ := okWide_slice Try.underlying33 (hval 0 33 v0 rfl rfl)
  obtain ⟨fuel0, hf0⟩ := h0
  obtain ⟨A0, c0, l0, e0, hle0, hC0, hG0⟩ := opens_row Try.underlying33 (opens_iso (fun x : Idl.Act4 => (x.f0, x.f1, x.f2, x.f3)) (fun p => ⟨p.1, p.2.1, p.2.2.1, p.2.2.2⟩) (fun _ => rfl) (opens_struct Try.underlying38 (by kernel_rfl) (fopens_cons rfl (opens_int Try.underlying3 (by kernel_rfl)) (fopens_cons rfl (opens_int Try.underlying3 (by kernel_rfl)) (fopens_cons rfl (opens_int Try.underlying3 (by kernel_rfl)) (fopens_last rfl (opens_string Try.underlying9 (by kernel_rfl)))))))) hf0
  obtain ⟨rfl, rfl, rfl⟩ : sa0 = A0 ∧ sn0 = l0.length ∧ sc0 = c0 := by simpa [Value.cells] using e0
  obtain ⟨sa1, sn1, sc1, rfl⟩ := okWide_slice Try.underlying33 (hval 1 33 v1 rfl rfl)
  obtain ⟨fuel1, hf1⟩ := h1
  obtain ⟨A1, c1, l1, e1, hle1, hC1, hG1⟩ := opens_row Try.underlying33 (opens_iso (fun x : Idl.Act4 => (x.f0, x.f1, x.f2, x.f3)) (fun p => ⟨p.1, p.2.1, p.2.2.1, p.2.2.2⟩) (fun _ => rfl) (opens_struct Try.underlying38 (by kernel_rfl) (fopens_cons rfl (opens_int Try.underlying3 (by kernel_rfl)) (fopens_cons rfl (opens_int Try.underlying3 (by kernel_rfl)) (fopens_cons rfl (opens_int Try.underlying3 (by kernel_rfl)) (fopens_last rfl (opens_string Try.underlying9 (by kernel_rfl)))))))) hf1
  obtain ⟨rfl, rfl, rfl⟩ : sa1 = A1 ∧ sn1 = l1.length ∧ sc1 = c1 := by simpa [Value.cells] using e1
  obtain ⟨a2, rfl, rfl, rfl, w2⟩ := open_int Try.underlying3 (hval 2 3 v2 rfl rfl) h2
  have b2 := bounds_i64 w2
  refine (Idl.clones_calls sa0 sc0 l0 sa1 sc1 l1 a2 W hC0 hle0 (fun x hx => ⟨bounds_i64 (hG0 x hx).2.1, by have := (hG0 x hx).2.2.2; unfold maxLen at this; omega⟩) hC1 hle1 (fun x hx => ⟨bounds_i64 (hG1 x hx).2.1, by have := (hG1 x hx).2.2.2; unfold maxLen at this; omega⟩)).mono fun e W' ⟨he, bel⟩ => ?_
  subst he
  exact ⟨_, rfl, _, _, _, [], _, [], hW', trodAll_mk1 (shut_bool Try.underlying4 _), hkeep W' bel, rfl, bel.frame _, fun h => by cases h⟩
theorem over : Rows.idleClonesRow.holds Try.pinned (OpenSpec.ofChange Rows.idleClonesSpec) :=
  OpenClaim.holds_of_wide 7 Try.f7 rfl rfl rfl rfl rfl rfl rfl ⟨rfl, rfl, rfl, rfl, rfl⟩ rfl rfl rfl rfl rfl (by kernel_rfl) Try.func7 (by kernel_rfl)
    (of_decide_eq_true (by kernel_rfl)) (by unfold Func.isWrapper; first | (rw [if_pos (by decide +kernel)]; kernel_rfl) | (rw [if_neg (by decide +kernel)]; exact ⟨rfl, rfl⟩))
    (fun os started H enc _ => lifted os started H enc)
theorem proved : Rows.IdleClonesSaid := over
#print axioms proved
end Go.Proofs.Ytgohlbljdffelaa.idleClones
namespace Go.Proofs.Ytgohlbljdffelaa
/-- The row, under a short name, for the claim. -/
theorem idleClones_holds : Rows.IdleClonesSaid := idleClones.proved
end Go.Proofs.Ytgohlbljdffelaa
