/- For any two lists of acts (each a Pick or a Keep, with a list of entries: a name and a whole number each) the law stewardlaw15.RotorPlays answers true: after each of the first 30 acts (their first 8 entries, names cut to 12 bytes) the selected name and the marks are those of the document, and a clone goes its own way over the first 10 of the other acts. No condition. -/
import Derived.Test.YtlmppdpjjkdoaabWalkRotorPlays
import Derived.Test.YtlmppdpjjkdoaabRows
import Derived.Test.YtlmppdpjjkdoaabBase
import Derived.WalkKit
import Derived.ProofKit
import Derived.OpenShut
import Derived.ShutString
import Derived.ChangeOld
import Derived.Below
import Derived.SizedLaws
namespace Go.Proofs.Ytlmppdpjjkdoaab.rotorPlays
open Go.ChangeShapes Go.WideShapes Go.ChangeAt Go.RowKit Go.Proofs.Ytlmppdpjjkdoaab.Base Go.Proofs.YtlmppdpjjkdoaabW.PrintWords
open Go.ChangeMaps (open_string shut_string)
open Go.Proofs.Ytlmppdpjjkdoaab.PRotorPlays
set_option linter.unusedVariables false
theorem own : ownKnob Try.prog.godebug = none := by kernel_rfl
set_option maxRecDepth 100000 in
theorem lifted (os : Os) (started : os.Started) (H : Type) (enc : TypeId × Value → H) :
    ReturnsInHanded {} Try.checked os 5 .any (Rows.rotorPlaysSpec.pre6 enc Try.prog Try.f5 Rows.rotorPlaysRow.domain false) (Rows.rotorPlaysSpec.post enc Try.prog Try.f5 false true false false) := by
  refine returnsInHanded_of_change_sized (C := Try.checked) own started (by kernel_rfl) Try.func5
    (ChangeSpec.witness6 (enc := enc) (C := Try.checked) false ⟨#[], #[.slice none 0 0, .slice none 0 0], []⟩ 8 (by kernel_rfl) (by kernel_rfl) (by kernel_rfl) (by kernel_rfl)) ?_
  intro W base args ds gs before hval0 hW hcnd hsz0 _
  have hsz : (DataW.weightsEach Try.prog (Try.f5.params.toList ++ Rows.rotorPlaysSpec.plain.varTypes Try.prog) (ds ++ gs)).all (· ≤ reachBytes) = true := hsz0
  have hval : ∀ (j : Nat) t v, Try.f5.params[j]? = some t → args[j]? = some v → Value.okWide Try.prog W .any base t v := hval0
  have hW' := hW
  obtain ⟨p, q, hA0, hV, rfl, hfz, hnd⟩ := hW
  have hA : DataW.TrodAll enc Try.prog W 0 (fun _ => true) true Try.f5.params.toList args.toList ds p := hA0
  rw [Try.params5] at hA hval hsz
  have hkeep := fun (W' : World) (bel : Below W.heap.size W W') => trodAll_keep (P := Try.prog) (by kernel_rfl) bel (fun t ht => by
    have e : t = 34 := by simpa using ht
    subst e
    exact ⟨by kernel_rfl, of_decide_eq_true (by kernel_rfl)⟩) hA
  obtain ⟨v0, vs0, d0, ds0, p0, q0, hargs, rfl, rfl, h0, r0⟩ := trodAll_cons hA
  obtain ⟨v1, vs1, d1, ds1, p1, q1, rfl, rfl, rfl, h1, r1⟩ := trodAll_cons r0
  obtain ⟨rfl, rfl, rfl⟩ := trodAll_nil r1
  obtain rfl : args = #[v0, v1] := by cases args; simp_all
  obtain ⟨rfl, rfl⟩ := trodVars_none hV
  obtain ⟨sa0, sn0, sc0, rfl⟩ := okWide_slice Try.underlying34 (hval 0 34 v0 rfl rfl)
  obtain ⟨fuel0, hf0⟩ := h0
  obtain ⟨A0, c0, l0, e0, hle0, hC0, hG0⟩ := opens_row Try.underlying34 (opens_iso (fun x : Rot.Act2 => (x.f0, x.f1)) (fun p => ⟨p.1, p.2⟩) (fun _ => rfl) (opens_struct Try.underlying42 (by kernel_rfl) (fopens_cons rfl (opens_bool Try.underlying4 (by kernel_rfl)) (fopens_last rfl (opens_slice Try.underlying40 (by kernel_rfl) (opens_iso (fun x : S45 => (x.f0, x.f1)) (fun p => ⟨p.1, p.2⟩) (fun _ => rfl) (opens_struct Try.underlying45 (by kernel_rfl) (fopens_cons rfl (opens_string Try.underlying9 (by kernel_rfl)) (fopens_last rfl (opens_int Try.underlying3 (by kernel_rfl))))))))))) hf0
  obtain ⟨rfl, rfl, rfl⟩ : sa0 = A0 ∧ sn0 = l0.length ∧ sc0 = c0 := by simpa [Value.cells] using e0
  obtain ⟨sa1, sn1, sc1, rfl⟩ := okWide_slice Try.underlying34 (hval 1 34 v1 rfl rfl)
  obtain ⟨fuel1, hf1⟩ := h1
  obtain ⟨A1, c1, l1, e1, hle1, hC1, hG1⟩ := opens_row Try.underlying34 (opens_iso (fun x : Rot.Act2 => (x.f0, x.f1)) (fun p => ⟨p.1, p.2⟩) (fun _ => rfl) (opens_struct Try.underlying42 (by kernel_rfl) (fopens_cons rfl (opens_bool Try.underlying4 (by kernel_rfl)) (fopens_last rfl (opens_slice Try.underlying40 (by kernel_rfl) (opens_iso (fun x : S45 => (x.f0, x.f1)) (fun p => ⟨p.1, p.2⟩) (fun _ => rfl) (opens_struct Try.underlying45 (by kernel_rfl) (fopens_cons rfl (opens_string Try.underlying9 (by kernel_rfl)) (fopens_last rfl (opens_int Try.underlying3 (by kernel_rfl))))))))))) hf1
  obtain ⟨rfl, rfl, rfl⟩ : sa1 = A1 ∧ sn1 = l1.length ∧ sc1 = c1 := by simpa [Value.cells] using e1
  refine (Rot.plays_calls sa0 sc0 l0 sa1 sc1 l1 W hC0 hle0 hC1 hle1).mono fun e W' ⟨he, bel⟩ => ?_
  subst he
  exact ⟨_, rfl, _, _, _, [], _, [], hW', trodAll_mk1 (shut_bool Try.underlying4 _), hkeep W' bel, rfl, bel.frame _, fun h => by cases h⟩
theorem over : Rows.rotorPlaysRow.holds Try.pinned (OpenSpec.ofChange Rows.rotorPlaysSpec) :=
  OpenClaim.holds_of_wide 5 Try.f5 rfl rfl rfl rfl rfl rfl rfl ⟨rfl, rfl, rfl, rfl, rfl⟩ rfl rfl rfl rfl rfl (by kernel_rfl) Try.func5 (by kernel_rfl)
    (of_decide_eq_true (by kernel_rfl)) (by unfold Func.isWrapper; first | (rw [if_pos (by decide +kernel)]; kernel_rfl) | (rw [if_neg (by decide +kernel)]; exact ⟨rfl, rfl⟩))
    (fun os started H enc _ => lifted os started H enc)
theorem proved : Rows.RotorPlaysSaid := over
#print axioms proved
end Go.Proofs.Ytlmppdpjjkdoaab.rotorPlays
namespace Go.Proofs.Ytlmppdpjjkdoaab
/-- The row, under a short name, for the claim. -/
theorem rotorPlays_holds : Rows.RotorPlaysSaid := rotorPlays.proved
end Go.Proofs.Ytlmppdpjjkdoaab
