/- For any Config, any whole number start and any list of acts the law stewardlaw23.HealthPlays answers true: behind each of the first 40 acts (names cut to 12 bytes) the views, the epoch, what waits and the first time are the document's, and so is each call's answer. No condition. -/
import Derived.Test.YtghiklaeenhljaaWalkHealthPlays
import Derived.Test.YtghiklaeenhljaaRows
import Derived.Test.YtghiklaeenhljaaMHealthEpochs2
import Derived.WalkKit
import Derived.ProofKit
import Derived.OpenShut
import Derived.ShutString
import Derived.ChangeOld
import Derived.Below
import Derived.SizedLaws
namespace Go.Proofs.Ytghiklaeenhljaa.healthPlays
open Go.ChangeShapes Go.WideShapes Go.ChangeAt Go.RowKit Go.Proofs.Ytghiklaeenhljaa.Base Go.Proofs.YtghiklaeenhljaaW.PrintWords
open Go.ChangeMaps (open_string shut_string)
set_option linter.unusedVariables false
theorem own : ownKnob Try.prog.godebug = none := by kernel_rfl
set_option maxRecDepth 100000 in
theorem lifted (os : Os) (started : os.Started) (H : Type) (enc : TypeId × Value → H) :
    ReturnsInHanded {} Try.checked os 5 .any (Rows.healthPlaysSpec.pre6 enc Try.prog Try.f5 Rows.healthPlaysRow.domain false) (Rows.healthPlaysSpec.post enc Try.prog Try.f5 false true false false) := by
  refine returnsInHanded_of_change_sized (C := Try.checked) own started (by kernel_rfl) Try.func5
    (ChangeSpec.witness6 (enc := enc) (C := Try.checked) false ⟨#[], #[.agg #[.int .i64 0, .int .i64 0, .int .i64 0, .int .i64 0], .int .i64 0, .slice none 0 0], []⟩ 8 (by kernel_rfl) (by kernel_rfl) (by kernel_rfl) (by kernel_rfl)) ?_
  intro W base args ds gs before hval0 hW hcnd hsz0 _
  have hsz : (DataW.weightsEach Try.prog (Try.f5.params.toList ++ Rows.healthPlaysSpec.plain.varTypes Try.prog) (ds ++ gs)).all (· ≤ reachBytes) = true := hsz0
  have hval : ∀ (j : Nat) t v, Try.f5.params[j]? = some t → args[j]? = some v → Value.okWide Try.prog W .any base t v := hval0
  have hW' := hW
  obtain ⟨p, q, hA0, hV, rfl, hfz, hnd⟩ := hW
  have hA : DataW.TrodAll enc Try.prog W 0 (fun _ => true) true Try.f5.params.toList args.toList ds p := hA0
  rw [Try.params5] at hA hval hsz
  have hkeep := fun (W' : World) (bel : Below W.heap.size W W') => trodAll_keep (P := Try.prog) (by kernel_rfl) bel (fun t ht => by
    have e : t = 45 ∨ t = 3 ∨ t = 46 := by simpa using ht
    rcases e with rfl | rfl | rfl
    · exact ⟨by kernel_rfl, of_decide_eq_true (by kernel_rfl)⟩
    · exact ⟨by kernel_rfl, of_decide_eq_true (by kernel_rfl)⟩
    · exact ⟨by kernel_rfl, of_decide_eq_true (by kernel_rfl)⟩) hA
  obtain ⟨v0, vs0, d0, ds0, p0, q0, hargs, rfl, rfl, h0, r0⟩ := trodAll_cons hA
  obtain ⟨v1, vs1, d1, ds1, p1, q1, rfl, rfl, rfl, h1, r1⟩ := trodAll_cons r0
  obtain ⟨v2, vs2, d2, ds2, p2, q2, rfl, rfl, rfl, h2, r2⟩ := trodAll_cons r1
  obtain ⟨rfl, rfl, rfl⟩ := trodAll_nil r2
  obtain rfl : args = #[v0, v1, v2] := by cases args; simp_all
  obtain ⟨rfl, rfl⟩ := trodVars_none hV
  obtain ⟨cs0, rfl, hcs0⟩ := okWide_struct Try.underlying45 (hval 0 45 v0 rfl rfl)
  obtain ⟨fuel0, hf0⟩ := h0
  have hop0 : Opens enc Try.prog W 0 (fun _ => true) true (Kd.pair (Kd.int .i64) (Kd.pair (Kd.int .i64) (Kd.pair (Kd.int .i64) (Kd.int .i64)))) _ 45 :=
    opens_struct Try.underlying45 (by kernel_rfl) (fopens_cons rfl (opens_int Try.underlying3 (by kernel_rfl)) (fopens_cons rfl (opens_int Try.underlying3 (by kernel_rfl)) (fopens_cons rfl (opens_int Try.underlying3 (by kernel_rfl)) (fopens_last rfl (opens_int Try.underlying3 (by kernel_rfl))))))
  obtain ⟨⟨i0a, i0b, i0c, i0d⟩, ⟨j0a, j0b, e0, rfl, j0c, j0d, rfl, rfl, j0e, j0f, rfl, rfl, rfl⟩, _⟩ := hop0.2 _ _ _ hf0
  obtain rfl : cs0 = #[.int .i64 i0a, .int .i64 i0b, .int .i64 i0c, .int .i64 i0d] := by cases cs0; simpa [Value.cells] using e0
  obtain ⟨a1, rfl, rfl, rfl, w1⟩ := open_int Try.underlying3 (hval 1 3 v1 rfl rfl) h1
  have b1 := bounds_i64 w1
  obtain ⟨sa2, sn2, sc2, rfl⟩ := okWide_slice Try.underlying46 (hval 2 46 v2 rfl rfl)
  obtain ⟨fuel2, hf2⟩ := h2
  obtain ⟨A2, c2, l2, e2, hle2, hC2, hG2⟩ := opens_row Try.underlying46 (opens_iso (fun x : Hea.Act5 => (x.f0, x.f1, x.f2, x.f3)) (fun p => ⟨p.1, p.2.1, p.2.2.1, p.2.2.2⟩) (fun _ => rfl) (opens_struct Try.underlying51 (by kernel_rfl) (fopens_cons rfl (opens_int Try.underlying3 (by kernel_rfl)) (fopens_cons rfl (opens_int Try.underlying3 (by kernel_rfl)) (fopens_cons rfl (opens_string Try.underlying9 (by kernel_rfl)) (fopens_last rfl (opens_bool Try.underlying4 (by kernel_rfl)))))))) hf2
  obtain ⟨rfl, rfl, rfl⟩ : sa2 = A2 ∧ sn2 = l2.length ∧ sc2 = c2 := by simpa [Value.cells] using e2
  refine (HeD.plays_calls ⟨i0a, i0b, i0c, i0d⟩ a1 sa2 sc2 l2 W hC2 hle2 (fun x hx => by have := (hG2 x hx).2.2.1; unfold maxLen at this; omega)).mono fun e W' ⟨he, bel⟩ => ?_
  subst he
  exact ⟨_, rfl, _, _, _, [], _, [], hW', trodAll_mk1 (shut_bool Try.underlying4 _), hkeep W' bel, rfl, bel.frame _, fun h => by cases h⟩
theorem over : Rows.healthPlaysRow.holds Try.pinned (OpenSpec.ofChange Rows.healthPlaysSpec) :=
  OpenClaim.holds_of_wide 5 Try.f5 rfl rfl rfl rfl rfl rfl rfl ⟨rfl, rfl, rfl, rfl, rfl⟩ rfl rfl rfl rfl rfl (by kernel_rfl) Try.func5 (by kernel_rfl)
    (of_decide_eq_true (by kernel_rfl)) (by unfold Func.isWrapper; first | (rw [if_pos (by decide +kernel)]; kernel_rfl) | (rw [if_neg (by decide +kernel)]; exact ⟨rfl, rfl⟩))
    (fun os started H enc _ => lifted os started H enc)
theorem proved : Rows.HealthPlaysSaid := over
#print axioms proved
end Go.Proofs.Ytghiklaeenhljaa.healthPlays
namespace Go.Proofs.Ytghiklaeenhljaa
/-- The row, under a short name, for the claim. -/
theorem healthPlays_holds : Rows.HealthPlaysSaid := healthPlays.proved
end Go.Proofs.Ytghiklaeenhljaa
