/- Openers of float arguments. Own work of this seat; no condition. -/
import Derived.Test.YthlllmnlcjkiiaaDoorBase
import Derived.Laws.Cover2
namespace Go.Proofs.YthlllmnlcjkiiaaDoor.Base
open Go.RowKit Go.Proofs.YthlllmnlcjkiiaaDoorW.PrintWords Go.Deep
section
variable {H : Type} {enc : TypeId × Value → H} {P : Program} {W : World} {base : Nat} {spare : Nat → Bool} {held : Bool}
theorem trod_float {n : Nat} {t : TypeId} {cs : List Value} {y : DataW H × List MemPlace} (ht : P.underlying t = some (.float .f64)) (h : DataW.trod enc P W base spare held n t cs = some y) : ∃ b, cs = [.float .f64 b] ∧ (Lit.float .f64 b).wf = true := by
  cases n with
  | zero => simp [DataW.trod] at h
  | succ n =>
    unfold DataW.trod at h
    rw [ht] at h
    split at h <;> simp_all
def kFlt : Kd Nat := Kd.scalar (Value.float .f64) (fun _ => rfl)
theorem opens_float {t : TypeId} (ht : P.underlying t = some (.float .f64)) (hc : P.cellsOf t = 1) : Opens enc P W base spare held kFlt (fun b => (Lit.float .f64 b).wf = true) t :=
  ⟨hc, fun n cs y h => by
    obtain ⟨b, rfl, hw⟩ := trod_float ht h
    exact ⟨b, rfl, hw⟩⟩
theorem float_lt {b : Nat} (h : (Lit.float .f64 b).wf = true) : b < 18446744073709551616 := by
  simpa [Lit.wf] using h
end
end Go.Proofs.YthlllmnlcjkiiaaDoor.Base
