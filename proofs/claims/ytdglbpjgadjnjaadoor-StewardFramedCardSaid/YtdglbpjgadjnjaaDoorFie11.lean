/- The walk of stewardlaw06.FieldsSame. Own work of this seat. -/
import Derived.Test.YtdglbpjgadjnjaaDoorLw6p
import Derived.Test.YtdglbpjgadjnjaaDoorBase
import Derived.Deep.CutRange
import Derived.Deep.CutBlock
namespace Go.Proofs.YtdglbpjgadjnjaaDoor.Fie
open Go.RowKit Go.Proofs.YtdglbpjgadjnjaaDoor.Kit Go.Proofs.YtdglbpjgadjnjaaDoor.Oct Go.Proofs.YtdglbpjgadjnjaaDoor.Cut Go.Proofs.YtdglbpjgadjnjaaDoorW.PrintWords Go.Proofs.YtdglbpjgadjnjaaDoor
set_option linter.unusedVariables false
set_option linter.unusedSimpArgs false

def kFd : Kd Fd := Kd.iso (Kd.pair Kd.string Kd.string) (fun x : Fd => (x.nm, x.vl))
theorem kFd_open {w : World} {x : Fd} {cs : List Value} (h : kFd.K w x cs) : cs = [.string x.nm, .string x.vl] := by
  obtain ⟨_, _, rfl, rfl, rfl⟩ := h
  rfl
def zFd : Fd := ⟨⟨#[]⟩, ⟨#[]⟩⟩
theorem cell_lt6 {w : World} {p : Addr} {v : Value} (h : w.cell? p = some v) : p.block < w.heap.size := by
  rcases Nat.lt_or_ge p.block w.heap.size with hl | hl
  · exact hl
  · unfold World.cell? at h
    rw [Array.getElem?_eq_none hl] at h
    simp at h
theorem cell_bel6 {w w' : World} {p : Addr} {v : Value} (h : w.cell? p = some v) (hb : Below w.heap.size w w') : w'.cell? p = some v := by
  rw [hb.cell (cell_lt6 h)]; exact h
theorem ard_of {w : World} {A : Option Addr} {l : List Fd} (h : Kd.C kFd w A l.length l) : ARd w A l.length l := by
  refine ⟨rfl, fun i x hx => ?_⟩
  have hi := (List.getElem?_eq_some_iff.1 hx).1
  obtain ⟨ad, c, e, _, hK, hc0⟩ := Kd.C_get h zFd (i : Int) (by omega) (by omega)
  have hc : ∀ j u, c[j]? = some u → w.cell? (ad.add (i * 2 + j)) = some u := hc0
  have hx2 : l.getD i zFd = x := by rw [List.getD_eq_getElem?_getD, hx]; rfl
  obtain rfl := kFd_open hK
  refine ⟨ad, e, fun w' hb => ?_⟩
  rw [← hx2]
  exact ⟨cell_bel6 (hc 0 _ rfl) hb, cell_bel6 (by rw [← add_field _ _ 1 (by omega)]; exact hc 1 _ rfl) hb⟩
end Go.Proofs.YtdglbpjgadjnjaaDoor.Fie
