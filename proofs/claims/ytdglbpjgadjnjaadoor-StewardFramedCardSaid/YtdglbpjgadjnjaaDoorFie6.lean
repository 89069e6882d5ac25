/- fields: Grow, Concat, Add. Own work of this seat; no condition but on lengths. -/
import Derived.Test.YtdglbpjgadjnjaaDoorFie3
import Derived.Lib.AppendZeros
import Derived.Deep.CutRange
import Derived.Deep.CutBlock
namespace Go.Proofs.YtdglbpjgadjnjaaDoor.Fie
open Go.RowKit Go.Proofs.YtdglbpjgadjnjaaDoor.Kit Go.Proofs.YtdglbpjgadjnjaaDoor.Oct Go.Proofs.YtdglbpjgadjnjaaDoor.Cut
set_option linter.unusedVariables false
set_option linter.unusedSimpArgs false

/-- append(s, x) with the one in a new block. -/
theorem app_fd_one {w1 : World} {B : Option Addr} {m cB : Nat} {l : List Fd} (hB : FW w1 27 B m cB l) (hb : m + 1 ≤ 1000000) (x : Fd) :
    ∃ B' c' w', (Builtin.append_ #[29, 29] 29 #[.slice B m cB, .slice (some ⟨w1.heap.size, 0, none⟩) 1 1]).run Tryd.prog (w1.alloc (.cells #[.string x.nm, .string x.vl] 27)) = .ok (.slice B' (m + 1) c') w' ∧ FW w' 27 B' (m + 1) c' (l ++ [x]) ∧ (∀ k, blockOf B' = some k → blockOf B = some k ∨ w1.heap.size ≤ k) ∧ Step (fun k => blockOf B = some k) w1 w' := by
  obtain ⟨i0, hi0, hz0, hs0, hy0⟩ := i0fd
  have hal : Step (fun _ => False) w1 (w1.alloc (.cells #[.string x.nm, .string x.vl] 27)) := (Step.refl _ _).alloc _
  obtain ⟨B5, c5, w5, hap, hB6, hs5, hn5⟩ := run_app_one (k := 2) (v := fdc x) 29 27 Tryd.underlying29 hi0 hz0 rfl hs0 hy0 (by omega) (hB.keep hal (fun _ _ h => h)) rfl (fdc_cell x) (blk_new w1 (fdc x) 27) hb
  have hz6 := hal.size
  refine ⟨B5, c5, w5, hap, by unfold FW; rw [fdcs_append, fdcs_one]; exact hB6, fun k hk => ?_, (hal.mono (fun _ _ h => h.elim)).same hs5⟩
  rcases hn5 with e | ⟨j, e, hj⟩
  · exact .inl (e ▸ hk)
  · rw [hk] at e
    obtain rfl := Option.some.inj e
    exact .inr (by omega)
theorem FW.own {w : World} {T : TypeId} {A : Option Addr} {n c : Nat} {l : List Fd} (h : FW w T A n c l) (hA : A ≠ none) : ∃ g, A = some ⟨g, 0, none⟩ := by
  obtain ⟨_, ⟨rfl, _⟩ | ⟨g, cur, rfl, _⟩⟩ := h
  · exact absurd rfl hA
  · exact ⟨g, rfl⟩
end Go.Proofs.YtdglbpjgadjnjaaDoor.Fie
