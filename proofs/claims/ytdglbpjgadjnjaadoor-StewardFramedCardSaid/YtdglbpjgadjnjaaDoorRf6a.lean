/- The document's fields: Is, Drop. Own work of this seat; no condition but on lengths. -/
import Derived.Test.YtdglbpjgadjnjaaDoorRf5a
import Derived.Test.YtdglbpjgadjnjaaDoorFie8
namespace Go.Proofs.YtdglbpjgadjnjaaDoor.Fie
open Go.RowKit Go.Proofs.YtdglbpjgadjnjaaDoor.Kit Go.Proofs.YtdglbpjgadjnjaaDoor.Oct Go.Proofs.YtdglbpjgadjnjaaDoor.Cut
set_option linter.unusedVariables false
set_option linter.unusedSimpArgs false

set_option maxRecDepth 100000 in
theorem ris_calls (n v s : ByteArray) (hn : n.size ≤ 900000) (hs : s.size ≤ 900000) (w : World) : Calls Tryd.prog 33 #[.agg #[.string n, .string v], .string s] w fun e w' => e = .returned (.bool (sameN n s)) ∧ Step (fun _ => False) w w' := by
  have HA := Lib.hid (fun w => rlower_calls n hn w)
  have HB := Lib.hid (fun w => rlower_calls s hs w)
  unfold sameN
  generalize lower n = x at *
  generalize lower s = y at *
  go_enter Tryd.func33, Tryd.ntmps33
  go_upto_region 1 with (fail)
  refine alloc_next (cs := [.string n, .string v]) ?_
  intro w1 hX hs1
  have y0 := hX.cell (i := 0) rfl
  have y1 := hX.cell (i := 1) rfl
  go_wp2_with (first | (go_at_call 21; refine (HA.out _).mono ?_; clear HA; rintro e w2 ⟨rfl, hs2⟩) | (go_at_call 21; refine (HB.out _).mono ?_; rintro e w3 ⟨rfl, hs3⟩))
  go_ret
  exact ⟨rfl, (hs1.same hs2).same hs3⟩
/-- append(s, x) with the one in a new block. -/
theorem app_rf_one {w1 : World} {B : Option Addr} {m cB : Nat} {l : List Fd} (hB : FW w1 31 B m cB l) (hb : m + 1 ≤ 1000000) (x : Fd) :
    ∃ B' c' w', (Builtin.append_ #[22, 22] 22 #[.slice B m cB, .slice (some ⟨w1.heap.size, 0, none⟩) 1 1]).run Tryd.prog (w1.alloc (.cells #[.string x.nm, .string x.vl] 31)) = .ok (.slice B' (m + 1) c') w' ∧ FW w' 31 B' (m + 1) c' (l ++ [x]) ∧ (∀ k, blockOf B' = some k → blockOf B = some k ∨ w1.heap.size ≤ k) ∧ Step (fun k => blockOf B = some k) w1 w' := by
  have hal : Step (fun _ => False) w1 (w1.alloc (.cells #[.string x.nm, .string x.vl] 31)) := (Step.refl _ _).alloc _
  obtain ⟨B5, c5, w5, hap, hB6, hn5, hs5⟩ := app_rf_any (hB.keep hal (fun _ _ h => h)) hb x (blk_new w1 (fdc x) 31)
  have hz6 := hal.size
  refine ⟨B5, c5, w5, hap, hB6, fun k hk => ?_, (hal.mono (fun _ _ h => h.elim)).same hs5⟩
  rcases hn5 with e | ⟨j, e, hj⟩
  · exact .inl (e ▸ hk)
  · rw [hk] at e
    obtain rfl := Option.some.inj e
    exact .inr (by omega)
def rdropF (l : List Fd) (s : ByteArray) : List Fd := l.filter (fun y => !sameN y.nm s)
end Go.Proofs.YtdglbpjgadjnjaaDoor.Fie
