/- law 01's Few over strings. Own work of this seat; no condition but on lengths. -/
import Derived.Test.YtdglbpjgadjnjaaDoorRf6a
import Derived.Test.YtdglbpjgadjnjaaDoorRf6a
namespace Go.Proofs.YtdglbpjgadjnjaaDoor.Fie
open Go.RowKit Go.Proofs.YtdglbpjgadjnjaaDoor.Kit Go.Proofs.YtdglbpjgadjnjaaDoor.Oct Go.Proofs.YtdglbpjgadjnjaaDoor.Cut
set_option linter.unusedVariables false
set_option linter.unusedSimpArgs false

def SW (w : World) (A : Option Addr) (n c : Nat) (l : List ByteArray) : Prop := FSeg w 9 1 A n c (l.map Value.string)
theorem i0st : ∃ i, Tryd.prog.info? 9 = some i ∧ i.zero = some (.string ⟨#[]⟩) ∧ i.size = 1 ∧ i.bytes = 16 := by
  obtain ⟨i, hi, hp⟩ := Option.map_eq_some_iff.1 (by kernel_rfl : (Tryd.prog.info? 9).map (fun i => (i.zero, i.size, i.bytes)) = some (some (.string ⟨#[]⟩), 1, 16))
  simp only [Prod.mk.injEq] at hp
  exact ⟨i, hi, hp⟩
/-- append(s, x) with the one in a new block. -/
theorem app_st_one {w1 : World} {B : Option Addr} {m cB : Nat} {l : List ByteArray} (hB : SW w1 B m cB l) (hb : m + 1 ≤ 1000000) (x : ByteArray) :
    ∃ B' c' w', (Builtin.append_ #[46, 46] 46 #[.slice B m cB, .slice (some ⟨w1.heap.size, 0, none⟩) 1 1]).run Tryd.prog (w1.alloc (.cells #[.string x] 9)) = .ok (.slice B' (m + 1) c') w' ∧ SW w' B' (m + 1) c' (l ++ [x]) ∧ (∀ k, blockOf B' = some k → blockOf B = some k ∨ w1.heap.size ≤ k) ∧ Step (fun k => blockOf B = some k) w1 w' := by
  obtain ⟨i0, hi0, hz0, hs0, hy0⟩ := i0st
  have hal : Step (fun _ => False) w1 (w1.alloc (.cells #[.string x] 9)) := (Step.refl _ _).alloc _
  obtain ⟨B5, c5, w5, hap, hB6, hs5, hn5⟩ := run_app_one (k := 1) (v := [Value.string x]) 46 9 Tryd.underlying46 hi0 hz0 rfl hs0 hy0 (by omega) (hB.keep hal (fun _ _ h => h)) rfl (by intro v hv; simp at hv; subst hv; rfl) (blk_new w1 [Value.string x] 9) hb
  have hz6 := hal.size
  refine ⟨B5, c5, w5, hap, by unfold SW; rw [List.map_append]; exact hB6, fun k hk => ?_, (hal.mono (fun _ _ h => h.elim)).same hs5⟩
  rcases hn5 with e | ⟨j, e, hj⟩
  · exact .inl (e ▸ hk)
  · rw [hk] at e
    obtain rfl := Option.some.inj e
    exact .inr (by omega)
/-- A row of strings that came in. -/
def ASd (w : World) (A : Option Addr) (n : Nat) (l : List ByteArray) : Prop := l.length = n ∧ ∀ (i : Nat) x, l[i]? = some x → ∃ ad : Addr, A = some ad ∧ ∀ w', Below w.heap.size w w' → w'.cell? (ad.add i) = some (.string x)
def fewS (l : List ByteArray) (k m : Nat) : List ByteArray := (l.take k).map (fun x => cutB x m)
theorem fewS_step {l : List ByteArray} {i m : Nat} {x : ByteArray} (h : l[i]? = some x) : (l.take (i + 1)).map (fun x => cutB x m) = (l.take i).map (fun x => cutB x m) ++ [cutB x m] := by
  rw [List.take_add_one, h]
  simp
end Go.Proofs.YtdglbpjgadjnjaaDoor.Fie
