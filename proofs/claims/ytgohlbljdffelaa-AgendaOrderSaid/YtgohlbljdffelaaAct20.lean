/- the acts of law 20: how a row of them is read. Own work of this seat. -/
import Derived.Test.YtgohlbljdffelaaOrdA
import Derived.Test.YtgohlbljdffelaaBase
namespace Go.Proofs.Ytgohlbljdffelaa.Ord
open Go.RowKit Go.Proofs.Ytgohlbljdffelaa.Kit Go.Proofs.Ytgohlbljdffelaa.AgP Go.Proofs.YtgohlbljdffelaaW.PrintWords
set_option linter.unusedVariables false
set_option linter.unusedSimpArgs false

/-- An act: its kind, number and key. -/
structure Act3 where
  f0 : Int
  f1 : Int
  f2 : ByteArray
def kAct : Kd Act3 := Kd.iso (Kd.pair (Kd.int .i64) (Kd.pair (Kd.int .i64) Kd.string)) (fun x : Act3 => (x.f0, x.f1, x.f2))
theorem kAct_open {w : World} {x : Act3} {cs : List Value} (h : kAct.K w x cs) : cs = [.int .i64 x.f0, .int .i64 x.f1, .string x.f2] := by
  obtain ⟨_, _, rfl, rfl, ⟨_, _, rfl, rfl, rfl⟩⟩ := h
  exact rfl
def zAct : Act3 := ⟨0, 0, ⟨#[]⟩⟩
theorem cell_lt {w : World} {p : Addr} {v : Value} (h : w.cell? p = some v) : p.block < w.heap.size := by
  rcases Nat.lt_or_ge p.block w.heap.size with hl | hl
  · exact hl
  · unfold World.cell? at h
    rw [Array.getElem?_eq_none hl] at h
    simp at h
theorem cell_bel {w w' : World} {p : Addr} {v : Value} (h : w.cell? p = some v) (hb : Below w.heap.size w w') : w'.cell? p = some v := by
  rw [hb.cell (cell_lt h)]; exact h
theorem act_at {w : World} {A : Option Addr} {n : Nat} {xs : List Act3} (h : Kd.C kAct w A n xs) (i : Nat) (h1 : i < n) : ∃ (ad : Addr), A = some ad ∧ ∀ w', Below w.heap.size w w' → w'.cell? (ad.add (i * 3)) = some (.int .i64 (xs.getD i zAct).f0) ∧ w'.cell? ⟨(ad.add (i * 3)).block, (ad.add (i * 3)).off + 1, none⟩ = some (.int .i64 (xs.getD i zAct).f1) ∧ w'.cell? ⟨(ad.add (i * 3)).block, (ad.add (i * 3)).off + 2, none⟩ = some (.string (xs.getD i zAct).f2) := by
  obtain ⟨ad, c, e, _, hK, hc0⟩ := Kd.C_get h zAct (i : Int) (by omega) (by omega)
  have hc : ∀ j u, c[j]? = some u → w.cell? (ad.add (i * 3 + j)) = some u := hc0
  obtain rfl := kAct_open hK
  exact ⟨ad, e, fun w' hb => ⟨cell_bel (hc 0 _ rfl) hb, cell_bel (by rw [← add_field _ _ 1 (by omega)]; exact hc 1 _ rfl) hb, cell_bel (by rw [← add_field _ _ 2 (by omega)]; exact hc 2 _ rfl) hb⟩⟩
end Go.Proofs.Ytgohlbljdffelaa.Ord
