/- the acts of a pool's law: how a row of them is read; names that are cut. Own work of this seat (after the print's own texts of the struct types). -/
import Derived.Test.YteebahjpoafhmaaPoolC
import Derived.Test.YteebahjpoafhmaaBase
namespace Go.Proofs.Yteebahjpoafhmaa.Pool
open Go.RowKit Go.Proofs.Yteebahjpoafhmaa.Kit Go.Proofs.Yteebahjpoafhmaa.PPoolPlays Go.Proofs.YteebahjpoafhmaaW.PrintWords Go.Proofs.YteebahjpoafhmaaW.PrintLast Go.Proofs.YteebahjpoafhmaaW.PrintMore
set_option linter.unusedVariables false
set_option linter.unusedSimpArgs false

/-- An act: its kind, weight, cap and name. -/
structure Act4 where
  f0 : Int
  f1 : Int
  f2 : Int
  f3 : ByteArray
def kAct : Kd Act4 := Kd.iso (Kd.pair (Kd.int .i64) (Kd.pair (Kd.int .i64) (Kd.pair (Kd.int .i64) Kd.string))) (fun x : Act4 => (x.f0, x.f1, x.f2, x.f3))
theorem kAct_open {w : World} {x : Act4} {cs : List Value} (h : kAct.K w x cs) : cs = [.int .i64 x.f0, .int .i64 x.f1, .int .i64 x.f2, .string x.f3] := by
  obtain ⟨_, _, rfl, rfl, ⟨_, _, rfl, rfl, ⟨_, _, rfl, rfl, rfl⟩⟩⟩ := h
  exact rfl
def zAct : Act4 := ⟨0, 0, 0, ⟨#[]⟩⟩
theorem act_at {w : World} {A : Option Addr} {n : Nat} {xs : List Act4} (h : Kd.C kAct w A n xs) (i : Nat) (h1 : i < n) : ∃ (ad : Addr) (x : Act4), A = some ad ∧ w.cell? (ad.add (i * 4)) = some (.int .i64 x.f0) ∧ w.cell? ⟨(ad.add (i * 4)).block, (ad.add (i * 4)).off + 1, none⟩ = some (.int .i64 x.f1) ∧ w.cell? ⟨(ad.add (i * 4)).block, (ad.add (i * 4)).off + 2, none⟩ = some (.int .i64 x.f2) ∧ w.cell? ⟨(ad.add (i * 4)).block, (ad.add (i * 4)).off + 3, none⟩ = some (.string x.f3) := by
  obtain ⟨ad, c, e, _, hK, hc0⟩ := Kd.C_get h zAct (i : Int) (by omega) (by omega)
  have hc : ∀ j u, c[j]? = some u → w.cell? (ad.add (i * 4 + j)) = some u := hc0
  obtain rfl := kAct_open hK
  exact ⟨ad, _, e, hc 0 _ rfl, by rw [← add_field _ _ 1 (by omega)]; exact hc 1 _ rfl, by rw [← add_field _ _ 2 (by omega)]; exact hc 2 _ rfl, by rw [← add_field _ _ 3 (by omega)]; exact hc 3 _ rfl⟩

theorem cut_some (s : ByteArray) : ∃ r, stewardlaw01_Cut.f s 40 = some r := by
  unfold stewardlaw01_Cut.f
  by_cases h : (s.size : Int) > 40
  · rw [if_pos h, if_pos (by omega), if_pos (by omega)]; exact ⟨_, rfl⟩
  · rw [if_neg h]; exact ⟨_, rfl⟩
theorem cut_calls (s : ByteArray) : ∃ r, ∀ w : World, Calls Try.prog 9 #[.string s, .int .i64 40] w fun e w' => e = .returned (.string r) ∧ Step (fun _ => False) w w' := by
  obtain ⟨r, hr⟩ := cut_some s
  exact ⟨r, fun w => (stewardlaw01_Cut.calls s 40 r w hr).mono fun e w' h => ⟨h.1, step_drawn h.2⟩⟩
end Go.Proofs.Yteebahjpoafhmaa.Pool
