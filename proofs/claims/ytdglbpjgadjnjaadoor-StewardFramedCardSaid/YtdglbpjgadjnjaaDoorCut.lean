/- stewardlaw01.Cut: a text's first bytes. Own work of this seat. -/
import Derived.Test.YtdglbpjgadjnjaaDoorKit
import Derived.Test.YtdglbpjgadjnjaaDoorWk
namespace Go.Proofs.YtdglbpjgadjnjaaDoor.Cut
open Go.RowKit Go.Proofs.YtdglbpjgadjnjaaDoor.Kit
set_option linter.unusedVariables false
set_option linter.unusedSimpArgs false
def cutB (s : ByteArray) (n : Nat) : ByteArray := if n < s.size then s.extract 0 n else s
theorem cutB_size (s : ByteArray) (n : Nat) : (cutB s n).size ≤ n := by
  unfold cutB
  split
  · rw [ByteArray.size_extract]; omega
  · omega
set_option maxRecDepth 100000 in
theorem cut_calls (s : ByteArray) (n : Nat) (hs : s.size ≤ 9223372036854775807) (w : World) : Calls Tryd.prog 12 #[.string s, .int .i64 (n : Int)] w fun e w' => e = .returned (.string (cutB s n)) ∧ w = w' := by
  unfold cutB
  by_cases h : n < s.size
  · rw [if_pos h]
    have h' : (n : Int) < (s.size : Int) := by omega
    have h0 : (0 : Int) ≤ (n : Int) := by omega
    have h1 : (n : Int) ≤ (s.size : Int) := by omega
    go_enter Tryd.func12, Tryd.ntmps12
    go_wp2
    go_ret
    exact ⟨rfl, rfl⟩
  · rw [if_neg h]
    have h' : ¬ (n : Int) < (s.size : Int) := by omega
    go_enter Tryd.func12, Tryd.ntmps12
    go_wp2
    go_ret
    exact ⟨rfl, rfl⟩
end Go.Proofs.YtdglbpjgadjnjaaDoor.Cut
