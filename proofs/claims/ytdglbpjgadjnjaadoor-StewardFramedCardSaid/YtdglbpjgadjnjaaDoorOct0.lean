/- octets: what texts are tokens, values, in small letters, without blanks about them: plain Lean. Own work of this seat; no condition. -/
import Derived.Lib.SlTrimSet
import Derived.Lib.Bytealg
import Derived.KernelRfl
namespace Go.Proofs.YtdglbpjgadjnjaaDoor.Oct
set_option linter.unusedVariables false
set_option linter.unusedSimpArgs false

/-- A byte's classes, as the code counts them. -/
def ofN (b : Int) : Int :=
  let c := if 48 ≤ b ∧ b ≤ 57 then 25 else if (97 ≤ b ∧ b ≤ 102) ∨ (65 ≤ b ∧ b ≤ 70) then 17 else if (103 ≤ b ∧ b ≤ 122) ∨ (71 ≤ b ∧ b ≤ 90) then 1 else if b ∈ [33, 35, 36, 37, 38, 39, 42, 43, 45, 46, 94, 95, 96, 124, 126] then 1 else 0
  let d := if 32 < b ∧ b ≤ 126 then c + 6 else c
  if b = 32 ∨ b = 9 then d + 4 else d
def letter (b : UInt8) : Bool := decide (65 ≤ b.toNat ∧ b.toNat ≤ 90) || decide (97 ≤ b.toNat ∧ b.toNat ≤ 122)
def digit (b : UInt8) : Bool := decide (48 ≤ b.toNat ∧ b.toNat ≤ 57)
def signs : List UInt8 := [33, 35, 36, 37, 38, 39, 42, 43, 45, 46, 94, 95, 96, 124, 126]
def tokB (b : UInt8) : Bool := letter b || digit b || signs.contains b
def valB (b : UInt8) : Bool := b == 9 || decide (32 ≤ b.toNat ∧ b.toNat ≤ 126)
def isBl (b : UInt8) : Bool := b == 32 || b == 9
def lowB (b : UInt8) : UInt8 := if 65 ≤ b.toNat ∧ b.toNat ≤ 90 then b + 32 else b
def bts (s : ByteArray) : List UInt8 := s.data.toList
def ofL (l : List UInt8) : ByteArray := ⟨l.toArray⟩
theorem bts_ofL (l : List UInt8) : bts (ofL l) = l := rfl
theorem ofL_bts (s : ByteArray) : ofL (bts s) = s := by cases s with | mk a => rfl
theorem bts_len (s : ByteArray) : (bts s).length = s.size := by cases s with | mk a => rfl
theorem ofL_size (l : List UInt8) : (ofL l).size = l.length := by rw [← bts_len, bts_ofL]
theorem bts_inj {s t : ByteArray} (h : bts s = bts t) : s = t := by rw [← ofL_bts s, ← ofL_bts t, h]
def lower (s : ByteArray) : ByteArray := ofL ((bts s).map lowB)
def trim (s : ByteArray) : ByteArray := ofL (Lib.trimS (bts s) [32, 9])
def token (s : ByteArray) : Bool := decide (1 ≤ s.size ∧ s.size ≤ 64) && (bts s).all tokB
def value (s : ByteArray) : Bool := (bts s).all valB && (trim s).toList == s.toList
theorem lower_size (s : ByteArray) : (lower s).size = s.size := by unfold lower; rw [ofL_size, List.length_map, bts_len]
theorem dropWhile_len {α : Type} (p : α → Bool) (l : List α) : (l.dropWhile p).length ≤ l.length := (List.dropWhile_sublist p).length_le
theorem trim_size (s : ByteArray) : (trim s).size ≤ s.size := by
  unfold trim Lib.trimS Lib.trimLeftS Lib.trimRightS
  rw [ofL_size, ← bts_len s]
  refine Nat.le_trans (dropWhile_len _ _) ?_
  rw [List.length_reverse]
  refine Nat.le_trans (dropWhile_len _ _) ?_
  rw [List.length_reverse]
  exact Nat.le_refl _
end Go.Proofs.YtdglbpjgadjnjaaDoor.Oct
