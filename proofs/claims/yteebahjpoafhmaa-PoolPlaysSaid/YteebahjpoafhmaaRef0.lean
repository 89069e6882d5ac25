/- the document's check of a name is the program's. Own work of this seat. -/
import Derived.Test.YteebahjpoafhmaaRef1
namespace Go.Proofs.Yteebahjpoafhmaa.Pool
open Go.RowKit Go.Proofs.Yteebahjpoafhmaa.Kit Go.Proofs.Yteebahjpoafhmaa.PPoolPlays Go.Proofs.YteebahjpoafhmaaW.PrintWords Go.Proofs.YteebahjpoafhmaaW.PrintLast Go.Proofs.YteebahjpoafhmaaW.PrintMore
set_option linter.unusedVariables false
set_option linter.unusedSimpArgs false

theorem tokB_cases (b : Int) : (tokB b = true ∧ ((97 ≤ b ∧ b ≤ 122) ∨ b = 45 ∨ (48 ≤ b ∧ b ≤ 57))) ∨ (tokB b = false ∧ ((b < 45) ∨ (45 < b ∧ b < 48) ∨ (57 < b ∧ b < 97) ∨ 122 < b)) := by
  unfold tokB letB digB
  by_cases h1 : 97 ≤ b <;> by_cases h2 : b ≤ 122 <;> by_cases h3 : 48 ≤ b <;> by_cases h4 : b ≤ 57 <;> by_cases h5 : b = 45 <;> simp [h1, h2, h3, h4, h5] <;> omega
theorem name04_from (s : ByteArray) (hs : s.size ≤ 1000) : ∀ (d i : Nat), 1 ≤ i → i + d = s.size → stewardref04_Name.l0 (d + 1) s (i : Int) = some (allB s d i && decide (s.size ≤ 32))
  | 0, i, h1, hd => by
    unfold stewardref04_Name.l0
    rw [if_neg (by omega), if_pos (by omega)]
    have : decide ((s.size : Int) ≤ 32) = decide (s.size ≤ 32) := by by_cases h : s.size ≤ 32 <;> simp [h] <;> omega
    rw [this]; simp [allB]
  | d + 1, i, h1, hd => by
    have ih := name04_from s hs d (i + 1) (by omega) (by omega)
    have hw : wrap64 ((i : Int) + 1) = ((i + 1 : Nat) : Int) := by unfold wrap64; omega
    unfold stewardref04_Name.l0
    rw [if_pos (by omega), if_pos (by omega), hw, ih]
    have hi0 : ¬ ((i : Int) = 0) := by omega
    rcases tokB_cases (bt s (i : Int)) with ⟨ht, h | h | h⟩ | ⟨ht, h | h | h | h⟩
    · rw [if_pos (by omega), if_pos h.2]; simp [allB, ht]
    · rw [if_neg (by omega), if_neg hi0, if_pos h]; simp [allB, ht]
    · rw [if_neg (by omega), if_neg hi0, if_neg (by omega), if_neg (by omega), if_neg (by omega)]; simp [allB, ht]
    · rw [if_neg (by omega), if_neg hi0, if_neg (by omega), if_pos (by omega)]; simp [allB, ht]
    · rw [if_neg (by omega), if_neg hi0, if_neg (by omega), if_pos (by omega)]; simp [allB, ht]
    · rw [if_neg (by omega), if_neg hi0, if_neg (by omega), if_neg (by omega), if_pos (by omega)]; simp [allB, ht]
    · rw [if_pos (by omega), if_neg (by omega), if_neg hi0, if_neg (by omega), if_neg (by omega), if_pos (by omega)]; simp [allB, ht]
theorem name04_is (s : ByteArray) (hs : s.size ≤ 1000) : stewardref04_Name.f (s.size + 1) s = some (tname s) := by
  unfold stewardref04_Name.f tname
  by_cases h0 : 0 < s.size
  · obtain ⟨d, hd⟩ : ∃ d, s.size = d + 1 := ⟨s.size - 1, by omega⟩
    have ih := name04_from s hs d 1 (by omega) (by omega)
    have hw : wrap64 ((0 : Int) + 1) = ((1 : Nat) : Int) := by unfold wrap64; omega
    have hall : allB s s.size 0 = (tokB (bt s 0) && allB s d 1) := by rw [hd]; rfl
    rw [hall, decide_eq_true h0, Bool.true_and]
    rw [show s.size + 1 = (d + 1) + 1 by omega]
    unfold stewardref04_Name.l0
    rw [if_pos (by omega), if_pos (by omega), hw, ih]
    by_cases hl : 97 ≤ bt s 0 ∧ bt s 0 ≤ 122
    · rw [if_pos hl.1, if_pos hl.2]
      have e1 : letB (bt s 0) = true := by simp [letB, hl.1, hl.2]
      have e2 : tokB (bt s 0) = true := by simp [tokB, e1]
      rw [e1, e2, Bool.true_and, Bool.true_and, Bool.and_comm]
    · have e1 : letB (bt s 0) = false := by
        unfold letB
        by_cases h1 : 97 ≤ bt s 0
        · rw [decide_eq_false (fun h2 => hl ⟨h1, h2⟩), Bool.and_false]
        · rw [decide_eq_false h1, Bool.false_and]
      rw [e1]
      by_cases h1 : bt s 0 ≥ 97
      · rw [if_pos h1, if_neg (fun h2 => hl ⟨h1, h2⟩), if_pos rfl]; simp
      · rw [if_neg h1, if_pos rfl]; simp
  · rw [decide_eq_false h0, Bool.false_and, show s.size = 0 by omega]
    unfold stewardref04_Name.l0
    rw [show s.size = 0 by omega]
    rfl
theorem name04_calls {w : World} (s : ByteArray) (hs : s.size ≤ 1000) : Calls Try.prog 45 #[.string s] w fun e w' => e = .returned (.bool (tname s)) ∧ Step (fun _ => False) w w' :=
  (stewardref04_Name.calls _ s _ w (name04_is s hs)).mono fun e w' h => ⟨h.1, step_drawn h.2⟩
end Go.Proofs.Yteebahjpoafhmaa.Pool
