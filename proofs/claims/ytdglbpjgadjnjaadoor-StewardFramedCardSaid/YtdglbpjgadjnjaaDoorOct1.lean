/- octets: a byte's classes. Own work of this seat; no condition. -/
import Derived.Test.YtdglbpjgadjnjaaDoorKit
import Derived.Test.YtdglbpjgadjnjaaDoorWk
import Derived.Test.YtdglbpjgadjnjaaDoorOct0
namespace Go.Proofs.YtdglbpjgadjnjaaDoor.Oct
open Go.RowKit Go.Proofs.YtdglbpjgadjnjaaDoor.Kit
set_option linter.unusedVariables false
set_option linter.unusedSimpArgs false

theorem ixs_run (s : ByteArray) (c : Int) (w : World) : (callFunc 57 #[.string s, .int .u8 c]).run Tryd.prog w = .ok (.value (.int .i64 (Lib.indexByte s.data.toList c.toNat.toUInt8))) w := by
  rw [run_callFunc_extern Tryd.func57 (by kernel_rfl) (by kernel_rfl) (by kernel_rfl) (e := Extern.BytealgIndexByte.indexByte) (by kernel_rfl), Lib.run_indexByteString]
  rfl
theorem slixb_calls (s : ByteArray) (c : Int) (w : World) : Calls Tryd.prog 47 #[.string s, .int .u8 c] w fun e w' => e = .returned (.int .i64 (Lib.indexByte s.data.toList c.toNat.toUInt8)) ∧ w = w' := by
  have hf := fun w => ixs_run s c w
  generalize Lib.indexByte s.data.toList c.toNat.toUInt8 = r at *
  go_enter Tryd.func47, Tryd.ntmps47
  go_wp2
  go_ret
  exact ⟨rfl, rfl⟩
theorem ixb_calls (s : ByteArray) (c : Int) (w : World) : Calls Tryd.prog 55 #[.string s, .int .u8 c] w fun e w' => e = .returned (.int .i64 (Lib.indexByte s.data.toList c.toNat.toUInt8)) ∧ w = w' := by
  have HI := Lib.hid (fun w => slixb_calls s c w)
  generalize Lib.indexByte s.data.toList c.toNat.toUInt8 = r at *
  go_enter Tryd.func55, Tryd.ntmps55
  go_wp2_with (go_at_call 47; refine (HI.out _).mono ?_; rintro e w' ⟨rfl, rfl⟩)
  go_ret
  exact ⟨rfl, rfl⟩
theorem ix_all : (List.range 256).all (fun n => decide (0 ≤ Lib.indexByte signs ((n : Int).toNat.toUInt8)) == decide ((n : Int) ∈ ([33, 35, 36, 37, 38, 39, 42, 43, 45, 46, 94, 95, 96, 124, 126] : List Int))) = true := by kernel_rfl
theorem ix_sign (n : Nat) (hn : n < 256) : 0 ≤ Lib.indexByte signs ((n : Int).toNat.toUInt8) ↔ (n : Int) ∈ ([33, 35, 36, 37, 38, 39, 42, 43, 45, 46, 94, 95, 96, 124, 126] : List Int) := by
  have h := List.all_eq_true.1 ix_all n (List.mem_range.2 hn)
  simp only [beq_iff_eq, decide_eq_decide] at h
  exact h

set_option maxRecDepth 100000 in
set_option maxHeartbeats 2000000 in
theorem of_calls (n : Nat) (hn : n < 256) (w : World) : Calls Tryd.prog 45 #[.int .u8 n] w fun e w' => e = .returned (.int .u8 (ofN n)) ∧ w = w' := by
  have HI := Lib.hid (fun w => ixb_calls ⟨#[33, 35, 36, 37, 38, 39, 42, 43, 45, 46, 94, 95, 96, 124, 126]⟩ n w)
  have hs := ix_sign n hn
  change (0 ≤ Lib.indexByte (#[33, 35, 36, 37, 38, 39, 42, 43, 45, 46, 94, 95, 96, 124, 126] : Array UInt8).toList ((n : Int).toNat.toUInt8) ↔ _) at hs
  generalize Lib.indexByte (#[33, 35, 36, 37, 38, 39, 42, 43, 45, 46, 94, 95, 96, 124, 126] : Array UInt8).toList ((n : Int).toNat.toUInt8) = r at *
  have hz : (0 : Int) ≤ n := by omega
  go_enter Tryd.func45, Tryd.ntmps45
  by_cases h0 : n ≤ 8
  · have hlo : 0 ≤ n := by omega
    have g48 : ((48 : Int) ≤ n) = False := eq_false (by omega)
    have g97 : ((97 : Int) ≤ n) = False := eq_false (by omega)
    have g65 : ((65 : Int) ≤ n) = False := eq_false (by omega)
    have g103 : ((103 : Int) ≤ n) = False := eq_false (by omega)
    have g71 : ((71 : Int) ≤ n) = False := eq_false (by omega)
    have l57 : ((n : Int) ≤ 57) = True := eq_true (by omega)
    have l102 : ((n : Int) ≤ 102) = True := eq_true (by omega)
    have l70 : ((n : Int) ≤ 70) = True := eq_true (by omega)
    have l122 : ((n : Int) ≤ 122) = True := eq_true (by omega)
    have l90 : ((n : Int) ≤ 90) = True := eq_true (by omega)
    have l126 : ((n : Int) ≤ 126) = True := eq_true (by omega)
    have m32 : ((32 : Int) < n) = False := eq_false (by omega)
    have e32 : ((n : Int) == 32) = false := by simp; omega
    have e9 : ((n : Int) == 9) = false := by simp; omega
    have hmem0 : ¬ (n : Int) ∈ ([33, 35, 36, 37, 38, 39, 42, 43, 45, 46, 94, 95, 96, 124, 126] : List Int) := by simp; omega
    have hr : ((0 : Int) ≤ r) = False := eq_false (fun h => hmem0 (hs.1 h))
    have hmem := eq_false hmem0
    have hof : ofN n = 0 := by
      unfold ofN
      simp only [hmem, if_false]
      repeat' split
      all_goals omega
    rw [hof]
    clear hof
    go_wp2_with (go_at_call 55; refine (HI.out _).mono ?_; rintro e w' ⟨rfl, rfl⟩)
    go_ret
    exact ⟨by rfl, rfl⟩
  by_cases h1 : n ≤ 9
  · have hlo : 9 ≤ n := by omega
    have g48 : ((48 : Int) ≤ n) = False := eq_false (by omega)
    have g97 : ((97 : Int) ≤ n) = False := eq_false (by omega)
    have g65 : ((65 : Int) ≤ n) = False := eq_false (by omega)
    have g103 : ((103 : Int) ≤ n) = False := eq_false (by omega)
    have g71 : ((71 : Int) ≤ n) = False := eq_false (by omega)
    have l57 : ((n : Int) ≤ 57) = True := eq_true (by omega)
    have l102 : ((n : Int) ≤ 102) = True := eq_true (by omega)
    have l70 : ((n : Int) ≤ 70) = True := eq_true (by omega)
    have l122 : ((n : Int) ≤ 122) = True := eq_true (by omega)
    have l90 : ((n : Int) ≤ 90) = True := eq_true (by omega)
    have l126 : ((n : Int) ≤ 126) = True := eq_true (by omega)
    have m32 : ((32 : Int) < n) = False := eq_false (by omega)
    have e32 : ((n : Int) == 32) = false := by simp; omega
    have e9 : ((n : Int) == 9) = true := by simp; omega
    have hmem0 : ¬ (n : Int) ∈ ([33, 35, 36, 37, 38, 39, 42, 43, 45, 46, 94, 95, 96, 124, 126] : List Int) := by simp; omega
    have hr : ((0 : Int) ≤ r) = False := eq_false (fun h => hmem0 (hs.1 h))
    have hmem := eq_false hmem0
    have hof : ofN n = 4 := by
      unfold ofN
      simp only [hmem, if_false]
      repeat' split
      all_goals omega
    rw [hof]
    clear hof
    go_wp2_with (go_at_call 55; refine (HI.out _).mono ?_; rintro e w' ⟨rfl, rfl⟩)
    go_ret
    exact ⟨by rfl, rfl⟩
  by_cases h2 : n ≤ 31
  · have hlo : 10 ≤ n := by omega
    have g48 : ((48 : Int) ≤ n) = False := eq_false (by omega)
    have g97 : ((97 : Int) ≤ n) = False := eq_false (by omega)
    have g65 : ((65 : Int) ≤ n) = False := eq_false (by omega)
    have g103 : ((103 : Int) ≤ n) = False := eq_false (by omega)
    have g71 : ((71 : Int) ≤ n) = False := eq_false (by omega)
    have l57 : ((n : Int) ≤ 57) = True := eq_true (by omega)
    have l102 : ((n : Int) ≤ 102) = True := eq_true (by omega)
    have l70 : ((n : Int) ≤ 70) = True := eq_true (by omega)
    have l122 : ((n : Int) ≤ 122) = True := eq_true (by omega)
    have l90 : ((n : Int) ≤ 90) = True := eq_true (by omega)
    have l126 : ((n : Int) ≤ 126) = True := eq_true (by omega)
    have m32 : ((32 : Int) < n) = False := eq_false (by omega)
    have e32 : ((n : Int) == 32) = false := by simp; omega
    have e9 : ((n : Int) == 9) = false := by simp; omega
    have hmem0 : ¬ (n : Int) ∈ ([33, 35, 36, 37, 38, 39, 42, 43, 45, 46, 94, 95, 96, 124, 126] : List Int) := by simp; omega
    have hr : ((0 : Int) ≤ r) = False := eq_false (fun h => hmem0 (hs.1 h))
    have hmem := eq_false hmem0
    have hof : ofN n = 0 := by
      unfold ofN
      simp only [hmem, if_false]
      repeat' split
      all_goals omega
    rw [hof]
    clear hof
    go_wp2_with (go_at_call 55; refine (HI.out _).mono ?_; rintro e w' ⟨rfl, rfl⟩)
    go_ret
    exact ⟨by rfl, rfl⟩
  by_cases h3 : n ≤ 32
  · have hlo : 32 ≤ n := by omega
    have g48 : ((48 : Int) ≤ n) = False := eq_false (by omega)
    have g97 : ((97 : Int) ≤ n) = False := eq_false (by omega)
    have g65 : ((65 : Int) ≤ n) = False := eq_false (by omega)
    have g103 : ((103 : Int) ≤ n) = False := eq_false (by omega)
    have g71 : ((71 : Int) ≤ n) = False := eq_false (by omega)
    have l57 : ((n : Int) ≤ 57) = True := eq_true (by omega)
    have l102 : ((n : Int) ≤ 102) = True := eq_true (by omega)
    have l70 : ((n : Int) ≤ 70) = True := eq_true (by omega)
    have l122 : ((n : Int) ≤ 122) = True := eq_true (by omega)
    have l90 : ((n : Int) ≤ 90) = True := eq_true (by omega)
    have l126 : ((n : Int) ≤ 126) = True := eq_true (by omega)
    have m32 : ((32 : Int) < n) = False := eq_false (by omega)
    have e32 : ((n : Int) == 32) = true := by simp; omega
    have e9 : ((n : Int) == 9) = false := by simp; omega
    have hmem0 : ¬ (n : Int) ∈ ([33, 35, 36, 37, 38, 39, 42, 43, 45, 46, 94, 95, 96, 124, 126] : List Int) := by simp; omega
    have hr : ((0 : Int) ≤ r) = False := eq_false (fun h => hmem0 (hs.1 h))
    have hmem := eq_false hmem0
    have hof : ofN n = 4 := by
      unfold ofN
      simp only [hmem, if_false]
      repeat' split
      all_goals omega
    rw [hof]
    clear hof
    go_wp2_with (go_at_call 55; refine (HI.out _).mono ?_; rintro e w' ⟨rfl, rfl⟩)
    go_ret
    exact ⟨by rfl, rfl⟩
  by_cases h4 : n ≤ 47
  · have hlo : 33 ≤ n := by omega
    have g48 : ((48 : Int) ≤ n) = False := eq_false (by omega)
    have g97 : ((97 : Int) ≤ n) = False := eq_false (by omega)
    have g65 : ((65 : Int) ≤ n) = False := eq_false (by omega)
    have g103 : ((103 : Int) ≤ n) = False := eq_false (by omega)
    have g71 : ((71 : Int) ≤ n) = False := eq_false (by omega)
    have l57 : ((n : Int) ≤ 57) = True := eq_true (by omega)
    have l102 : ((n : Int) ≤ 102) = True := eq_true (by omega)
    have l70 : ((n : Int) ≤ 70) = True := eq_true (by omega)
    have l122 : ((n : Int) ≤ 122) = True := eq_true (by omega)
    have l90 : ((n : Int) ≤ 90) = True := eq_true (by omega)
    have l126 : ((n : Int) ≤ 126) = True := eq_true (by omega)
    have m32 : ((32 : Int) < n) = True := eq_true (by omega)
    have e32 : ((n : Int) == 32) = false := by simp; omega
    have e9 : ((n : Int) == 9) = false := by simp; omega
    by_cases hmem0 : (n : Int) ∈ ([33, 35, 36, 37, 38, 39, 42, 43, 45, 46, 94, 95, 96, 124, 126] : List Int)
    · have hr : ((0 : Int) ≤ r) = True := eq_true (hs.2 hmem0)
      have hmem := eq_true hmem0
      have hof : ofN n = 7 := by
        unfold ofN
        simp only [hmem, if_true]
        repeat' split
        all_goals omega
      rw [hof]
      clear hof
      go_wp2_with (go_at_call 55; refine (HI.out _).mono ?_; rintro e w' ⟨rfl, rfl⟩)
      go_ret
      exact ⟨by rfl, rfl⟩
    · have hr : ((0 : Int) ≤ r) = False := eq_false (fun h => hmem0 (hs.1 h))
      have hmem := eq_false hmem0
      have hof : ofN n = 6 := by
        unfold ofN
        simp only [hmem, if_false]
        repeat' split
        all_goals omega
      rw [hof]
      clear hof
      go_wp2_with (go_at_call 55; refine (HI.out _).mono ?_; rintro e w' ⟨rfl, rfl⟩)
      go_ret
      exact ⟨by rfl, rfl⟩
  by_cases h5 : n ≤ 57
  · have hlo : 48 ≤ n := by omega
    have g48 : ((48 : Int) ≤ n) = True := eq_true (by omega)
    have g97 : ((97 : Int) ≤ n) = False := eq_false (by omega)
    have g65 : ((65 : Int) ≤ n) = False := eq_false (by omega)
    have g103 : ((103 : Int) ≤ n) = False := eq_false (by omega)
    have g71 : ((71 : Int) ≤ n) = False := eq_false (by omega)
    have l57 : ((n : Int) ≤ 57) = True := eq_true (by omega)
    have l102 : ((n : Int) ≤ 102) = True := eq_true (by omega)
    have l70 : ((n : Int) ≤ 70) = True := eq_true (by omega)
    have l122 : ((n : Int) ≤ 122) = True := eq_true (by omega)
    have l90 : ((n : Int) ≤ 90) = True := eq_true (by omega)
    have l126 : ((n : Int) ≤ 126) = True := eq_true (by omega)
    have m32 : ((32 : Int) < n) = True := eq_true (by omega)
    have e32 : ((n : Int) == 32) = false := by simp; omega
    have e9 : ((n : Int) == 9) = false := by simp; omega
    have hmem0 : ¬ (n : Int) ∈ ([33, 35, 36, 37, 38, 39, 42, 43, 45, 46, 94, 95, 96, 124, 126] : List Int) := by simp; omega
    have hr : ((0 : Int) ≤ r) = False := eq_false (fun h => hmem0 (hs.1 h))
    have hmem := eq_false hmem0
    have hof : ofN n = 31 := by
      unfold ofN
      simp only [hmem, if_false]
      repeat' split
      all_goals omega
    rw [hof]
    clear hof
    go_wp2_with (go_at_call 55; refine (HI.out _).mono ?_; rintro e w' ⟨rfl, rfl⟩)
    go_ret
    exact ⟨by rfl, rfl⟩
  by_cases h6 : n ≤ 64
  · have hlo : 58 ≤ n := by omega
    have g48 : ((48 : Int) ≤ n) = True := eq_true (by omega)
    have g97 : ((97 : Int) ≤ n) = False := eq_false (by omega)
    have g65 : ((65 : Int) ≤ n) = False := eq_false (by omega)
    have g103 : ((103 : Int) ≤ n) = False := eq_false (by omega)
    have g71 : ((71 : Int) ≤ n) = False := eq_false (by omega)
    have l57 : ((n : Int) ≤ 57) = False := eq_false (by omega)
    have l102 : ((n : Int) ≤ 102) = True := eq_true (by omega)
    have l70 : ((n : Int) ≤ 70) = True := eq_true (by omega)
    have l122 : ((n : Int) ≤ 122) = True := eq_true (by omega)
    have l90 : ((n : Int) ≤ 90) = True := eq_true (by omega)
    have l126 : ((n : Int) ≤ 126) = True := eq_true (by omega)
    have m32 : ((32 : Int) < n) = True := eq_true (by omega)
    have e32 : ((n : Int) == 32) = false := by simp; omega
    have e9 : ((n : Int) == 9) = false := by simp; omega
    have hmem0 : ¬ (n : Int) ∈ ([33, 35, 36, 37, 38, 39, 42, 43, 45, 46, 94, 95, 96, 124, 126] : List Int) := by simp; omega
    have hr : ((0 : Int) ≤ r) = False := eq_false (fun h => hmem0 (hs.1 h))
    have hmem := eq_false hmem0
    have hof : ofN n = 6 := by
      unfold ofN
      simp only [hmem, if_false]
      repeat' split
      all_goals omega
    rw [hof]
    clear hof
    go_wp2_with (go_at_call 55; refine (HI.out _).mono ?_; rintro e w' ⟨rfl, rfl⟩)
    go_ret
    exact ⟨by rfl, rfl⟩
  by_cases h7 : n ≤ 70
  · have hlo : 65 ≤ n := by omega
    have g48 : ((48 : Int) ≤ n) = True := eq_true (by omega)
    have g97 : ((97 : Int) ≤ n) = False := eq_false (by omega)
    have g65 : ((65 : Int) ≤ n) = True := eq_true (by omega)
    have g103 : ((103 : Int) ≤ n) = False := eq_false (by omega)
    have g71 : ((71 : Int) ≤ n) = False := eq_false (by omega)
    have l57 : ((n : Int) ≤ 57) = False := eq_false (by omega)
    have l102 : ((n : Int) ≤ 102) = True := eq_true (by omega)
    have l70 : ((n : Int) ≤ 70) = True := eq_true (by omega)
    have l122 : ((n : Int) ≤ 122) = True := eq_true (by omega)
    have l90 : ((n : Int) ≤ 90) = True := eq_true (by omega)
    have l126 : ((n : Int) ≤ 126) = True := eq_true (by omega)
    have m32 : ((32 : Int) < n) = True := eq_true (by omega)
    have e32 : ((n : Int) == 32) = false := by simp; omega
    have e9 : ((n : Int) == 9) = false := by simp; omega
    have hmem0 : ¬ (n : Int) ∈ ([33, 35, 36, 37, 38, 39, 42, 43, 45, 46, 94, 95, 96, 124, 126] : List Int) := by simp; omega
    have hr : ((0 : Int) ≤ r) = False := eq_false (fun h => hmem0 (hs.1 h))
    have hmem := eq_false hmem0
    have hof : ofN n = 23 := by
      unfold ofN
      simp only [hmem, if_false]
      repeat' split
      all_goals omega
    rw [hof]
    clear hof
    go_wp2_with (go_at_call 55; refine (HI.out _).mono ?_; rintro e w' ⟨rfl, rfl⟩)
    go_ret
    exact ⟨by rfl, rfl⟩
  by_cases h8 : n ≤ 90
  · have hlo : 71 ≤ n := by omega
    have g48 : ((48 : Int) ≤ n) = True := eq_true (by omega)
    have g97 : ((97 : Int) ≤ n) = False := eq_false (by omega)
    have g65 : ((65 : Int) ≤ n) = True := eq_true (by omega)
    have g103 : ((103 : Int) ≤ n) = False := eq_false (by omega)
    have g71 : ((71 : Int) ≤ n) = True := eq_true (by omega)
    have l57 : ((n : Int) ≤ 57) = False := eq_false (by omega)
    have l102 : ((n : Int) ≤ 102) = True := eq_true (by omega)
    have l70 : ((n : Int) ≤ 70) = False := eq_false (by omega)
    have l122 : ((n : Int) ≤ 122) = True := eq_true (by omega)
    have l90 : ((n : Int) ≤ 90) = True := eq_true (by omega)
    have l126 : ((n : Int) ≤ 126) = True := eq_true (by omega)
    have m32 : ((32 : Int) < n) = True := eq_true (by omega)
    have e32 : ((n : Int) == 32) = false := by simp; omega
    have e9 : ((n : Int) == 9) = false := by simp; omega
    have hmem0 : ¬ (n : Int) ∈ ([33, 35, 36, 37, 38, 39, 42, 43, 45, 46, 94, 95, 96, 124, 126] : List Int) := by simp; omega
    have hr : ((0 : Int) ≤ r) = False := eq_false (fun h => hmem0 (hs.1 h))
    have hmem := eq_false hmem0
    have hof : ofN n = 7 := by
      unfold ofN
      simp only [hmem, if_false]
      repeat' split
      all_goals omega
    rw [hof]
    clear hof
    go_wp2_with (go_at_call 55; refine (HI.out _).mono ?_; rintro e w' ⟨rfl, rfl⟩)
    go_ret
    exact ⟨by rfl, rfl⟩
  by_cases h9 : n ≤ 96
  · have hlo : 91 ≤ n := by omega
    have g48 : ((48 : Int) ≤ n) = True := eq_true (by omega)
    have g97 : ((97 : Int) ≤ n) = False := eq_false (by omega)
    have g65 : ((65 : Int) ≤ n) = True := eq_true (by omega)
    have g103 : ((103 : Int) ≤ n) = False := eq_false (by omega)
    have g71 : ((71 : Int) ≤ n) = True := eq_true (by omega)
    have l57 : ((n : Int) ≤ 57) = False := eq_false (by omega)
    have l102 : ((n : Int) ≤ 102) = True := eq_true (by omega)
    have l70 : ((n : Int) ≤ 70) = False := eq_false (by omega)
    have l122 : ((n : Int) ≤ 122) = True := eq_true (by omega)
    have l90 : ((n : Int) ≤ 90) = False := eq_false (by omega)
    have l126 : ((n : Int) ≤ 126) = True := eq_true (by omega)
    have m32 : ((32 : Int) < n) = True := eq_true (by omega)
    have e32 : ((n : Int) == 32) = false := by simp; omega
    have e9 : ((n : Int) == 9) = false := by simp; omega
    by_cases hmem0 : (n : Int) ∈ ([33, 35, 36, 37, 38, 39, 42, 43, 45, 46, 94, 95, 96, 124, 126] : List Int)
    · have hr : ((0 : Int) ≤ r) = True := eq_true (hs.2 hmem0)
      have hmem := eq_true hmem0
      have hof : ofN n = 7 := by
        unfold ofN
        simp only [hmem, if_true]
        repeat' split
        all_goals omega
      rw [hof]
      clear hof
      go_wp2_with (go_at_call 55; refine (HI.out _).mono ?_; rintro e w' ⟨rfl, rfl⟩)
      go_ret
      exact ⟨by rfl, rfl⟩
    · have hr : ((0 : Int) ≤ r) = False := eq_false (fun h => hmem0 (hs.1 h))
      have hmem := eq_false hmem0
      have hof : ofN n = 6 := by
        unfold ofN
        simp only [hmem, if_false]
        repeat' split
        all_goals omega
      rw [hof]
      clear hof
      go_wp2_with (go_at_call 55; refine (HI.out _).mono ?_; rintro e w' ⟨rfl, rfl⟩)
      go_ret
      exact ⟨by rfl, rfl⟩
  by_cases h10 : n ≤ 102
  · have hlo : 97 ≤ n := by omega
    have g48 : ((48 : Int) ≤ n) = True := eq_true (by omega)
    have g97 : ((97 : Int) ≤ n) = True := eq_true (by omega)
    have g65 : ((65 : Int) ≤ n) = True := eq_true (by omega)
    have g103 : ((103 : Int) ≤ n) = False := eq_false (by omega)
    have g71 : ((71 : Int) ≤ n) = True := eq_true (by omega)
    have l57 : ((n : Int) ≤ 57) = False := eq_false (by omega)
    have l102 : ((n : Int) ≤ 102) = True := eq_true (by omega)
    have l70 : ((n : Int) ≤ 70) = False := eq_false (by omega)
    have l122 : ((n : Int) ≤ 122) = True := eq_true (by omega)
    have l90 : ((n : Int) ≤ 90) = False := eq_false (by omega)
    have l126 : ((n : Int) ≤ 126) = True := eq_true (by omega)
    have m32 : ((32 : Int) < n) = True := eq_true (by omega)
    have e32 : ((n : Int) == 32) = false := by simp; omega
    have e9 : ((n : Int) == 9) = false := by simp; omega
    have hmem0 : ¬ (n : Int) ∈ ([33, 35, 36, 37, 38, 39, 42, 43, 45, 46, 94, 95, 96, 124, 126] : List Int) := by simp; omega
    have hr : ((0 : Int) ≤ r) = False := eq_false (fun h => hmem0 (hs.1 h))
    have hmem := eq_false hmem0
    have hof : ofN n = 23 := by
      unfold ofN
      simp only [hmem, if_false]
      repeat' split
      all_goals omega
    rw [hof]
    clear hof
    go_wp2_with (go_at_call 55; refine (HI.out _).mono ?_; rintro e w' ⟨rfl, rfl⟩)
    go_ret
    exact ⟨by rfl, rfl⟩
  by_cases h11 : n ≤ 122
  · have hlo : 103 ≤ n := by omega
    have g48 : ((48 : Int) ≤ n) = True := eq_true (by omega)
    have g97 : ((97 : Int) ≤ n) = True := eq_true (by omega)
    have g65 : ((65 : Int) ≤ n) = True := eq_true (by omega)
    have g103 : ((103 : Int) ≤ n) = True := eq_true (by omega)
    have g71 : ((71 : Int) ≤ n) = True := eq_true (by omega)
    have l57 : ((n : Int) ≤ 57) = False := eq_false (by omega)
    have l102 : ((n : Int) ≤ 102) = False := eq_false (by omega)
    have l70 : ((n : Int) ≤ 70) = False := eq_false (by omega)
    have l122 : ((n : Int) ≤ 122) = True := eq_true (by omega)
    have l90 : ((n : Int) ≤ 90) = False := eq_false (by omega)
    have l126 : ((n : Int) ≤ 126) = True := eq_true (by omega)
    have m32 : ((32 : Int) < n) = True := eq_true (by omega)
    have e32 : ((n : Int) == 32) = false := by simp; omega
    have e9 : ((n : Int) == 9) = false := by simp; omega
    have hmem0 : ¬ (n : Int) ∈ ([33, 35, 36, 37, 38, 39, 42, 43, 45, 46, 94, 95, 96, 124, 126] : List Int) := by simp; omega
    have hr : ((0 : Int) ≤ r) = False := eq_false (fun h => hmem0 (hs.1 h))
    have hmem := eq_false hmem0
    have hof : ofN n = 7 := by
      unfold ofN
      simp only [hmem, if_false]
      repeat' split
      all_goals omega
    rw [hof]
    clear hof
    go_wp2_with (go_at_call 55; refine (HI.out _).mono ?_; rintro e w' ⟨rfl, rfl⟩)
    go_ret
    exact ⟨by rfl, rfl⟩
  by_cases h12 : n ≤ 126
  · have hlo : 123 ≤ n := by omega
    have g48 : ((48 : Int) ≤ n) = True := eq_true (by omega)
    have g97 : ((97 : Int) ≤ n) = True := eq_true (by omega)
    have g65 : ((65 : Int) ≤ n) = True := eq_true (by omega)
    have g103 : ((103 : Int) ≤ n) = True := eq_true (by omega)
    have g71 : ((71 : Int) ≤ n) = True := eq_true (by omega)
    have l57 : ((n : Int) ≤ 57) = False := eq_false (by omega)
    have l102 : ((n : Int) ≤ 102) = False := eq_false (by omega)
    have l70 : ((n : Int) ≤ 70) = False := eq_false (by omega)
    have l122 : ((n : Int) ≤ 122) = False := eq_false (by omega)
    have l90 : ((n : Int) ≤ 90) = False := eq_false (by omega)
    have l126 : ((n : Int) ≤ 126) = True := eq_true (by omega)
    have m32 : ((32 : Int) < n) = True := eq_true (by omega)
    have e32 : ((n : Int) == 32) = false := by simp; omega
    have e9 : ((n : Int) == 9) = false := by simp; omega
    by_cases hmem0 : (n : Int) ∈ ([33, 35, 36, 37, 38, 39, 42, 43, 45, 46, 94, 95, 96, 124, 126] : List Int)
    · have hr : ((0 : Int) ≤ r) = True := eq_true (hs.2 hmem0)
      have hmem := eq_true hmem0
      have hof : ofN n = 7 := by
        unfold ofN
        simp only [hmem, if_true]
        repeat' split
        all_goals omega
      rw [hof]
      clear hof
      go_wp2_with (go_at_call 55; refine (HI.out _).mono ?_; rintro e w' ⟨rfl, rfl⟩)
      go_ret
      exact ⟨by rfl, rfl⟩
    · have hr : ((0 : Int) ≤ r) = False := eq_false (fun h => hmem0 (hs.1 h))
      have hmem := eq_false hmem0
      have hof : ofN n = 6 := by
        unfold ofN
        simp only [hmem, if_false]
        repeat' split
        all_goals omega
      rw [hof]
      clear hof
      go_wp2_with (go_at_call 55; refine (HI.out _).mono ?_; rintro e w' ⟨rfl, rfl⟩)
      go_ret
      exact ⟨by rfl, rfl⟩
  have hlo : 127 ≤ n := by omega
  have g48 : ((48 : Int) ≤ n) = True := eq_true (by omega)
  have g97 : ((97 : Int) ≤ n) = True := eq_true (by omega)
  have g65 : ((65 : Int) ≤ n) = True := eq_true (by omega)
  have g103 : ((103 : Int) ≤ n) = True := eq_true (by omega)
  have g71 : ((71 : Int) ≤ n) = True := eq_true (by omega)
  have l57 : ((n : Int) ≤ 57) = False := eq_false (by omega)
  have l102 : ((n : Int) ≤ 102) = False := eq_false (by omega)
  have l70 : ((n : Int) ≤ 70) = False := eq_false (by omega)
  have l122 : ((n : Int) ≤ 122) = False := eq_false (by omega)
  have l90 : ((n : Int) ≤ 90) = False := eq_false (by omega)
  have l126 : ((n : Int) ≤ 126) = False := eq_false (by omega)
  have m32 : ((32 : Int) < n) = True := eq_true (by omega)
  have e32 : ((n : Int) == 32) = false := by simp; omega
  have e9 : ((n : Int) == 9) = false := by simp; omega
  have hmem0 : ¬ (n : Int) ∈ ([33, 35, 36, 37, 38, 39, 42, 43, 45, 46, 94, 95, 96, 124, 126] : List Int) := by simp; omega
  have hr : ((0 : Int) ≤ r) = False := eq_false (fun h => hmem0 (hs.1 h))
  have hmem := eq_false hmem0
  have hof : ofN n = 0 := by
    unfold ofN
    simp only [hmem, if_false]
    repeat' split
    all_goals omega
  rw [hof]
  clear hof
  go_wp2_with (go_at_call 55; refine (HI.out _).mono ?_; rintro e w' ⟨rfl, rfl⟩)
  go_ret
  exact ⟨by rfl, rfl⟩
end Go.Proofs.YtdglbpjgadjnjaaDoor.Oct
