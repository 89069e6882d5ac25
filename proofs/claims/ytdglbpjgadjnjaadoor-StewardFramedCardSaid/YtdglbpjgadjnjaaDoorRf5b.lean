/- The document's octets: letter, digit, blank, In, Token. Own work of this seat; no condition but on lengths. -/
import Derived.Test.YtdglbpjgadjnjaaDoorRf5a
namespace Go.Proofs.YtdglbpjgadjnjaaDoor.Fie
open Go.RowKit Go.Proofs.YtdglbpjgadjnjaaDoor.Kit Go.Proofs.YtdglbpjgadjnjaaDoor.Oct Go.Proofs.YtdglbpjgadjnjaaDoor.Cut
set_option linter.unusedVariables false
set_option linter.unusedSimpArgs false

set_option maxRecDepth 100000 in
theorem rletter_calls (b : UInt8) (w : World) : Calls Tryd.prog 30 #[.int .u8 (b.toNat : Int)] w fun e w' => e = .returned (.bool (letter b)) ∧ w = w' := by
  have hc : b.toNat < 65 ∨ (65 ≤ b.toNat ∧ b.toNat ≤ 90) ∨ (91 ≤ b.toNat ∧ b.toNat ≤ 96) ∨ (97 ≤ b.toNat ∧ b.toNat ≤ 122) ∨ 123 ≤ b.toNat := by omega
  obtain ⟨r, hr⟩ : ∃ r, letter b = r := ⟨_, rfl⟩
  rw [hr]
  unfold letter at hr
  generalize b.toNat = n at *
  rcases hc with h | ⟨h, k⟩ | ⟨h, k⟩ | ⟨h, k⟩ | h
  · have q1 : ((65 : Int) ≤ (n : Int)) = False := eq_false (by omega)
    have q3 : ((97 : Int) ≤ (n : Int)) = False := eq_false (by omega)
    obtain rfl : false = r := by rw [← hr]; simp; omega
    clear hr
    go_enter Tryd.func30, Tryd.ntmps30
    go_wp2
    go_ret
    exact ⟨rfl, rfl⟩
  · have q1 : ((65 : Int) ≤ (n : Int)) = True := eq_true (by omega)
    have q2 : ((n : Int) ≤ 90) = True := eq_true (by omega)
    obtain rfl : true = r := by rw [← hr]; simp; omega
    clear hr
    go_enter Tryd.func30, Tryd.ntmps30
    go_wp2
    go_ret
    exact ⟨rfl, rfl⟩
  · have q1 : ((65 : Int) ≤ (n : Int)) = True := eq_true (by omega)
    have q2 : ((n : Int) ≤ 90) = False := eq_false (by omega)
    have q3 : ((97 : Int) ≤ (n : Int)) = False := eq_false (by omega)
    obtain rfl : false = r := by rw [← hr]; simp; omega
    clear hr
    go_enter Tryd.func30, Tryd.ntmps30
    go_wp2
    go_ret
    exact ⟨rfl, rfl⟩
  · have q1 : ((65 : Int) ≤ (n : Int)) = True := eq_true (by omega)
    have q2 : ((n : Int) ≤ 90) = False := eq_false (by omega)
    have q3 : ((97 : Int) ≤ (n : Int)) = True := eq_true (by omega)
    have q4 : ((n : Int) ≤ 122) = True := eq_true (by omega)
    obtain rfl : true = r := by rw [← hr]; simp; omega
    clear hr
    go_enter Tryd.func30, Tryd.ntmps30
    go_wp2
    go_ret
    exact ⟨rfl, rfl⟩
  · have q1 : ((65 : Int) ≤ (n : Int)) = True := eq_true (by omega)
    have q2 : ((n : Int) ≤ 90) = False := eq_false (by omega)
    have q3 : ((97 : Int) ≤ (n : Int)) = True := eq_true (by omega)
    have q4 : ((n : Int) ≤ 122) = False := eq_false (by omega)
    obtain rfl : false = r := by rw [← hr]; simp; omega
    clear hr
    go_enter Tryd.func30, Tryd.ntmps30
    go_wp2
    go_ret
    exact ⟨rfl, rfl⟩
set_option maxRecDepth 100000 in
theorem rdigit_calls (b : UInt8) (w : World) : Calls Tryd.prog 31 #[.int .u8 (b.toNat : Int)] w fun e w' => e = .returned (.bool (digit b)) ∧ w = w' := by
  have hc : b.toNat < 48 ∨ (48 ≤ b.toNat ∧ b.toNat ≤ 57) ∨ 58 ≤ b.toNat := by omega
  obtain ⟨r, hr⟩ : ∃ r, digit b = r := ⟨_, rfl⟩
  rw [hr]
  unfold digit at hr
  generalize b.toNat = n at *
  rcases hc with h | ⟨h, k⟩ | h
  · have q1 : ((48 : Int) ≤ (n : Int)) = False := eq_false (by omega)
    obtain rfl : false = r := by rw [← hr]; simp; omega
    clear hr
    go_enter Tryd.func31, Tryd.ntmps31
    go_wp2
    go_ret
    exact ⟨rfl, rfl⟩
  · have q1 : ((48 : Int) ≤ (n : Int)) = True := eq_true (by omega)
    have q2 : ((n : Int) ≤ 57) = True := eq_true (by omega)
    obtain rfl : true = r := by rw [← hr]; simp; omega
    clear hr
    go_enter Tryd.func31, Tryd.ntmps31
    go_wp2
    go_ret
    exact ⟨rfl, rfl⟩
  · have q1 : ((48 : Int) ≤ (n : Int)) = True := eq_true (by omega)
    have q2 : ((n : Int) ≤ 57) = False := eq_false (by omega)
    obtain rfl : false = r := by rw [← hr]; simp; omega
    clear hr
    go_enter Tryd.func31, Tryd.ntmps31
    go_wp2
    go_ret
    exact ⟨rfl, rfl⟩
theorem u8_eq (b : UInt8) (k : Nat) (hk : k < 256) : (b == UInt8.ofNat k) = ((b.toNat : Int) == (k : Int)) := by
  rw [Bool.eq_iff_iff, beq_iff_eq, beq_iff_eq]
  constructor
  · rintro rfl
    rw [UInt8.toNat_ofNat']
    omega
  · intro h
    rw [← UInt8.toNat_inj, UInt8.toNat_ofNat']
    omega
theorem isBl_int (b : UInt8) : isBl b = (((b.toNat : Int) == 32) || ((b.toNat : Int) == 9)) := by
  unfold isBl
  have h1 : (b == 32) = ((b.toNat : Int) == 32) := u8_eq b 32 (by decide)
  have h2 : (b == 9) = ((b.toNat : Int) == 9) := u8_eq b 9 (by decide)
  rw [h1, h2]
set_option maxRecDepth 100000 in
theorem rblank_calls (b : UInt8) (w : World) : Calls Tryd.prog 29 #[.int .u8 (b.toNat : Int)] w fun e w' => e = .returned (.bool (isBl b)) ∧ w = w' := by
  have hr := isBl_int b
  rw [hr]
  generalize (b.toNat : Int) = n at *
  clear hr
  cases q1 : (n == 32) with
  | true =>
    go_enter Tryd.func29, Tryd.ntmps29
    go_wp2
    go_ret
    exact ⟨rfl, rfl⟩
  | false =>
    generalize q2 : (n == 9) = z at *
    go_enter Tryd.func29, Tryd.ntmps29
    go_wp2
    go_ret
    exact ⟨rfl, rfl⟩
theorem any_step {α : Type} (p : α → Bool) {l : List α} {i : Nat} {x : α} (h : l[i]? = some x) (h0 : (l.take i).any p = false) (hp : p x = false) : (l.take (i + 1)).any p = false := by
  rw [List.take_add_one, h, List.any_append, h0]
  simp [hp]
theorem any_true {α : Type} (p : α → Bool) {l : List α} {i : Nat} {x : α} (h : l[i]? = some x) (hp : p x = true) : l.any p = true := List.any_eq_true.2 ⟨x, List.mem_of_getElem? h, hp⟩
theorem u8_beq (a b : UInt8) : (a == b) = ((a.toNat : Int) == (b.toNat : Int)) := by
  rw [Bool.eq_iff_iff, beq_iff_eq, beq_iff_eq, ← UInt8.toNat_inj]
  omega
set_option maxRecDepth 100000 in
set_option maxHeartbeats 1000000 in
theorem rin_calls (s : ByteArray) (hs : s.size ≤ 900000) (b : UInt8) (w : World) : Calls Tryd.prog 32 #[.string s, .int .u8 (b.toNat : Int)] w fun e w' => e = .returned (.bool ((bts s).any (· == b))) ∧ w = w' := by
  obtain ⟨r, hr⟩ : ∃ r, (bts s).any (· == b) = r := ⟨_, rfl⟩
  rw [hr]
  have HR := Lib.hid hr
  clear hr
  have HQ := Lib.hid (fun x : UInt8 => (u8_beq x b).symm)
  generalize (b.toNat : Int) = bn at *
  go_enter Tryd.func32, Tryd.ntmps32
  go_wp2
  go_loopw [5] (fun v4 wr => ∃ (i : Nat), v4 = .int .i64 (i : Int) ∧ i ≤ s.size ∧ ((bts s).take i).any (· == b) = false ∧ w = wr) (fun v _ => s.size - (intOf v).toNat)
  case atStart => exact ⟨0, rfl, Nat.zero_le _, by simp, rfl⟩
  case round =>
    obtain ⟨i, rfl, hi, han, rfl⟩ := hrel
    by_cases hin : i < s.size
    · have hin' : ((i : Int) < (s.size : Int)) := by omega
      have hg := bts_get hin
      have HT := Lib.hid (fun h => any_step (· == b) hg han h)
      have HF := Lib.hid (fun h => any_true (· == b) hg h)
      have hq := HQ.out s[i]
      clear hg han
      cases hc : (s[i] == b) with
      | true =>
        rw [hc] at hq
        obtain rfl := (HF.out hc).symm.trans HR.out
        clear hc HT HF
        go_wp2
        go_ret
        exact ⟨rfl, rfl⟩
      | false =>
        rw [hc] at hq
        have HC := Lib.hid hc
        clear hc
        go_wp2
        go_roundw
        case rel => exact ⟨i + 1, by go_num, by omega, HT.out HC.out, by first | rfl | trivial⟩
        case measure => simp [intOf]; omega
    · have hin' : ¬ ((i : Int) < (s.size : Int)) := by omega
      obtain rfl : i = s.size := by omega
      have han2 : (bts s).any (· == b) = false := by rw [← bts_len, List.take_length] at han; exact han
      obtain rfl := han2.symm.trans HR.out
      clear han han2
      go_wp2
      go_ret
      exact ⟨rfl, rfl⟩
def bSigns : ByteArray := ⟨#[33, 35, 36, 37, 38, 39, 42, 43, 45, 46, 94, 95, 96, 124, 126]⟩
theorem any_signs (b : UInt8) : (bts bSigns).any (· == b) = signs.contains b := by
  show signs.any (· == b) = signs.contains b
  rw [List.contains_eq_any_beq]
  congr 1
  funext x
  rw [Bool.eq_iff_iff, beq_iff_eq, beq_iff_eq]
  exact eq_comm
set_option maxRecDepth 100000 in
set_option maxHeartbeats 1000000 in
theorem rtoken_calls (s : ByteArray) (hs : s.size ≤ 900000) (w : World) : Calls Tryd.prog 18 #[.string s] w fun e w' => e = .returned (.bool (token s)) ∧ w = w' := by
  obtain ⟨r, hr⟩ : ∃ r, token s = r := ⟨_, rfl⟩
  rw [hr]
  have HR := Lib.hid hr
  clear hr
  have HLE := Lib.hid (fun b w => rletter_calls b w)
  have HDI := Lib.hid (fun b w => rdigit_calls b w)
  have hsi : ∀ (b : UInt8) (w : World), Calls Tryd.prog 32 #[.string ⟨#[33, 35, 36, 37, 38, 39, 42, 43, 45, 46, 94, 95, 96, 124, 126]⟩, .int .u8 (b.toNat : Int)] w (fun e w' => e = .returned (.bool (signs.contains b)) ∧ w = w') := fun b w => by
    have h := rin_calls bSigns (by decide) b w
    rw [any_signs] at h
    exact h
  have HSI := Lib.hid hsi
  clear hsi
  go_enter Tryd.func18, Tryd.ntmps18
  go_wp2
  go_loopw [3] (fun v3 wr => ∃ (i : Nat), v3 = .int .i64 (i : Int) ∧ i ≤ s.size ∧ ((bts s).take i).all tokB = true ∧ w = wr) (fun v _ => s.size - (intOf v).toNat)
  case atStart => exact ⟨0, rfl, Nat.zero_le _, by simp, rfl⟩
  case round =>
    obtain ⟨i, rfl, hi, hal, rfl⟩ := hrel
    by_cases hin : i < s.size
    · have hin' : ((i : Int) < (s.size : Int)) := by omega
      have hg := bts_get hin
      have HT := Lib.hid (take_succ_all tokB hg)
      have HF := Lib.hid (fun h => all_false tokB hg h)
      have HL := Lib.hid hal
      clear hg hal
      have htk : tokB s[i] = (letter s[i] || digit s[i] || signs.contains s[i]) := rfl
      have HTK := Lib.hid htk
      clear htk
      have HLE1 := Lib.hid (fun w => HLE.out s[i] w)
      have HDI1 := Lib.hid (fun w => HDI.out s[i] w)
      have HSI1 := Lib.hid (fun w => HSI.out s[i] w)
      clear HLE HDI HSI
      generalize letter s[i] = b1 at *
      generalize digit s[i] = b2 at *
      generalize signs.contains s[i] = b3 at *
      have hgo : b1 = true ∨ (b1 = false ∧ b2 = true) ∨ (b1 = false ∧ b2 = false ∧ b3 = true) ∨ (b1 = false ∧ b2 = false ∧ b3 = false) := by
        cases b1 <;> cases b2 <;> cases b3 <;> simp
      rcases hgo with rfl | ⟨rfl, rfl⟩ | ⟨rfl, rfl, rfl⟩ | ⟨rfl, rfl, rfl⟩
      · go_wp2_with (go_at_call 30; refine (HLE1.out _).mono ?_; rintro e w' ⟨rfl, rfl⟩)
        go_roundw
        case rel => exact ⟨i + 1, by go_num, by omega, by rw [HT.out, HL.out, HTK.out]; rfl, by first | rfl | trivial⟩
        case measure => simp [intOf]; omega
      · go_wp2_with (first
          | (go_at_call 30; refine (HLE1.out _).mono ?_; rintro e w' ⟨rfl, rfl⟩)
          | (go_at_call 31; refine (HDI1.out _).mono ?_; rintro e w' ⟨rfl, rfl⟩))
        go_roundw
        case rel => exact ⟨i + 1, by go_num, by omega, by rw [HT.out, HL.out, HTK.out]; rfl, by first | rfl | trivial⟩
        case measure => simp [intOf]; omega
      · go_wp2_with (first
          | (go_at_call 30; refine (HLE1.out _).mono ?_; rintro e w' ⟨rfl, rfl⟩)
          | (go_at_call 31; refine (HDI1.out _).mono ?_; rintro e w' ⟨rfl, rfl⟩)
          | (go_at_call 32; refine (HSI1.out _).mono ?_; rintro e w' ⟨rfl, rfl⟩))
        go_roundw
        case rel => exact ⟨i + 1, by go_num, by omega, by rw [HT.out, HL.out, HTK.out]; rfl, by first | rfl | trivial⟩
        case measure => simp [intOf]; omega
      · have hfa := HF.out HTK.out
        obtain rfl : false = r := by rw [← HR.out]; unfold token; rw [hfa, Bool.and_false]
        clear hfa
        go_wp2_with (first
          | (go_at_call 30; refine (HLE1.out _).mono ?_; rintro e w' ⟨rfl, rfl⟩)
          | (go_at_call 31; refine (HDI1.out _).mono ?_; rintro e w' ⟨rfl, rfl⟩)
          | (go_at_call 32; refine (HSI1.out _).mono ?_; rintro e w' ⟨rfl, rfl⟩))
        go_ret
        exact ⟨rfl, rfl⟩
    · have hin' : ¬ ((i : Int) < (s.size : Int)) := by omega
      obtain rfl : i = s.size := by omega
      have hal2 : (bts s).all tokB = true := by rw [← bts_len, List.take_length] at hal; exact hal
      have hr : decide (1 ≤ s.size ∧ s.size ≤ 64) = r := by rw [← HR.out]; unfold token; rw [hal2, Bool.and_true]
      clear hal hal2 HR HLE HDI HSI
      by_cases h1 : 1 ≤ s.size
      · have q1 : ((1 : Int) ≤ (s.size : Int)) = True := eq_true (by omega)
        by_cases h2 : s.size ≤ 64
        · have q2 : ((s.size : Int) ≤ 64) = True := eq_true (by omega)
          obtain rfl : true = r := by rw [← hr, decide_eq_true ⟨h1, h2⟩]
          clear hr
          go_wp2
          go_ret
          exact ⟨rfl, rfl⟩
        · have q2 : ((s.size : Int) ≤ 64) = False := eq_false (by omega)
          obtain rfl : false = r := by rw [← hr, decide_eq_false (fun h => h2 h.2)]
          clear hr
          go_wp2
          go_ret
          exact ⟨rfl, rfl⟩
      · have q1 : ((1 : Int) ≤ (s.size : Int)) = False := eq_false (by omega)
        obtain rfl : false = r := by rw [← hr, decide_eq_false (fun h => h1 h.1)]
        clear hr
        go_wp2
        go_ret
        exact ⟨rfl, rfl⟩
end Go.Proofs.YtdglbpjgadjnjaaDoor.Fie
