/- The document's octets: Trim, Value. Own work of this seat; no condition but on lengths. -/
import Derived.Test.YtdglbpjgadjnjaaDoorTrm
namespace Go.Proofs.YtdglbpjgadjnjaaDoor.Fie
open Go.RowKit Go.Proofs.YtdglbpjgadjnjaaDoor.Kit Go.Proofs.YtdglbpjgadjnjaaDoor.Oct Go.Proofs.YtdglbpjgadjnjaaDoor.Cut
set_option linter.unusedVariables false
set_option linter.unusedSimpArgs false

theorem nil_list : (⟨#[]⟩ : ByteArray).toList.isEmpty = true := by rw [ByteArray.toList_eq]; rfl
set_option maxRecDepth 100000 in
set_option maxHeartbeats 1000000 in
theorem rtrim_calls (s : ByteArray) (hs : s.size ≤ 900000) (w : World) : Calls Tryd.prog 17 #[.string s] w fun e w' => e = .returned (.string (trim s)) ∧ w = w' := by
  obtain ⟨r, hr⟩ : ∃ r, trim s = r := ⟨_, rfl⟩
  rw [hr]
  rw [trim_eq] at hr
  obtain ⟨d, hd⟩ : ∃ d, (bts s).dropWhile isBl = d := ⟨_, rfl⟩
  rw [hd] at hr
  have HBL := Lib.hid (fun b w => rblank_calls b w)
  have HR := Lib.hid hr
  have HD := Lib.hid hd
  clear hr hd
  go_enter Tryd.func17, Tryd.ntmps17
  go_wp2
  go_loopw [0] (fun v3 wr => ∃ (t : ByteArray), v3 = .string t ∧ t.size ≤ 900000 ∧ (bts t).dropWhile isBl = d ∧ w = wr) (fun v _ => match v with | .string t => t.size | _ => 0)
  case atStart => exact ⟨s, rfl, hs, HD.out, rfl⟩
  case round =>
    obtain ⟨t, rfl, hts, htd, rfl⟩ := hrel
    have HTD := Lib.hid htd
    clear htd HD
    by_cases h0 : 0 < t.size
    · have hne := ne_e h0
      have HC := Lib.hid (bts_cons h0)
      have h00 : (0 : Int) < (t.size : Int) := by omega
      have h11 : (1 : Int) ≤ (t.size : Int) := by omega
      have HB1 := Lib.hid (fun w => HBL.out t[0] w)
      cases hb : isBl t[0] with
      | true =>
        have HB := Lib.hid hb
        clear hb HBL
        rw [HB.out] at HB1
        obtain ⟨u, hu⟩ : ∃ u, t.extract 1 t.size = u := ⟨_, rfl⟩
        have hus : u.size = t.size - 1 := by rw [← hu, ByteArray.size_extract]; omega
        have HU := Lib.hid hu
        clear hu
        go_wp2_with (go_at_call 29; refine (HB1.out _).mono ?_; rintro e w' ⟨rfl, rfl⟩)
        go_roundw
        case rel => exact ⟨u, by rw [← HU.out], by omega, by have h := HTD.out; rw [HC.out, HU.out, List.dropWhile_cons, HB.out] at h; exact h, by first | rfl | trivial⟩
        case measure => simp <;> omega
      | false =>
        have htd : bts t = d := by
          have h := HTD.out
          rw [HC.out, List.dropWhile_cons, hb] at h
          rw [HC.out]
          exact h
        have HB := Lib.hid hb
        clear hb
        rw [HB.out] at HB1
        have HTD2 := Lib.hid htd
        clear htd HTD
        go_wp2_with (go_at_call 29; refine (HB1.out _).mono ?_; rintro e w' ⟨rfl, rfl⟩)
        clear HB1 HB HC
        go_loopw [0] (fun v3 wr => ∃ (t : ByteArray), v3 = .string t ∧ t.size ≤ 900000 ∧ ofL (rdw isBl (bts t)) = r ∧ w = wr) (fun v _ => match v with | .string t => t.size | _ => 0)
        case atStart => exact ⟨t, rfl, hts, by rw [HTD2.out]; exact HR.out, rfl⟩
        case round =>
          clear HTD2
          obtain ⟨t, rfl, hts, htd, rfl⟩ := hrel
          have HTD := Lib.hid htd
          clear htd
          by_cases h0 : 0 < t.size
          · have hne := ne_e h0
            have h1 : t.size - 1 < t.size := by omega
            have HC := Lib.hid (bts_snoc h1)
            have hc1 : ((t.size : Int) - 1) = ((t.size - 1 : Nat) : Int) := by omega
            have hc2 : (0 : Int) ≤ ((t.size - 1 : Nat) : Int) := by omega
            have hc3 : ((t.size - 1 : Nat) : Int) < (t.size : Int) := by omega
            have HB1 := Lib.hid (fun w => HBL.out t[t.size - 1] w)
            obtain ⟨u, hu⟩ : ∃ u, t.extract 0 (t.size - 1) = u := ⟨_, rfl⟩
            have hus : u.size = t.size - 1 := by rw [← hu, ByteArray.size_extract]; omega
            have HU := Lib.hid hu
            cases hb : isBl t[t.size - 1] with
            | true =>
              have HB := Lib.hid hb
              clear hb HBL hu
              rw [HB.out] at HB1
              go_wp2_with (go_at_call 29; refine (HB1.out _).mono ?_; rintro e w' ⟨rfl, rfl⟩)
              go_roundw
              case rel => exact ⟨u, by rw [← HU.out], by omega, by have h := HTD.out; rw [HC.out, HU.out, rdw_snoc_t HB.out] at h; exact h, by first | rfl | trivial⟩
              case measure => simp <;> omega
            | false =>
              have htr : t = r := by
                have h := HTD.out
                rw [HC.out, rdw_snoc_f hb, ← HC.out, ofL_bts] at h
                exact h
              subst htr
              have HB := Lib.hid hb
              clear hb HBL hu HTD HR
              rw [HB.out] at HB1
              go_wp2_with (go_at_call 29; refine (HB1.out _).mono ?_; rintro e w' ⟨rfl, rfl⟩)
              go_ret
              exact ⟨rfl, rfl⟩
          · obtain rfl := ba_eq (show t.size = 0 by omega)
            have hne := nil_list
            obtain rfl : (⟨#[]⟩ : ByteArray) = r := HTD.out
            clear HTD HBL HR
            go_wp2
            go_ret
            exact ⟨rfl, rfl⟩
    · obtain rfl := ba_eq (show t.size = 0 by omega)
      have hne := nil_list
      obtain rfl : [] = d := HTD.out
      obtain rfl : (⟨#[]⟩ : ByteArray) = r := HR.out
      clear HTD HBL HR
      go_wp2
      go_loopw [0] (fun v3 wr => v3 = .string ⟨#[]⟩ ∧ w = wr) (fun _ _ => 0)
      case atStart => exact ⟨rfl, rfl⟩
      case round =>
        obtain ⟨rfl, rfl⟩ := hrel
        go_wp2
        go_ret
        exact ⟨rfl, rfl⟩
theorem valB_int (b : UInt8) : valB b = (((b.toNat : Int) == 9) || decide (32 ≤ b.toNat ∧ b.toNat ≤ 126)) := by
  unfold valB
  have h2 : (b == 9) = ((b.toNat : Int) == 9) := u8_eq b 9 (by decide)
  rw [h2]
set_option maxRecDepth 100000 in
set_option maxHeartbeats 1000000 in
theorem rvalue_calls (s : ByteArray) (hs : s.size ≤ 900000) (w : World) : Calls Tryd.prog 19 #[.string s] w fun e w' => e = .returned (.bool (value s)) ∧ w = w' := by
  obtain ⟨r, hr⟩ : ∃ r, value s = r := ⟨_, rfl⟩
  rw [hr]
  have HR := Lib.hid hr
  clear hr
  have HBL := Lib.hid (fun b w => rblank_calls b w)
  go_enter Tryd.func19, Tryd.ntmps19
  go_wp2
  go_loopw [3] (fun v3 wr => ∃ (i : Nat), v3 = .int .i64 (i : Int) ∧ i ≤ s.size ∧ ((bts s).take i).all valB = true ∧ w = wr) (fun v _ => s.size - (intOf v).toNat)
  case atStart => exact ⟨0, rfl, Nat.zero_le _, by simp, rfl⟩
  case round =>
    obtain ⟨i, rfl, hi, hal, rfl⟩ := hrel
    by_cases hin : i < s.size
    · have hin' : ((i : Int) < (s.size : Int)) := by omega
      have hg := bts_get hin
      have HT := Lib.hid (take_succ_all valB hg)
      have HF := Lib.hid (fun h => all_false valB hg h)
      have HL := Lib.hid hal
      have HV := Lib.hid (valB_int s[i])
      clear hg hal HBL
      have hgo : s[i].toNat = 9 ∨ (s[i].toNat ≠ 9 ∧ s[i].toNat < 32) ∨ (s[i].toNat ≠ 9 ∧ 32 ≤ s[i].toNat ∧ s[i].toNat ≤ 126) ∨ (s[i].toNat ≠ 9 ∧ 126 < s[i].toNat) := by omega
      rcases hgo with h9 | ⟨h9, h1⟩ | ⟨h9, h1, h2⟩ | ⟨h9, h1⟩
      · have q9 : ((s[i].toNat : Int) != 9) = false := by rw [h9]; rfl
        have hv : valB s[i] = true := by rw [HV.out, h9]; rfl
        have HVV := Lib.hid hv
        clear hv h9
        go_wp2
        go_roundw
        case rel => exact ⟨i + 1, by go_num, by omega, by rw [HT.out, HL.out, HVV.out]; rfl, by first | rfl | trivial⟩
        case measure => simp [intOf]; omega
      · have q9 : ((s[i].toNat : Int) != 9) = true := by rw [bne_iff_ne]; omega
        have q1 : ((s[i].toNat : Int) < 32) = True := eq_true (by omega)
        have hv : valB s[i] = false := by rw [HV.out]; simp; omega
        obtain rfl : false = r := by rw [← HR.out]; unfold value; rw [HF.out hv, Bool.false_and]
        clear hv h9 h1
        go_wp2
        go_ret
        exact ⟨rfl, rfl⟩
      · have q9 : ((s[i].toNat : Int) != 9) = true := by rw [bne_iff_ne]; omega
        have q1 : ((s[i].toNat : Int) < 32) = False := eq_false (by omega)
        have q2 : ((126 : Int) < (s[i].toNat : Int)) = False := eq_false (by omega)
        have hv : valB s[i] = true := by rw [HV.out]; simp; omega
        have HVV := Lib.hid hv
        clear hv h9 h1 h2
        go_wp2
        go_roundw
        case rel => exact ⟨i + 1, by go_num, by omega, by rw [HT.out, HL.out, HVV.out]; rfl, by first | rfl | trivial⟩
        case measure => simp [intOf]; omega
      · have q9 : ((s[i].toNat : Int) != 9) = true := by rw [bne_iff_ne]; omega
        have q1 : ((s[i].toNat : Int) < 32) = False := eq_false (by omega)
        have q2 : ((126 : Int) < (s[i].toNat : Int)) = True := eq_true (by omega)
        have hv : valB s[i] = false := by rw [HV.out]; simp; omega
        obtain rfl : false = r := by rw [← HR.out]; unfold value; rw [HF.out hv, Bool.false_and]
        clear hv h9 h1
        go_wp2
        go_ret
        exact ⟨rfl, rfl⟩
    · have hin' : ¬ ((i : Int) < (s.size : Int)) := by omega
      obtain rfl : i = s.size := by omega
      have hal2 : (bts s).all valB = true := by rw [← bts_len, List.take_length] at hal; exact hal
      clear hal
      by_cases h0 : 0 < s.size
      · have hne := ne_e h0
        have h1 : s.size - 1 < s.size := by omega
        have hr : (!isBl s[0] && !isBl s[s.size - 1]) = r := by rw [← HR.out]; unfold value; rw [hal2, Bool.true_and, value_ends h0 h1]
        have h00 : (0 : Int) < (s.size : Int) := by omega
        have hc1 : ((s.size : Int) - 1) = ((s.size - 1 : Nat) : Int) := by omega
        have hc2 : (0 : Int) ≤ ((s.size - 1 : Nat) : Int) := by omega
        have hc3 : ((s.size - 1 : Nat) : Int) < (s.size : Int) := by omega
        have HB0 := Lib.hid (fun w => HBL.out s[0] w)
        have HB1 := Lib.hid (fun w => HBL.out s[s.size - 1] w)
        clear hal2 HR HBL hin'
        cases hb : isBl s[0] with
        | true =>
          obtain rfl : false = r := by rw [← hr, hb]; rfl
          rw [hb] at HB0
          clear hr hb HB1
          go_wp2_with (go_at_call 29; refine (HB0.out _).mono ?_; rintro e w' ⟨rfl, rfl⟩)
          go_ret
          exact ⟨rfl, rfl⟩
        | false =>
          have hr1 : (!isBl s[s.size - 1]) = r := by rw [← hr, hb]; rfl
          rw [hb] at HB0
          clear hr hb
          cases hb1 : isBl s[s.size - 1] with
          | true =>
            rw [hb1] at HB1 hr1
            obtain rfl : false = r := hr1
            clear hb1
            go_wp2_with (first
              | (go_at_call 29; with_reducible refine (HB0.out _).mono ?_; clear HB0; rintro e w' ⟨rfl, rfl⟩)
              | (go_at_call 29; refine (HB1.out _).mono ?_; rintro e w' ⟨rfl, rfl⟩))
            go_ret
            exact ⟨rfl, rfl⟩
          | false =>
            rw [hb1] at HB1 hr1
            obtain rfl : true = r := hr1
            clear hb1
            go_wp2_with (first
              | (go_at_call 29; with_reducible refine (HB0.out _).mono ?_; clear HB0; rintro e w' ⟨rfl, rfl⟩)
              | (go_at_call 29; refine (HB1.out _).mono ?_; rintro e w' ⟨rfl, rfl⟩))
            go_ret
            exact ⟨rfl, rfl⟩
      · obtain rfl := ba_eq (show s.size = 0 by omega)
        have hne := nil_list
        obtain rfl : true = r := by rw [← HR.out, value_nil]
        clear hal2 HR HBL
        go_wp2
        go_ret
        exact ⟨rfl, rfl⟩
end Go.Proofs.YtdglbpjgadjnjaaDoor.Fie
