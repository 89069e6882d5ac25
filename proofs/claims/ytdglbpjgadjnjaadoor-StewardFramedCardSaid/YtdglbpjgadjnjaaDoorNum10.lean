/- strconv at base 10 over digits; octet: Dec; the document's Number at base 10. Own work of this seat; no condition. -/
import Derived.Test.YtdglbpjgadjnjaaDoorRf5c
namespace Go.Proofs.YtdglbpjgadjnjaaDoor.Fie
open Go.RowKit Go.Proofs.YtdglbpjgadjnjaaDoor.Kit Go.Proofs.YtdglbpjgadjnjaaDoor.Oct Go.Proofs.YtdglbpjgadjnjaaDoor.Cut
set_option linter.unusedVariables false
set_option linter.unusedSimpArgs false

def decN (l : List UInt8) : Nat := l.foldl (fun n b => n * 10 + (b.toNat - 48)) 0
theorem cls8_all : (List.range 256).all (fun n => clsB 8 (UInt8.ofNat n) == digit (UInt8.ofNat n)) = true := by kernel_rfl
theorem cls8 : clsB 8 = digit := by
  funext b
  have h := List.all_eq_true.1 cls8_all b.toNat (List.mem_range.2 (UInt8.toNat_lt b))
  rw [UInt8.ofNat_toNat] at h
  simpa using h
theorem digit_cases {b : UInt8} (h : digit b = true) : 48 ≤ b.toNat ∧ b.toNat ≤ 57 := by
  unfold digit at h
  simpa using h
theorem decN_take {l : List UInt8} {i : Nat} {x : UInt8} (h : l[i]? = some x) : decN (l.take (i + 1)) = decN (l.take i) * 10 + (x.toNat - 48) := by
  unfold decN
  rw [List.take_add_one, h, List.foldl_append]
  rfl
theorem decN_lt {l : List UInt8} (hl : l.all digit = true) : ∀ i, i ≤ l.length → decN (l.take i) < 10 ^ i := by
  intro i
  induction i with
  | zero => intro _; simp [decN]
  | succ i ih =>
    intro hi
    have hget : l[i]? = some l[i] := List.getElem?_eq_getElem (by omega)
    have hx := digit_cases (List.all_eq_true.1 hl l[i] (List.getElem_mem (by omega)))
    have := ih (by omega)
    rw [decN_take hget, Nat.pow_succ]
    omega
theorem pow10_le (i k : Nat) (h : i ≤ k) : 10 ^ i ≤ 10 ^ k := Nat.pow_le_pow_right (by omega) h
theorem decN_le9 {l : List UInt8} (hl : l.all digit = true) {i : Nat} (hi : i ≤ l.length) (h9 : i ≤ 9) : decN (l.take i) ≤ 1000000000 := by
  have h1 := decN_lt hl i hi
  have h2 := pow10_le i 9 h9
  have h3 : 10 ^ 9 = 1000000000 := by decide
  omega
theorem decN_le10 {l : List UInt8} (hl : l.all digit = true) (h : l.length ≤ 10) : decN l ≤ 9999999999 := by
  have h1 := decN_lt hl l.length (Nat.le_refl _)
  have h2 := pow10_le l.length 10 h
  have h3 : 10 ^ 10 = 10000000000 := by decide
  rw [List.take_length] at h1
  omega
def decR (s : ByteArray) (most : Int) : Int × Int := if 1 ≤ s.size ∧ s.size ≤ 10 ∧ (bts s).all digit = true then (if most < (decN (bts s) : Int) then (0, 3) else ((decN (bts s) : Int), 0)) else (0, 2)
set_option maxRecDepth 100000 in
set_option maxHeartbeats 4000000 in
theorem puint10_calls (s : ByteArray) (h1 : 1 ≤ s.size) (h10 : s.size ≤ 10) (hd : (bts s).all digit = true) (w : World) : Calls Tryd.prog 65 #[.string s, .int .i64 10, .int .i64 64] w fun e w' => e = .returned (.tuple #[.int .u64 (decN (bts s) : Int), .nilIface]) ∧ Step (fun _ => False) w w' := by
  obtain ⟨g, c, w1, hcv, hB, hs1, hg, hc⟩ := bytes_of w s
  have hne := ne_e h1
  obtain ⟨r, hr⟩ : ∃ r, decN (bts s) = r := ⟨_, rfl⟩
  rw [hr]
  have HR := Lib.hid hr
  have HB := Lib.hid hB
  have HS := Lib.hid hs1
  have HD := Lib.hid hd
  clear hr hB hs1 hd
  go_enter Tryd.func65, Tryd.ntmps65
  go_wp2
  clear hcv
  go_loopw [12, 13, 101] (fun v12 v13 v101 wr => ∃ (i : Nat), v101 = .int .i64 (i : Int) ∧ v12 = .bool false ∧ v13 = .int .u64 (decN ((bts s).take i) : Int) ∧ i ≤ s.size ∧ w1 = wr) (fun _ _ v _ => s.size - (intOf v).toNat)
  case atStart => exact ⟨0, rfl, rfl, rfl, Nat.zero_le _, rfl⟩
  case round =>
    obtain ⟨i, rfl, rfl, rfl, hi, rfl⟩ := hrel
    by_cases hin : i < s.size
    · have hin' : ((i : Int) < (s.size : Int)) := by omega
      have hgt := bts_get hin
      have a0 := HB.out.cell hgt
      have HT := Lib.hid (decN_take hgt)
      have hx := digit_cases (List.all_eq_true.1 HD.out s[i] (List.mem_of_getElem? hgt))
      have hn := decN_le9 HD.out (i := i) (by rw [bts_len]; omega) (by omega)
      generalize s[i] = x at *
      obtain ⟨n, hne2⟩ : ∃ n, decN ((bts s).take i) = n := ⟨_, rfl⟩
      rw [hne2] at hn HT ⊢
      obtain ⟨d, hd⟩ : ∃ d, x.toNat = d + 48 := ⟨x.toNat - 48, by omega⟩
      rw [hd] at a0 hx HT
      clear hgt hne2 hd HB HD
      have hd9 : d ≤ 9 := by omega
      have b1 : (((d : Int) + 48) == 95) = false := by rw [beq_eq_false_iff_ne]; omega
      have b2 : ((48 : Int) ≤ (d : Int) + 48) = True := eq_true (by omega)
      have b3 : ((d : Int) + 48 ≤ 57) = True := eq_true (by omega)
      have b5 : ((10 : Int) ≤ (d : Int)) = False := eq_false (by omega)
      have b6 : ((1844674407370955162 : Int) ≤ (n : Int)) = False := eq_false (by omega)
      have b7 : IntKind.u64.wrap (IntKind.u64.wrap 18446744073709551616 - 1) = 18446744073709551615 := by kernel_rfl
      have b8 : ((n : Int) * 10 + (d : Int) < (n : Int) * 10) = False := eq_false (by omega)
      have b9 : ((18446744073709551615 : Int) < (n : Int) * 10 + (d : Int)) = False := eq_false (by omega)
      go_wp2
      exact ⟨⟨i + 1, by go_num, rfl, by rw [HT.out]; congr 1, by omega, by first | rfl | trivial⟩, by simp [intOf]; omega⟩
    · have hin' : ¬ ((i : Int) < (s.size : Int)) := by omega
      obtain rfl : i = s.size := by omega
      have hfin : decN ((bts s).take s.size) = r := by rw [← bts_len, List.take_length]; exact HR.out
      rw [hfin]
      clear hfin HB HD HR
      go_wp2
      go_ret2
      exact ⟨rfl, HS.out⟩
set_option maxRecDepth 100000 in
set_option maxHeartbeats 2000000 in
theorem pint10_calls (s : ByteArray) (h1 : 1 ≤ s.size) (h10 : s.size ≤ 10) (hd : (bts s).all digit = true) (w : World) : Calls Tryd.prog 62 #[.string s, .int .i64 10, .int .i64 64] w fun e w' => e = .returned (.tuple #[.int .i64 (decN (bts s) : Int), .nilIface]) ∧ Step (fun _ => False) w w' := by
  have HP := Lib.hid (fun w => puint10_calls s h1 h10 hd w)
  have hne := ne_e h1
  have hn := decN_le10 hd (by rw [bts_len]; exact h10)
  have hx := digit_cases (List.all_eq_true.1 hd s[0] (List.mem_of_getElem? (bts_get (show 0 < s.size by omega))))
  have h00 : (0 : Int) < (s.size : Int) := by omega
  have q1 : ((s[0].toNat : Int) == 43) = false := by rw [beq_eq_false_iff_ne]; omega
  have q2 : ((s[0].toNat : Int) == 45) = false := by rw [beq_eq_false_iff_ne]; omega
  generalize decN (bts s) = n at *
  have b1 : IntKind.u64.wrap 9223372036854775808 = 9223372036854775808 := by kernel_rfl
  have b2 : ((9223372036854775808 : Int) ≤ (n : Int)) = False := eq_false (by omega)
  clear hd hx
  go_enter Tryd.func62, Tryd.ntmps62
  go_wp2_with (go_at_call 65; refine (HP.out _).mono ?_; rintro e w1 ⟨rfl, hs1⟩)
  go_ret2
  exact ⟨rfl, hs1⟩
set_option maxRecDepth 100000 in
theorem ppint10_calls (s : ByteArray) (h1 : 1 ≤ s.size) (h10 : s.size ≤ 10) (hd : (bts s).all digit = true) (w : World) : Calls Tryd.prog 56 #[.string s, .int .i64 10, .int .i64 64] w fun e w' => e = .returned (.tuple #[.int .i64 (decN (bts s) : Int), .nilIface]) ∧ Step (fun _ => False) w w' := by
  have HP := Lib.hid (fun w => pint10_calls s h1 h10 hd w)
  generalize decN (bts s) = n at *
  clear hd
  go_enter Tryd.func56, Tryd.ntmps56
  go_wp2_with (go_at_call 62; refine (HP.out _).mono ?_; rintro e w1 ⟨rfl, hs1⟩)
  go_ret2
  exact ⟨rfl, hs1⟩
set_option maxRecDepth 100000 in
set_option maxHeartbeats 2000000 in
theorem number10_calls (s : ByteArray) (hs : s.size ≤ 900000) (most : Int) (hm : -9223372036854775808 ≤ most ∧ most ≤ 9223372036854775807) (w : World) : Calls Tryd.prog 46 #[.string s, .int .u8 8, .int .i64 10, .int .i64 10, .int .i64 most] w fun e w' => e = .returned (.tuple #[.int .i64 (decR s most).1, .int .i64 (decR s most).2]) ∧ Step (fun _ => False) w w' := by
  obtain ⟨r, hr⟩ : ∃ r, decR s most = r := ⟨_, rfl⟩
  rw [hr]
  unfold decR at hr
  have HALL := Lib.hid (fun w => all_calls s 8 (by omega) w)
  rw [cls8] at HALL
  by_cases h1 : 1 ≤ s.size
  · have hne := ne_e (show 0 < s.size by omega)
    by_cases h10 : s.size ≤ 10
    · have q2 : ((10 : Int) < (s.size : Int)) = False := eq_false (by omega)
      cases hd : (bts s).all digit with
      | true =>
        rw [hd] at HALL
        have HP := Lib.hid (fun w => ppint10_calls s h1 h10 hd w)
        rw [if_pos ⟨h1, h10, hd⟩] at hr
        have hn := decN_le10 hd (by rw [bts_len]; exact h10)
        generalize decN (bts s) = n at *
        clear hd
        by_cases hmn : most < (n : Int)
        · rw [if_pos hmn] at hr
          obtain rfl := hr
          go_enter Tryd.func46, Tryd.ntmps46
          go_wp2_with (first
            | (go_at_call 28; refine (HALL.out _).mono ?_; rintro e w' ⟨rfl, rfl⟩)
            | (go_at_call 56; refine (HP.out _).mono ?_; rintro e w1 ⟨rfl, hs1⟩))
          go_ret2
          exact ⟨rfl, hs1⟩
        · rw [if_neg hmn] at hr
          obtain rfl := hr
          go_enter Tryd.func46, Tryd.ntmps46
          go_wp2_with (first
            | (go_at_call 28; refine (HALL.out _).mono ?_; rintro e w' ⟨rfl, rfl⟩)
            | (go_at_call 56; refine (HP.out _).mono ?_; rintro e w1 ⟨rfl, hs1⟩))
          go_ret2
          exact ⟨rfl, hs1⟩
      | false =>
        rw [hd] at HALL
        rw [if_neg (fun h => by rw [hd] at h; exact absurd h.2.2 (by simp))] at hr
        obtain rfl := hr
        clear hd
        go_enter Tryd.func46, Tryd.ntmps46
        go_wp2_with (go_at_call 28; refine (HALL.out _).mono ?_; rintro e w' ⟨rfl, rfl⟩)
        go_ret2
        exact ⟨rfl, Step.refl _ _⟩
    · have q2 : ((10 : Int) < (s.size : Int)) = True := eq_true (by omega)
      rw [if_neg (fun h => h10 h.2.1)] at hr
      obtain rfl := hr
      clear HALL
      go_enter Tryd.func46, Tryd.ntmps46
      go_wp2
      go_ret2
      exact ⟨rfl, Step.refl _ _⟩
  · obtain rfl := ba_eq (show s.size = 0 by omega)
    have hne := nil_list
    rw [if_neg (fun h => h1 h.1)] at hr
    obtain rfl := hr
    clear HALL
    go_enter Tryd.func46, Tryd.ntmps46
    go_wp2
    go_ret2
    exact ⟨rfl, Step.refl _ _⟩
theorem decN_le9' {l : List UInt8} {i : Nat} (hl : (l.take i).all digit = true) (h9 : i ≤ 9) : decN (l.take i) ≤ 1000000000 := by
  have h1 := decN_lt hl (l.take i).length (Nat.le_refl _)
  rw [List.take_length] at h1
  have h2 := pow10_le (l.take i).length 9 (by rw [List.length_take]; omega)
  have h3 : 10 ^ 9 = 1000000000 := by decide
  omega
set_option maxRecDepth 100000 in
set_option maxHeartbeats 4000000 in
theorem rnum10_calls (s : ByteArray) (hs : s.size ≤ 900000) (most : Int) (hm : -9223372036854775808 ≤ most ∧ most ≤ 9223372036854775807) (w : World) : Calls Tryd.prog 22 #[.string s, .int .i64 10, .int .i64 most] w fun e w' => e = .returned (.tuple #[.int .i64 (decR s most).1, .int .i64 (decR s most).2]) ∧ w = w' := by
  obtain ⟨r, hr⟩ : ∃ r, decR s most = r := ⟨_, rfl⟩
  rw [hr]
  unfold decR at hr
  have HDI := Lib.hid (fun b w => rdigit_calls b w)
  by_cases h1 : 1 ≤ s.size
  · by_cases h10 : s.size ≤ 10
    · have q1 : ((s.size : Int) < 1) = False := eq_false (by omega)
      have q2 : ((10 : Int) < (s.size : Int)) = False := eq_false (by omega)
      have HR := Lib.hid hr
      clear hr
      go_enter Tryd.func22, Tryd.ntmps22
      go_wp2
      go_loopw [9, 10] (fun v9 v10 wr => ∃ (i : Nat), v10 = .int .i64 (i : Int) ∧ v9 = .int .i64 (decN ((bts s).take i) : Int) ∧ i ≤ s.size ∧ ((bts s).take i).all digit = true ∧ w = wr) (fun _ v _ => s.size - (intOf v).toNat)
      case atStart => exact ⟨0, rfl, rfl, Nat.zero_le _, by simp, rfl⟩
      case round =>
        obtain ⟨i, rfl, rfl, hi, hal, rfl⟩ := hrel
        by_cases hin : i < s.size
        · have hin' : ((i : Int) < (s.size : Int)) := by omega
          have hgt := bts_get hin
          have HT := Lib.hid (decN_take hgt)
          have HA := Lib.hid (take_succ_all digit hgt)
          have HF := Lib.hid (fun h => all_false digit hgt h)
          have hn := decN_le9' hal (by omega)
          have HAL := Lib.hid hal
          have HD1 := Lib.hid (fun w => HDI.out s[i] w)
          obtain ⟨n, hne2⟩ : ∃ n, decN ((bts s).take i) = n := ⟨_, rfl⟩
          rw [hne2] at hn HT ⊢
          clear hgt hal hne2 HDI
          cases hd : digit s[i] with
          | true =>
            rw [hd] at HD1
            have hx := digit_cases hd
            have HD := Lib.hid hd
            have k1 : (0 : Int) ≤ (s[i].toNat : Int) - 48 := by omega
            have k2 : ((s[i].toNat : Int) - 48 < 0) = False := eq_false (by omega)
            have k3 : (s[i].toNat : Int) ≤ 57 := by omega
            clear hd
            go_wp2_with (go_at_call 31; refine (HD1.out _).mono ?_; rintro e w' ⟨rfl, rfl⟩)
            go_roundw
            case rel => exact ⟨i + 1, by go_num, by rw [HT.out]; congr 1; omega, by omega, by rw [HA.out, HAL.out, HD.out]; rfl, by first | rfl | trivial⟩
            case measure => simp [intOf]; omega
          | false =>
            rw [hd] at HD1
            have hfa := HF.out hd
            obtain rfl : (0, 2) = r := by rw [← HR.out, if_neg (fun h => by rw [hfa] at h; exact absurd h.2.2 (by simp))]
            clear hd hfa HR
            go_wp2_with (go_at_call 31; refine (HD1.out _).mono ?_; rintro e w' ⟨rfl, rfl⟩)
            go_ret2
            exact ⟨rfl, rfl⟩
        · have hin' : ¬ ((i : Int) < (s.size : Int)) := by omega
          obtain rfl : i = s.size := by omega
          have e : (bts s).take s.size = bts s := by rw [← bts_len, List.take_length]
          rw [e] at hal ⊢
          have hr := HR.out
          rw [if_pos ⟨h1, h10, hal⟩] at hr
          clear HR hal HDI e
          generalize decN (bts s) = n at *
          by_cases hmn : most < (n : Int)
          · rw [if_pos hmn] at hr
            obtain rfl := hr
            go_wp2
            go_ret2
            exact ⟨rfl, rfl⟩
          · rw [if_neg hmn] at hr
            obtain rfl := hr
            go_wp2
            go_ret2
            exact ⟨rfl, rfl⟩
    · have q1 : ((s.size : Int) < 1) = False := eq_false (by omega)
      have q2 : ((10 : Int) < (s.size : Int)) = True := eq_true (by omega)
      rw [if_neg (fun h => h10 h.2.1)] at hr
      obtain rfl := hr
      clear HDI
      go_enter Tryd.func22, Tryd.ntmps22
      go_wp2
      go_ret2
      exact ⟨rfl, rfl⟩
  · have q1 : ((s.size : Int) < 1) = True := eq_true (by omega)
    rw [if_neg (fun h => h1 h.1)] at hr
    obtain rfl := hr
    clear HDI
    go_enter Tryd.func22, Tryd.ntmps22
    go_wp2
    go_ret2
    exact ⟨rfl, rfl⟩
end Go.Proofs.YtdglbpjgadjnjaaDoor.Fie
