/- octets: all bytes of a class; tokens. Own work of this seat; no condition. -/
import Derived.Test.YtdglbpjgadjnjaaDoorOct1
namespace Go.Proofs.YtdglbpjgadjnjaaDoor.Oct
open Go.RowKit Go.Proofs.YtdglbpjgadjnjaaDoor.Kit
set_option linter.unusedVariables false
set_option linter.unusedSimpArgs false

theorem bts_get {s : ByteArray} {i : Nat} (hi : i < s.size) : (bts s)[i]? = some s[i] := by
  have h : i < (bts s).length := by rw [bts_len]; exact hi
  rw [List.getElem?_eq_getElem h]
  rfl
theorem take_succ_all {α : Type} (p : α → Bool) {l : List α} {i : Nat} {x : α} (h : l[i]? = some x) : (l.take (i + 1)).all p = ((l.take i).all p && p x) := by
  rw [List.take_add_one, h]
  simp [List.all_append]
theorem all_false {α : Type} (p : α → Bool) {l : List α} {i : Nat} {x : α} (h : l[i]? = some x) (hp : p x = false) : l.all p = false := by
  rw [List.all_eq_false]
  exact ⟨x, List.mem_of_getElem? h, by rw [hp]; simp⟩
def clsB (c : Int) (b : UInt8) : Bool := !(Go.bits .and .u8 (ofN (b.toNat : Int)) c == 0)
set_option maxRecDepth 100000 in
theorem all_calls (s : ByteArray) (c : Int) (hs : s.size ≤ 9223372036854775806) (w : World) : Calls Tryd.prog 28 #[.string s, .int .u8 c] w fun e w' => e = .returned (.bool ((bts s).all (clsB c))) ∧ w = w' := by
  have HO := Lib.hid (fun n hn w => of_calls n hn w)
  obtain ⟨r, hr⟩ : ∃ r, (bts s).all (clsB c) = r := ⟨_, rfl⟩
  rw [hr]
  have HR := Lib.hid hr
  clear hr
  go_enter Tryd.func28, Tryd.ntmps28
  go_wp2
  go_loopw [8] (fun v8 wr => ∃ (i : Nat), v8 = .int .i64 (i : Int) ∧ i ≤ s.size ∧ ((bts s).take i).all (clsB c) = true ∧ w = wr) (fun v _ => s.size - (intOf v).toNat)
  case atStart => exact ⟨0, rfl, Nat.zero_le _, by simp, rfl⟩
  case round =>
    obtain ⟨i, rfl, hi, hal, rfl⟩ := hrel
    by_cases hin : i < s.size
    · have hin' : ((i : Int) < (s.size : Int)) := by omega
      have hg := bts_get hin
      have HT := Lib.hid (take_succ_all (clsB c) hg)
      have HF := Lib.hid (fun h => all_false (clsB c) hg h)
      cases hc : clsB c s[i] with
      | true =>
        have hand : (Go.bits .and .u8 (ofN (s[i].toNat : Int)) c == 0) = false := by unfold clsB at hc; simpa using hc
        clear hg
        go_wp2_with (go_at_call 45; refine (HO.out _ (UInt8.toNat_lt _) _).mono ?_; rintro e w' ⟨rfl, rfl⟩)
        go_roundw
        case rel => exact ⟨i + 1, by go_num, by omega, by rw [HT.out, hal, hc]; rfl, by first | rfl | trivial⟩
        case measure => simp [intOf]; omega
      | false =>
        have hand : (Go.bits .and .u8 (ofN (s[i].toNat : Int)) c == 0) = true := by unfold clsB at hc; simpa using hc
        obtain rfl := (HF.out hc).symm.trans HR.out
        clear hg hal
        go_wp2_with (go_at_call 45; refine (HO.out _ (UInt8.toNat_lt _) _).mono ?_; rintro e w' ⟨rfl, rfl⟩)
        go_ret
        exact ⟨rfl, rfl⟩
    · have hin' : ¬ ((i : Int) < (s.size : Int)) := by omega
      obtain rfl : i = s.size := by omega
      have hal2 : (bts s).all (clsB c) = true := by rw [← bts_len, List.take_length] at hal; exact hal
      obtain rfl := hal2.symm.trans HR.out
      clear hal hal2
      go_wp2
      go_ret
      exact ⟨rfl, rfl⟩
theorem cls1_all : (List.range 256).all (fun n => clsB 1 (UInt8.ofNat n) == tokB (UInt8.ofNat n)) = true := by kernel_rfl
theorem cls4_all : (List.range 256).all (fun n => clsB 4 (UInt8.ofNat n) == valB (UInt8.ofNat n)) = true := by kernel_rfl
theorem cls1 : clsB 1 = tokB := by
  funext b
  have h := List.all_eq_true.1 cls1_all b.toNat (List.mem_range.2 (UInt8.toNat_lt b))
  rw [UInt8.ofNat_toNat] at h
  simpa using h
theorem cls4 : clsB 4 = valB := by
  funext b
  have h := List.all_eq_true.1 cls4_all b.toNat (List.mem_range.2 (UInt8.toNat_lt b))
  rw [UInt8.ofNat_toNat] at h
  simpa using h
theorem ba_ne {s : ByteArray} (h : 0 < s.size) : s ≠ ⟨#[]⟩ := fun e => by rw [e] at h; exact absurd h (by decide)
theorem ba_eq {s : ByteArray} (h : s.size = 0) : s = ⟨#[]⟩ := by
  cases s with | mk a =>
  cases a with | mk l =>
  cases l with
  | nil => rfl
  | cons x r => exact absurd h (by simp [ByteArray.size])
theorem ne_e {s : ByteArray} (h : 0 < s.size) : s.toList.isEmpty = false := by
  rw [ByteArray.toList_eq]
  cases e : s.data.toList with
  | nil => exact absurd h (by rw [← bts_len]; unfold bts; rw [e]; simp)
  | cons x r => rfl
set_option maxRecDepth 100000 in
theorem token_calls (s : ByteArray) (hs : s.size ≤ 9223372036854775806) (w : World) : Calls Tryd.prog 15 #[.string s] w fun e w' => e = .returned (.bool (token s)) ∧ w = w' := by
  have HA := Lib.hid (fun w => all_calls s 1 hs w)
  rw [cls1] at HA
  by_cases h0 : 0 < s.size
  · have hne := ne_e h0
    by_cases h64 : s.size ≤ 64
    · have hl : ((s.size : Int) ≤ 64) = True := eq_true (by omega)
      have ht : token s = (bts s).all tokB := by unfold token; rw [decide_eq_true (by omega)]; rfl
      rw [ht]
      generalize (bts s).all tokB = r at *
      clear ht
      go_enter Tryd.func15, Tryd.ntmps15
      go_wp2_with (go_at_call 28; refine (HA.out _).mono ?_; rintro e w' ⟨rfl, rfl⟩)
      go_ret
      exact ⟨rfl, rfl⟩
    · have hl : ((s.size : Int) ≤ 64) = False := eq_false (by omega)
      have ht : token s = false := by unfold token; rw [decide_eq_false (by omega)]; rfl
      rw [ht]
      clear ht HA
      go_enter Tryd.func15, Tryd.ntmps15
      go_wp2
      go_ret
      exact ⟨rfl, rfl⟩
  · obtain rfl := ba_eq (show s.size = 0 by omega)
    have ht : token ⟨#[]⟩ = false := by decide
    rw [ht]
    clear ht HA
    go_enter Tryd.func15, Tryd.ntmps15
    go_wp2
    go_ret
    exact ⟨rfl, rfl⟩
end Go.Proofs.YtdglbpjgadjnjaaDoor.Oct
