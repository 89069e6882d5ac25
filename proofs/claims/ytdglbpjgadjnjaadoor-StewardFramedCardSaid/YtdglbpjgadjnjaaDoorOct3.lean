/- octets: in small letters, without blanks; values. Own work of this seat; no condition but on lengths. -/
import Derived.Test.YtdglbpjgadjnjaaDoorOct2
import Derived.Test.YtdglbpjgadjnjaaDoorFlat
import Derived.Test.YtdglbpjgadjnjaaDoorTrimL
import Derived.Laws.IdiomStrings
namespace Go.Proofs.YtdglbpjgadjnjaaDoor.Oct
open Go.RowKit Go.Proofs.YtdglbpjgadjnjaaDoor.Kit
set_option linter.unusedVariables false
set_option linter.unusedSimpArgs false

theorem trim_calls (s : ByteArray) (hs : s.size ≤ 9223372036854775806) (w : World) : Calls Tryd.prog 14 #[.string s] w fun e w' => e = .returned (.string (trim s)) ∧ Step (fun _ => False) w w' := by
  have h0 := fun w => Any.strings_Trim_laid Tryd.trimL (by kernel_rfl) s ⟨#[32, 9]⟩ w (by omega) (by decide) (ascii_of_all (by decide))
  have HT := Lib.hid (fun w => (h0 w).mono (fun e w' (h : _ ∧ _) => (⟨h.1, Step.of_below h.2⟩ : e = .returned (.string (trim s)) ∧ Step (fun _ => False) w w')))
  clear h0
  generalize trim s = r at *
  go_enter Tryd.func14, Tryd.ntmps14
  go_wp2_with (go_at_call 27; refine (HT.out _).mono ?_; rintro e w1 ⟨rfl, hs1⟩)
  go_ret
  exact ⟨rfl, hs1⟩
set_option maxRecDepth 100000 in
theorem value_calls (s : ByteArray) (hs : s.size ≤ 9223372036854775806) (w : World) : Calls Tryd.prog 16 #[.string s] w fun e w' => e = .returned (.bool (value s)) ∧ Step (fun _ => False) w w' := by
  have HA := Lib.hid (fun w => all_calls s 4 hs w)
  have HT := Lib.hid (fun w => trim_calls s hs w)
  rw [cls4] at HA
  unfold value
  generalize (bts s).all valB = r at *
  generalize trim s = t at *
  cases r with
  | true =>
    go_enter Tryd.func16, Tryd.ntmps16
    go_wp2_with (first | (go_at_call 28; refine (HA.out _).mono ?_; rintro e w' ⟨rfl, rfl⟩) | (go_at_call 14; refine (HT.out _).mono ?_; rintro e w1 ⟨rfl, hs1⟩))
    go_ret
    exact ⟨rfl, hs1⟩
  | false =>
    go_enter Tryd.func16, Tryd.ntmps16
    go_wp2_with (first | (go_at_call 28; refine (HA.out _).mono ?_; rintro e w' ⟨rfl, rfl⟩))
    go_ret
    exact ⟨rfl, Step.refl _ _⟩

/-- Bytes in memory. -/
def BsW (w : World) (T : TypeId) (g : Nat) (bs : List UInt8) : Prop := ∃ (cur : Array Value) (fr : Nat × Nat), w.heap[g]? = some (.cells cur T fr) ∧ bs.length ≤ fr.1 ∧ ∀ (j : Nat) (b : UInt8), bs[j]? = some b → cur[j]? = some (.int .u8 (b.toNat : Int))
section
variable {w w' : World} {T : TypeId} {g : Nat} {bs : List UInt8} {F : Nat → Prop}
theorem BsW.lt (h : BsW w T g bs) : g < w.heap.size := by obtain ⟨cur, fr, h1, _⟩ := h; exact lt_of_block h1
theorem BsW.keep (h : BsW w T g bs) (hs : Step F w w') (hg : ¬ F g) : BsW w' T g bs := by
  have hl := h.lt
  obtain ⟨cur, fr, h1, h2⟩ := h
  exact ⟨cur, fr, (hs.block g hl hg).trans h1, h2⟩
theorem BsW.cell (h : BsW w T g bs) {j : Nat} {b : UInt8} (hj : bs[j]? = some b) : w.cell? ⟨g, j, none⟩ = some (.int .u8 (b.toNat : Int)) := by
  obtain ⟨cur, fr, h1, h2, h3⟩ := h
  simp [World.cell?, h1, h3 j b hj]
theorem BsW.free (h : BsW w T g bs) {j : Nat} (hj : j < bs.length) : w.frozen? ⟨g, j, none⟩ = false := by
  obtain ⟨cur, ⟨lo, hi⟩, h1, h2, h3⟩ := h
  simp only at h2
  simp [World.frozen?, h1]
  omega
theorem BsW.set (h : BsW w T g bs) (j : Nat) (b : UInt8) : BsW (w.setCell ⟨g, j, none⟩ (.int .u8 (b.toNat : Int))) T g (bs.set j b) := by
  obtain ⟨cur, fr, h1, h2, h3⟩ := h
  refine ⟨cur.setIfInBounds j (.int .u8 (b.toNat : Int)), fr, by simp [World.setCell, Array.getElem?_modify, h1], by rw [List.length_set]; exact h2, fun i x hi => ?_⟩
  rw [Array.getElem?_setIfInBounds]
  rw [List.getElem?_set] at hi
  by_cases e : j = i
  · subst e
    rw [if_pos rfl] at hi ⊢
    have hil : j < bs.length := by
      rcases Nat.lt_or_ge j bs.length with h | h
      · exact h
      · rw [if_neg (by omega)] at hi; cases hi
    rw [if_pos hil] at hi
    have hq := h3 j bs[j] (List.getElem?_eq_getElem hil)
    rw [if_pos (by exact (Array.getElem?_eq_some_iff.1 hq).1)]
    cases hi
    rfl
  · rw [if_neg e] at hi ⊢
    exact h3 i x hi
end
theorem bytes_of (w : World) (s : ByteArray) : ∃ (g c : Nat) (w1 : World), (convert 9 43 (.string s)).run Tryd.prog w = .ok (.slice (some ⟨g, 0, none⟩) s.size c) w1 ∧ BsW w1 5 g (bts s) ∧ Step (fun _ => False) w w1 ∧ w.heap.size ≤ g ∧ s.size ≤ c := by
  have h := run_bytes_of_string (P := Tryd.prog) w 9 43 5 s Tryd.underlying9 Tryd.underlying43 Tryd.underlying5
  refine ⟨_, _, _, h, ?_, ((Step.refl _ w).drew).alloc _, Nat.le_refl _, ?_⟩
  · refine ⟨bytesRow s (grownCap w s.size 0 5), ((bytesRow s (grownCap w s.size 0 5)).size, (bytesRow s (grownCap w s.size 0 5)).size + 1), by show (w.heap.push _)[w.heap.size]? = _; simp, ?_, fun j b hj => ?_⟩
    · show (bts s).length ≤ (bytesRow s _).size
      unfold bytesRow
      rw [bts_len]
      have : s.data.size = s.size := rfl
      simp only [Array.size_append, Array.size_map]
      omega
    · have hj' : j < s.data.size := by
        have := (List.getElem?_eq_some_iff.1 hj).1
        rw [bts_len] at this
        exact this
      rw [bytesRow_at s _ j hj']
      have e : (bts s)[j]? = some s.data[j] := by
        unfold bts
        rw [Array.getElem?_toList]
        exact Array.getElem?_eq_getElem hj'
      rw [e] at hj
      cases hj
      rfl
  · exact grownCap_ge _ _ _ _
theorem back_to {w : World} {g n c : Nat} {l : List UInt8} (h : BsW w 5 g l) (hn : l.length = n) : (convert 43 9 (.slice (some ⟨g, 0, none⟩) n c)).run Tryd.prog w = .ok (.string (ofL l)) w := by
  subst hn
  refine run_convert_bytes_back w 43 9 5 ⟨g, 0, none⟩ c l Tryd.underlying43 Tryd.underlying5 Tryd.underlying9 (fun j hj => ?_)
  rw [addr_add', Nat.zero_add]
  exact h.cell (List.getElem?_eq_getElem hj)
theorem low_at {l : List UInt8} {i : Nat} {x : UInt8} (h : l[i]? = some x) : ((l.take i).map lowB ++ l.drop i)[i]? = some x := by
  have hi := (List.getElem?_eq_some_iff.1 h).1
  rw [List.getElem?_append_right (by simp; omega)]
  simp
  have e : i - min i l.length = 0 := by omega
  rw [e, Nat.add_zero]
  exact h
theorem low_next {l : List UInt8} {i : Nat} {x : UInt8} (h : l[i]? = some x) : ((l.take i).map lowB ++ l.drop i).set i (lowB x) = (l.take (i + 1)).map lowB ++ l.drop (i + 1) := by
  have hi := (List.getElem?_eq_some_iff.1 h).1
  have hx := (List.getElem?_eq_some_iff.1 h).2
  have e : l.drop i = x :: l.drop (i + 1) := by rw [List.drop_eq_getElem_cons hi, hx]
  rw [e, List.take_add_one, h]
  have hl : ((l.take i).map lowB).length = i := by simp; omega
  rw [List.set_append_right _ _ (by omega), hl, Nat.sub_self]
  simp
theorem low_same {l : List UInt8} {i : Nat} {x : UInt8} (h : l[i]? = some x) (hx : lowB x = x) : (l.take i).map lowB ++ l.drop i = (l.take (i + 1)).map lowB ++ l.drop (i + 1) := by
  rw [← low_next h, hx]
  have h2 := low_at h
  apply List.ext_getElem?
  intro j
  by_cases e : i = j
  · subst e
    rw [List.getElem?_set_self (List.getElem?_eq_some_iff.1 h2).1, h2]
  · rw [List.getElem?_set_ne e]
theorem low_len {l : List UInt8} {i : Nat} (hi : i ≤ l.length) : ((l.take i).map lowB ++ l.drop i).length = l.length := by
  simp; omega
set_option maxRecDepth 100000 in
set_option maxHeartbeats 2000000 in
theorem lower_calls (s : ByteArray) (hs : s.size ≤ 9223372036854775806) (w : World) : Calls Tryd.prog 36 #[.string s] w fun e w' => e = .returned (.string (lower s)) ∧ Step (fun _ => False) w w' := by
  obtain ⟨g, c, w1, hcv, hB, hs1, hg, hc⟩ := bytes_of w s
  obtain ⟨r, hr⟩ : ∃ r, lower s = r := ⟨_, rfl⟩
  rw [hr]
  have HR := Lib.hid hr
  have HB := Lib.hid hB
  have HS := Lib.hid hs1
  have hlt := hB.lt
  clear hr hB hs1
  go_enter Tryd.func36, Tryd.ntmps36
  go_wp2
  clear hcv
  go_loopw [10] (fun v10 wr => ∃ (i : Nat), v10 = .int .i64 (i : Int) ∧ i ≤ s.size ∧ BsW wr 5 g (((bts s).take i).map lowB ++ (bts s).drop i) ∧ Step (· = g) w1 wr) (fun v _ => s.size - (intOf v).toNat)
  case atStart => exact ⟨0, rfl, Nat.zero_le _, by simpa using HB.out, Step.refl _ _⟩
  case round =>
    obtain ⟨i, rfl, hi, hBi, hst⟩ := hrel
    by_cases hin : i < s.size
    · have hin' : ((i : Int) < (s.size : Int)) := by omega
      have hcc : ((i : Int) < (c : Int)) := by omega
      have hgt := bts_get hin
      have a0 := hBi.cell (low_at hgt)
      have a1 := hBi.free (show i < _ by rw [low_len (by rw [bts_len]; omega), bts_len]; omega)
      have HN := Lib.hid (low_next hgt)
      have HSM := Lib.hid (fun h => low_same hgt h)
      have HBi := Lib.hid hBi
      obtain ⟨x, hx⟩ : ∃ x, s[i] = x := ⟨_, rfl⟩
      rw [hx] at a0 HN HSM
      clear hgt hBi hx
      by_cases hu : 65 ≤ x.toNat ∧ x.toNat ≤ 90
      · have u1 : ((65 : Int) ≤ (x.toNat : Int)) := by omega
        have u2 : ((x.toNat : Int) ≤ 90) := by omega
        have hl : lowB x = x + 32 := by unfold lowB; rw [if_pos hu]
        have hxn : ((x + 32 : UInt8).toNat : Int) = (x.toNat : Int) + 32 := by
          rw [UInt8.toNat_add]
          have : (32 : UInt8).toNat = 32 := rfl
          rw [this]
          omega
        have hw1 : IntKind.u8.wrap ((x.toNat : Int) + 97) = (x.toNat : Int) + 97 := by
          simp only [IntKind.wrap, IntKind.bits, IntKind.signed, Bool.false_and, Bool.false_eq_true, if_false]
          omega
        have hw2 : IntKind.u8.wrap ((x.toNat : Int) + 97 - 65) = (x.toNat : Int) + 32 := by
          simp only [IntKind.wrap, IntKind.bits, IntKind.signed, Bool.false_and, Bool.false_eq_true, if_false]
          omega
        have hset := HBi.out.set i (x + 32)
        rw [hxn] at hset
        have HSET := Lib.hid hset
        clear hset hxn
        go_wp2
        go_roundw
        case rel => exact ⟨i + 1, by go_num, by omega, by have h := HSET.out; rw [← hl, HN.out] at h; exact h, hst.same (step_put _ _ _ _)⟩
        case measure => simp [intOf]; omega
      · have hl : lowB x = x := by unfold lowB; rw [if_neg hu]
        have HB2 := Lib.hid (show BsW wr 5 g (((bts s).take (i + 1)).map lowB ++ (bts s).drop (i + 1)) by rw [← HSM.out hl]; exact HBi.out)
        clear HBi HN HSM hl
        by_cases u1 : 65 ≤ x.toNat
        · have u1' : ((65 : Int) ≤ (x.toNat : Int)) := by omega
          have u2' : ¬ ((x.toNat : Int) ≤ 90) := by omega
          go_wp2
          go_roundw
          case rel => exact ⟨i + 1, by go_num, by omega, HB2.out, hst⟩
          case measure => simp [intOf]; omega
        · have u1' : ¬ ((65 : Int) ≤ (x.toNat : Int)) := by omega
          go_wp2
          go_roundw
          case rel => exact ⟨i + 1, by go_num, by omega, HB2.out, hst⟩
          case measure => simp [intOf]; omega
    · have hin' : ¬ ((i : Int) < (s.size : Int)) := by omega
      obtain rfl : i = s.size := by omega
      have hB2 : BsW wr 5 g ((bts s).map lowB) := by
        have h := hBi
        rw [← bts_len, List.take_length, List.drop_length, List.append_nil] at h
        exact h
      have hcv := back_to (n := s.size) (c := c) hB2 (by rw [List.length_map, bts_len])
      rw [show ofL ((bts s).map lowB) = r from HR.out] at hcv
      clear hBi hB2
      go_wp2
      go_ret
      exact ⟨rfl, HS.out.trans hst (fun j hj e => by have : j = g := e; omega)⟩
theorem fold_calls (a b : ByteArray) (ha : a.size ≤ 9223372036854775806) (hb : b.size ≤ 9223372036854775806) (w : World) : Calls Tryd.prog 25 #[.string a, .string b] w fun e w' => e = .returned (.bool ((lower a).toList == (lower b).toList)) ∧ Step (fun _ => False) w w' := by
  have HA := Lib.hid (fun w => lower_calls a ha w)
  have HB := Lib.hid (fun w => lower_calls b hb w)
  generalize lower a = x at *
  generalize lower b = y at *
  go_enter Tryd.func25, Tryd.ntmps25
  go_wp2_with (first | (go_at_call 36; refine (HA.out _).mono ?_; clear HA; rintro e w1 ⟨rfl, hs1⟩) | (go_at_call 36; refine (HB.out _).mono ?_; rintro e w2 ⟨rfl, hs2⟩))
  go_ret
  exact ⟨rfl, hs1.same hs2⟩
end Go.Proofs.YtdglbpjgadjnjaaDoor.Oct
