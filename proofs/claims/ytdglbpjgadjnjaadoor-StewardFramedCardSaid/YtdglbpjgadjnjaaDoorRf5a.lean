/- The document's octets: Lower. Own work of this seat; no condition but on lengths. -/
import Derived.Test.YtdglbpjgadjnjaaDoorFie6
namespace Go.Proofs.YtdglbpjgadjnjaaDoor.Fie
open Go.RowKit Go.Proofs.YtdglbpjgadjnjaaDoor.Kit Go.Proofs.YtdglbpjgadjnjaaDoor.Oct Go.Proofs.YtdglbpjgadjnjaaDoor.Cut
set_option linter.unusedVariables false
set_option linter.unusedSimpArgs false

def bvs (l : List UInt8) : List Value := l.map (fun b => Value.int .u8 (b.toNat : Int))
def BW (w : World) (A : Option Addr) (n c : Nat) (l : List UInt8) : Prop := FSeg w 5 1 A n c (bvs l)
theorem i0u8 : ∃ i, Tryd.prog.info? 5 = some i ∧ i.zero = some (.int .u8 0) ∧ i.size = 1 ∧ i.bytes = 1 := by
  obtain ⟨i, hi, hp⟩ := Option.map_eq_some_iff.1 (by kernel_rfl : (Tryd.prog.info? 5).map (fun i => (i.zero, i.size, i.bytes)) = some (some (.int .u8 0), 1, 1))
  simp only [Prod.mk.injEq] at hp
  exact ⟨i, hi, hp⟩
/-- append(s, b) with the one in a new block. -/
theorem app_u8 {w1 : World} {B : Option Addr} {m cB : Nat} {l : List UInt8} (hB : BW w1 B m cB l) (hb : m + 1 ≤ 1000000) (x : UInt8) :
    ∃ B' c' w', (Builtin.append_ #[43, 43] 43 #[.slice B m cB, .slice (some ⟨w1.heap.size, 0, none⟩) 1 1]).run Tryd.prog (w1.alloc (.cells #[.int .u8 (x.toNat : Int)] 5)) = .ok (.slice B' (m + 1) c') w' ∧ BW w' B' (m + 1) c' (l ++ [x]) ∧ (∀ k, blockOf B' = some k → blockOf B = some k ∨ w1.heap.size ≤ k) ∧ Step (fun k => blockOf B = some k) w1 w' := by
  obtain ⟨i0, hi0, hz0, hs0, hy0⟩ := i0u8
  have hal : Step (fun _ => False) w1 (w1.alloc (.cells #[.int .u8 (x.toNat : Int)] 5)) := (Step.refl _ _).alloc _
  obtain ⟨B5, c5, w5, hap, hB6, hs5, hn5⟩ := run_app_one (k := 1) (v := [Value.int .u8 (x.toNat : Int)]) 43 5 Tryd.underlying43 hi0 hz0 rfl hs0 hy0 (by omega) (hB.keep hal (fun _ _ h => h)) rfl (by intro v hv; simp at hv; subst hv; rfl) (blk_new w1 [Value.int .u8 (x.toNat : Int)] 5) hb
  have hz6 := hal.size
  refine ⟨B5, c5, w5, hap, by unfold BW bvs; rw [List.map_append]; exact hB6, fun k hk => ?_, (hal.mono (fun _ _ h => h.elim)).same hs5⟩
  rcases hn5 with e | ⟨j, e, hj⟩
  · exact .inl (e ▸ hk)
  · rw [hk] at e
    obtain rfl := Option.some.inj e
    exact .inr (by omega)
theorem bw_new (w : World) : BW (w.alloc (.cells #[] 5)) (some ⟨w.heap.size, 0, none⟩) 0 0 [] := fw_empty w _
theorem bw_back {w : World} {A : Option Addr} {n c : Nat} {l : List UInt8} (h : BW w A n c l) (hA : A ≠ none) (hn : l.length = n) : (convert 43 9 (.slice A n c)).run Tryd.prog w = .ok (.string (ofL l)) w := by
  obtain ⟨g, rfl⟩ : ∃ g, A = some ⟨g, 0, none⟩ := by
    rcases h.2 with ⟨e, _⟩ | ⟨g, cur, e, _⟩
    · exact absurd e hA
    · exact ⟨g, e⟩
  subst hn
  refine run_convert_bytes_back w 43 9 5 ⟨g, 0, none⟩ c l Tryd.underlying43 Tryd.underlying5 Tryd.underlying9 (fun j hj => ?_)
  rw [addr_add', Nat.zero_add]
  refine h.cell ?_
  unfold bvs
  rw [List.getElem?_map, List.getElem?_eq_getElem hj]
  rfl
theorem low_take {s : ByteArray} {i : Nat} {x : UInt8} (h : (bts s)[i]? = some x) : ((bts s).take (i + 1)).map lowB = ((bts s).take i).map lowB ++ [lowB x] := by
  rw [List.take_add_one, h]
  simp
set_option maxRecDepth 100000 in
set_option maxHeartbeats 2000000 in
theorem rlower_calls (s : ByteArray) (hs : s.size ≤ 900000) (w : World) : Calls Tryd.prog 21 #[.string s] w fun e w' => e = .returned (.string (lower s)) ∧ Step (fun _ => False) w w' := by
  obtain ⟨r, hr⟩ : ∃ r, lower s = r := ⟨_, rfl⟩
  rw [hr]
  have HR := Lib.hid hr
  clear hr
  go_enter Tryd.func21, Tryd.ntmps21
  go_wp2
  go_loopw [3, 4] (fun v3 v4 wr => ∃ (i : Nat) (B : Option Addr) (cB : Nat), v4 = .int .i64 (i : Int) ∧ v3 = .slice B i cB ∧ i ≤ s.size ∧ B ≠ none ∧ BW wr B i cB (((bts s).take i).map lowB) ∧ Step (fun _ => False) w wr ∧ (∀ j, blockOf B = some j → w.heap.size ≤ j)) (fun _ v _ => s.size - (intOf v).toNat)
  case atStart => exact ⟨0, _, _, rfl, rfl, Nat.zero_le _, by simp, by simpa using bw_new w, (Step.refl _ _).alloc _, fun j hj => by have : w.heap.size = j := Option.some.inj hj; omega⟩
  case round =>
    obtain ⟨i, B, cB, rfl, rfl, hi, hBn, hF, hst, hf⟩ := hrel
    by_cases hin : i < s.size
    · have hin' : ((i : Int) < (s.size : Int)) := by omega
      have hgt := bts_get hin
      have HN := Lib.hid (low_take hgt)
      obtain ⟨x, hx⟩ : ∃ x, s[i] = x := ⟨_, rfl⟩
      rw [hx] at HN
      have HAP := Lib.hid (app_u8 hF (by omega) (lowB x))
      have HF := Lib.hid hf
      clear hgt hF hf
      by_cases hu : 65 ≤ x.toNat ∧ x.toNat ≤ 90
      · have u1 : ((65 : Int) ≤ (x.toNat : Int)) := by omega
        have u2 : ((x.toNat : Int) ≤ 90) := by omega
        have hl : lowB x = x + 32 := by unfold lowB; rw [if_pos hu]
        have hxn : ((x + 32 : UInt8).toNat : Int) = (x.toNat : Int) + 32 := by
          rw [UInt8.toNat_add]
          have : (32 : UInt8).toNat = 32 := rfl
          rw [this]
          omega
        have hw1 : IntKind.u8.wrap ((x.toNat : Int) + 32) = (x.toNat : Int) + 32 := by
          simp only [IntKind.wrap, IntKind.bits, IntKind.signed, Bool.false_and, Bool.false_eq_true, if_false]
          omega
        obtain ⟨B5, c5, w5, hap, hB5, hf5, hs5⟩ := HAP.out
        rw [hl, hxn] at hap
        have HB5 := Lib.hid (And.intro hB5 (And.intro hf5 hs5))
        clear hB5 hf5 hs5 HAP hl hxn
        go_wp2_with (at_builtin; refine wpList_app1 (by rfl) (.tmp 24) (.tmp 26) 43 (by rfl) (by rfl) (by rfl) hap ?_)
        go_roundw
        case rel =>
          obtain ⟨hB5, hf5, hs5⟩ := HB5.out
          have hf := HF.out
          have hz := hst.size
          exact ⟨i + 1, B5, c5, by go_num, rfl, by omega, fun e => by rw [e] at hB5; rcases hB5.2 with ⟨_, _, e, _⟩ | ⟨g, cur, e, _⟩ <;> simp at e, by rw [HN.out]; exact hB5, hst.trans hs5 (fun j hj h => by have := hf _ h; omega), fun j hj => (hf5 j hj).elim (hf j) (fun h => by omega)⟩
        case measure => simp [intOf]; omega
      · have hl : lowB x = x := by unfold lowB; rw [if_neg hu]
        obtain ⟨B5, c5, w5, hap, hB5, hf5, hs5⟩ := HAP.out
        rw [hl] at hap
        have HB5 := Lib.hid (And.intro hB5 (And.intro hf5 hs5))
        clear hB5 hf5 hs5 HAP hl
        have hends : ((65 : Int) ≤ (x.toNat : Int)) = False ∨ (((65 : Int) ≤ (x.toNat : Int)) = True ∧ ((x.toNat : Int) ≤ 90) = False) := by
          by_cases u : 65 ≤ x.toNat
          · exact .inr ⟨eq_true (by omega), eq_false (by omega)⟩
          · exact .inl (eq_false (by omega))
        rcases hends with u1 | ⟨u1, u2⟩
        all_goals
          go_wp2_with (at_builtin; refine wpList_app1 (by rfl) (.tmp 24) (.tmp 26) 43 (by rfl) (by rfl) (by rfl) hap ?_)
          go_roundw
          case rel =>
            obtain ⟨hB5, hf5, hs5⟩ := HB5.out
            have hf := HF.out
            have hz := hst.size
            exact ⟨i + 1, B5, c5, by go_num, rfl, by omega, fun e => by rw [e] at hB5; rcases hB5.2 with ⟨_, _, e, _⟩ | ⟨g, cur, e, _⟩ <;> simp at e, by rw [HN.out]; exact hB5, hst.trans hs5 (fun j hj h => by have := hf _ h; omega), fun j hj => (hf5 j hj).elim (hf j) (fun h => by omega)⟩
          case measure => simp [intOf]; omega
    · have hin' : ¬ ((i : Int) < (s.size : Int)) := by omega
      obtain rfl : i = s.size := by omega
      have hcv := bw_back hF hBn (by rw [List.length_map, List.length_take, bts_len]; omega)
      rw [show ofL (((bts s).take s.size).map lowB) = r by rw [← bts_len, List.take_length]; exact HR.out] at hcv
      clear hF
      go_wp2
      go_ret
      exact ⟨rfl, hst⟩
end Go.Proofs.YtdglbpjgadjnjaaDoor.Fie
