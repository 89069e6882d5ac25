/- The walk of stewardlaw01.SiphashKeys. Own work of this seat. -/
import Derived.Test.YtlmppdpjjkdoaabSip6
import Derived.Test.YtlmppdpjjkdoaabSip7
import Derived.Deep.RegionWith
import Derived.Laws.BytesArg
namespace Go.Proofs.Ytlmppdpjjkdoaab.Sip
open Go.RowKit Go.Proofs.Ytlmppdpjjkdoaab.Kit Go.Proofs.Ytlmppdpjjkdoaab.PSiphashKeys Go.Proofs.YtlmppdpjjkdoaabW.PrintWords Go.Proofs.YtlmppdpjjkdoaabW.PrintLast Go.Proofs.YtlmppdpjjkdoaabW.PrintMore
set_option linter.unusedVariables false

def cutB (s : ByteArray) (n : Nat) : ByteArray := if n < s.size then s.extract 0 n else s
theorem cutB_size (s : ByteArray) (n : Nat) : (cutB s n).size ≤ n := by
  unfold cutB
  split
  · simp [ByteArray.size_extract]; omega
  · omega
theorem cut_calls (s : ByteArray) (n : Nat) (w : World) :
    Calls Try.prog 9 #[.string s, .int .i64 (n : Int)] w fun e w' => e = .returned (.string (cutB s n)) ∧ Drawn0 w w' := by
  refine stewardlaw01_Cut.calls s n _ w ?_
  unfold stewardlaw01_Cut.f cutB
  by_cases h : n < s.size
  · rw [if_pos (by omega), if_pos (by omega), if_pos (by omega), if_pos h, Int.toNat_natCast]
  · rw [if_neg (by omega), if_neg h]

theorem keyOfB_at (s : ByteArray) (j : Nat) (hj : j < 16) : (bcells (keyOfB s))[j]? = some (.int .u8 (if h : j < s.size then ((s[j]).toNat : Int) else 0)) := by
  unfold bcells keyOfB
  rw [List.getElem?_map]
  have hl : ((strB s).take 16).length = min 16 s.size := by rw [List.length_take, strB_len]
  by_cases h : j < s.size
  · rw [dif_pos h, List.getElem?_append_left (by omega), List.getElem?_take, if_pos hj, List.getElem?_eq_getElem (by rw [strB_len]; exact h)]
    rfl
  · rw [dif_neg h, List.getElem?_append_right (by omega), hl, List.getElem?_drop, List.getElem?_replicate, if_pos (by omega)]
    rfl

theorem zeros16_eq : zeros16 = [.int .u8 0, .int .u8 0, .int .u8 0, .int .u8 0, .int .u8 0, .int .u8 0, .int .u8 0, .int .u8 0, .int .u8 0, .int .u8 0, .int .u8 0, .int .u8 0, .int .u8 0, .int .u8 0, .int .u8 0, .int .u8 0] := rfl

theorem list16 {α : Type} {l : List α} (h : l.length = 16) : ∃ k0 k1 k2 k3 k4 k5 k6 k7 k8 k9 k10 k11 k12 k13 k14 k15, l = [k0, k1, k2, k3, k4, k5, k6, k7, k8, k9, k10, k11, k12, k13, k14, k15] := by
  match l, h with
  | [k0, k1, k2, k3, k4, k5, k6, k7, k8, k9, k10, k11, k12, k13, k14, k15], _ => exact ⟨k0, k1, k2, k3, k4, k5, k6, k7, k8, k9, k10, k11, k12, k13, k14, k15, rfl⟩

theorem blk16 {w : World} {b : Nat} {T : TypeId} {k0 k1 k2 k3 k4 k5 k6 k7 k8 k9 k10 k11 k12 k13 k14 k15 : UInt8} (h : Blk w b T (bcells [k0, k1, k2, k3, k4, k5, k6, k7, k8, k9, k10, k11, k12, k13, k14, k15])) :
    w.cell? ⟨b, 0, none⟩ = some (.int .u8 (k0.toNat : Int)) ∧ w.cell? ⟨b, 1, none⟩ = some (.int .u8 (k1.toNat : Int)) ∧ w.cell? ⟨b, 2, none⟩ = some (.int .u8 (k2.toNat : Int)) ∧ w.cell? ⟨b, 3, none⟩ = some (.int .u8 (k3.toNat : Int)) ∧ w.cell? ⟨b, 4, none⟩ = some (.int .u8 (k4.toNat : Int)) ∧ w.cell? ⟨b, 5, none⟩ = some (.int .u8 (k5.toNat : Int)) ∧ w.cell? ⟨b, 6, none⟩ = some (.int .u8 (k6.toNat : Int)) ∧ w.cell? ⟨b, 7, none⟩ = some (.int .u8 (k7.toNat : Int)) ∧ w.cell? ⟨b, 8, none⟩ = some (.int .u8 (k8.toNat : Int)) ∧ w.cell? ⟨b, 9, none⟩ = some (.int .u8 (k9.toNat : Int)) ∧ w.cell? ⟨b, 10, none⟩ = some (.int .u8 (k10.toNat : Int)) ∧ w.cell? ⟨b, 11, none⟩ = some (.int .u8 (k11.toNat : Int)) ∧ w.cell? ⟨b, 12, none⟩ = some (.int .u8 (k12.toNat : Int)) ∧ w.cell? ⟨b, 13, none⟩ = some (.int .u8 (k13.toNat : Int)) ∧ w.cell? ⟨b, 14, none⟩ = some (.int .u8 (k14.toNat : Int)) ∧ w.cell? ⟨b, 15, none⟩ = some (.int .u8 (k15.toNat : Int)) :=
  ⟨h.cell rfl, h.cell rfl, h.cell rfl, h.cell rfl, h.cell rfl, h.cell rfl, h.cell rfl, h.cell rfl, h.cell rfl, h.cell rfl, h.cell rfl, h.cell rfl, h.cell rfl, h.cell rfl, h.cell rfl, h.cell rfl⟩
theorem strs1 {w : World} {b : Nat} {T : TypeId} {s : ByteArray} (h : Blk w b T [.string s]) : Kd.C Kd.string w (some ⟨b, 0, none⟩) 1 [s] := ⟨rfl, by omega, fun _ => ⟨_, rfl, fun j p hj => by
  rcases j with _ | j
  · simp only [List.getElem?_cons_zero, Option.some.injEq] at hj
    subst hj
    exact ⟨_, rfl, rfl, fun i u hi => by
      rcases i with _ | i
      · simp only [List.getElem?_cons_zero, Option.some.injEq] at hi
        subst hi
        exact h.cell rfl
      · simp at hi⟩
  · simp at hj⟩⟩
/-- A key's bytes as a string. -/
def keyStr (key : List UInt8) : ByteArray := strOfNums (ints key)
theorem keyStr_bytes (key : List UInt8) : strB (keyStr key) = key := by
  unfold strB keyStr
  rw [strOfNums_data]
  unfold ints
  rw [List.map_map]
  conv => rhs; rw [← List.map_id key]
  apply List.map_congr_left
  intro b _
  simp
theorem key_convert {w : World} {b : Nat} {T : TypeId} {key : List UInt8} (h : Blk w b T (bcells key)) (hl : key.length = 16) :
    (convert 32 9 (.slice (some ⟨b, 0, none⟩) 16 16)).run Try.prog w = .ok (.string (keyStr key)) w := by
  refine run_convert_bytes_arg (P := Try.prog) w 32 5 Try.underlying32 Try.underlying5 b 0 16 16 (ints key) (by simp [ints, hl]) (fun i hi => ?_) 9 Try.underlying9
  rw [Nat.zero_add]
  refine h.cell ?_
  simp [bcells, ints, bcell, List.getD, hl, hi]

set_option maxRecDepth 100000 in
set_option maxHeartbeats 4000000 in
theorem keys_calls (s0 : ByteArray) (w : World) :
    Calls Try.prog 4 #[.string s0] w fun e w' => e = .returned (.bool true) ∧ Below w.heap.size w w' := by
  go_enter Try.func4, Try.ntmps4
  go_wp2_with fail
  refine (awake_calls _).mono ?_
  rintro e w1 ⟨rfl, hb1⟩
  go_wp2_with fail
  refine (cut_calls s0 40 _).mono ?_
  rintro e w2 ⟨rfl, hd2⟩
  have hss := cutB_size s0 40
  generalize cutB s0 40 = s at *
  go_wp2_with fail
  refine (keyof_calls s _).mono ?_
  rintro e w3 ⟨rfl, hb3⟩
  have hS3 : Step (fun _ => False) w w3 := ((Step.of_below hb1).then_below hd2.below).then_below hb3
  clear hb1 hd2 hb3
  have hlen : (bcells (keyOfB s)).length = 16 := by rw [bcells, List.length_map, keyOfB_len]
  obtain ⟨w4, hst, hK, hs4⟩ := store_row (P := Try.prog) (w3.alloc (.cells zeros16.toArray 28)) (blk_new w3 zeros16 28) (cs := bcells (keyOfB s)) (by rw [hlen]; rfl) bcells_one
  rw [zeros16_eq] at hst
  have hS4 : Step (fun _ => False) w w4 := (hS3.alloc _).trans hs4 (fun k hk e => by have := hS3.size; omega)
  have hkb : w.heap.size ≤ w3.heap.size := hS3.size
  go_upto_region 5 with (fail)
  generalize w3.heap.size = kb at *
  clear hst hs4 hS3
  go_wp2
  go_loopw [4, 5, 12] (fun _ _ i wr => ∃ j : Nat, j ≤ 16 ∧ i = .int .i64 j ∧ Blk wr kb 28 (bcells (keyOfB s)) ∧ Step (fun _ => False) w wr) (fun _ _ i _ => 16 - (intOf i).toNat)
  case atStart => exact ⟨0, by omega, rfl, hK, hS4⟩
  case round =>
    clear hK hS4
    obtain ⟨j, hj, rfl, hK, hS⟩ := hrel
    by_cases hlt : j < 16
    · have c := hK.cell (keyOfB_at s j hlt)
      by_cases h : j < s.size
      · rw [dif_pos h] at c
        go_wp2
        go_roundw
        case rel => exact ⟨j + 1, by omega, by go_num, hK, hS⟩
        case measure => simp [intOf]; omega
      · rw [dif_neg h] at c
        go_wp2
        go_roundw
        case rel => exact ⟨j + 1, by omega, by go_num, hK, hS⟩
        case measure => simp [intOf]; omega
    · obtain rfl : j = 16 := by omega
      have hkl := keyOfB_len s
      generalize keyOfB s = key at *
      obtain ⟨S, hSe⟩ : ∃ S, sumOf key [s] = S := ⟨_, rfl⟩
      have Hsum : ∀ (W : World) (p : Nat) (T : TypeId), Blk W p T [.string s] → Calls Try.prog 11 #[.agg (bcells key).toArray, .slice (some ⟨p, 0, none⟩) 1 1] W fun e w' => e = .returned (.int .u64 S) ∧ Below W.heap.size W w' := fun W p T h => by
        rw [← hSe]
        exact sum_calls key hkl (some ⟨p, 0, none⟩) 1 [s] W (strs1 h) (by simp) (by simp [total]; omega)
      have Href : ∀ (W : World), Calls Try.prog 12 #[.string (keyStr key), .string s] W fun e w' => e = .returned (.int .u64 S) ∧ Below W.heap.size W w' := fun W => by
        have := refsum_calls (keyStr key) s (by have := congrArg List.length (keyStr_bytes key); rw [strB_len] at this; omega) (by omega) W
        rw [keyStr_bytes, hSe] at this
        exact this
      have HS := Lib.hid Hsum
      have HR := Lib.hid Href
      clear Hsum Href hSe hss
      have hc0 := key_convert (w := wr.drew) hK.drew hkl
      have hc1 := key_convert (w := (wr.alloc (.cells #[.string s] 9)).drew) (hK.alloc _) hkl
      have hKa : Blk (wr.alloc (.cells #[.string s] 9)).drew kb 28 (bcells key) := hK.alloc _
      generalize hkst : keyStr key = kst at *
      have Hk := Lib.hid hkst
      clear hkst
      obtain ⟨k0, k1, k2, k3, k4, k5, k6, k7, k8, k9, k10, k11, k12, k13, k14, k15, rfl⟩ := list16 hkl
      obtain ⟨c0, c1, c2, c3, c4, c5, c6, c7, c8, c9, c10, c11, c12, c13, c14, c15⟩ := blk16 hK
      obtain ⟨g0, g1, g2, g3, g4, g5, g6, g7, g8, g9, g10, g11, g12, g13, g14, g15⟩ := blk16 hKa
      have hlt : kb < wr.heap.size := hK.lt
      go_wp2_with fail
      go_region_with
        (first | (go_at_call 11; refine (HS.out _ _ 9 (by first | exact blk_new _ [.string s] _ | exact (blk_new _ [.string s] _).keep (Step.of_below (F := fun _ => False) hb6) (fun h => h))).mono ?_; rintro e w5 ⟨rfl, hb5⟩; have hK5 : Blk w5 kb 28 _ := (by first | exact hKa.keep (Step.of_below (F := fun _ => False) hb5) (fun h => h) | exact hK6.keep (Step.of_below (F := fun _ => False) hb5) (fun h => h) | exact (hK6.alloc _).keep (Step.of_below (F := fun _ => False) hb5) (fun h => h)); have hc5 := key_convert hK5 rfl; rw [Hk.out] at hc5) | (go_at_call 12; refine (HR.out _).mono ?_; rintro e w6 ⟨rfl, hb6⟩; have hK6 : Blk w6 kb 28 _ := (by first | exact hK.drew.keep (Step.of_below (F := fun _ => False) hb6) (fun h => h) | exact hKa.keep (Step.of_below (F := fun _ => False) hb6) (fun h => h) | exact hK5.keep (Step.of_below (F := fun _ => False) hb6) (fun h => h)); obtain ⟨d0, d1, d2, d3, d4, d5, d6, d7, d8, d9, d10, d11, d12, d13, d14, d15⟩ := blk16 hK6))
      all_goals
        go_wp2
        go_ret
        refine ⟨by first | rfl | simp, ?_⟩
        refine Step.below (F := fun _ => False) ?_ (Nat.le_refl _) (fun _ h => h.elim)
        first
          | exact ((hS.alloc _).drew.then_below hb5).then_below hb6
          | exact ((hS.alloc _).drew.then_below hb6).then_below hb5
          | exact ((hS.drew.then_below hb6).alloc _).then_below hb5
end Go.Proofs.Ytlmppdpjjkdoaab.Sip
