/- siphash: the reference's Sum. Own work of this seat. -/
import Derived.Test.YtlmppdpjjkdoaaaSipR1
import Derived.Test.YtlmppdpjjkdoaaaSipWord
import Derived.Deep.RegionWith
import Derived.Deep.LoopGhost
namespace Go.Proofs.Ytlmppdpjjkdoaaa.Sip
open Go.RowKit Go.Proofs.Ytlmppdpjjkdoaaa.Kit Go.Proofs.Ytlmppdpjjkdoaaa.PSiphashSums Go.Proofs.YtlmppdpjjkdoaaaW.PrintWords Go.Proofs.YtlmppdpjjkdoaaaW.PrintLast Go.Proofs.YtlmppdpjjkdoaaaW.PrintMore
set_option linter.unusedVariables false

theorem strB_extract (s : ByteArray) (a b : Nat) : strB (s.extract a b) = ((strB s).take b).drop a := by
  unfold strB
  rw [ByteArray.data_extract, Array.toList_extract]
  simp [List.extract_eq_take_drop, List.drop_take]
theorem strB_len (s : ByteArray) : (strB s).length = s.size := rfl
theorem word8 {xs : List UInt8} (h : xs.length = 8) : (valN xs : Int) = wordOf xs := by
  rw [word_is xs (by omega), List.take_of_length_le (by omega)]

set_option maxRecDepth 100000 in
set_option maxHeartbeats 2000000 in
theorem refsum_calls (key s : ByteArray) (hk : key.size = 16) (hs : s.size ≤ 1000000) (w : World) :
    Calls Try.prog 48 #[.string key, .string s] w fun e w' => e = .returned (.int .u64 (sumOf (strB key) [s])) ∧ Below w.heap.size w w' := by
  have x1 : (key.extract 0 8).size = 8 := by simp [ByteArray.size_extract]; omega
  have x2 : (key.extract 8 16).size = 8 := by simp [ByteArray.size_extract]; omega
  have v1 : (valN (strB (key.extract 0 8)) : Int) = wordOf ((strB key).take 8) := by
    rw [word8 (by rw [strB_len]; exact x1), strB_extract]; simp
  have v2 : (valN (strB (key.extract 8 16)) : Int) = wordOf ((strB key).drop 8) := by
    rw [word8 (by rw [strB_len]; exact x2), strB_extract, List.take_of_length_le (by rw [strB_len]; omega)]
  have V1 := Lib.hid v1
  have V2 := Lib.hid v2
  have X1 : (key.extract 0 8).size ≤ 8 := by omega
  have X2 : (key.extract 8 16).size ≤ 8 := by omega
  clear v1 v2 x1 x2
  go_enter Try.func48, Try.ntmps48
  go_wp2_with fail
  refine (refword_calls _ X1 _).mono ?_
  rintro e w1 ⟨rfl, hd1⟩
  rw [V1.out]
  go_wp2_with fail
  refine (refword_calls _ X2 _).mono ?_
  rintro e w2 ⟨rfl, hd2⟩
  have hs2 := (Step.of_below (F := fun _ => False) hd1.below).then_below hd2.below
  clear hd1 hd2
  rw [V2.out]
  go_upto_region 4 with (fail)
  refine alloc_next (cs := cells4 (start (strB key))) ?_
  intro w3 hX3 hs3
  have hS3 := hs2.same hs3
  have hgw : w.heap.size ≤ w2.heap.size := hs2.size
  generalize w2.heap.size = g at *
  clear hs2 hs3
  have hss : s.size ≤ 1000000 := hs
  go_wp2_with fail
  go_loopg [1] s.size (fun k v wr => ∃ (st : W4) (r : ByteArray), v = .string r ∧ r.size = k ∧ r.size ≤ 1000000 ∧ Hid (feed st (strB r) = feed (start (strB key)) (strB s)) ∧ Blk wr g 103 (cells4 st) ∧ Step (fun _ => False) w wr)
  case atStart => exact ⟨start (strB key), s, rfl, rfl, hs, Lib.hid rfl, hX3, hS3⟩
  case round =>
    obtain ⟨st, r, rfl, hrk, hr6, hfeed, hX, hS⟩ := hrel
    clear hX3 hS3
    subst hrk
    have hX' := hX
    unfold cells4 at hX'
    obtain ⟨⟨c0, c1, c2, c3⟩, ⟨f0, f1, f2, f3⟩⟩ := blk4 hX'
    by_cases h8 : 8 ≤ r.size
    · have h8i : (8 : Int) ≤ (r.size : Int) := by omega
      have y1 : (r.extract 0 8).size ≤ 8 := by simp [ByteArray.size_extract]; omega
      have z1 : (valN (strB (r.extract 0 8)) : Int) = wordOf (strB r) := by
        rw [word8 (by rw [strB_len]; simp [ByteArray.size_extract]; omega), strB_extract, word_is _ (by rw [List.drop_zero, List.length_take, strB_len]; omega), word_is (strB r) (by rw [strB_len]; omega)]
        simp [List.take_take]
      have Z1 := Lib.hid z1
      clear z1
      go_wp2_with fail
      go_region_with
        (first | (go_at_call 67; refine (refword_calls _ y1 _).mono ?_; rintro e w4 ⟨rfl, ⟨⟨nq, rfl⟩⟩⟩; rw [Z1.out]) | (go_at_call 68; refine (reftake_calls' st _ _).mono ?_; rintro e w5 ⟨rfl, hb5⟩; have hb5' : Below wr.heap.size wr w5 := ⟨hb5.os, hb5.tape, hb5.output, hb5.size, hb5.block⟩; have hX5 := hX.keep (Step.of_below (F := fun _ => False) hb5') (fun h => h); clear hb5; have hX5' := hX5; unfold cells4 at hX5'; obtain ⟨⟨d0, d1, d2, d3⟩, ⟨k0, k1, k2, k3⟩⟩ := blk4 hX5'))
      all_goals
        have hput := blk4_put hX5' (.int .u64 (takeW st (wordOf (strB r))).a) (.int .u64 (takeW st (wordOf (strB r))).b) (.int .u64 (takeW st (wordOf (strB r))).c) (.int .u64 (takeW st (wordOf (strB r))).d)
        have hput1 := hput.1
        have hput2 := hput.2
        clear hput
        go_wp2
        go_roundg (r.size - 8)
        case measure => omega
        case rel =>
          refine ⟨takeW st (wordOf (strB r)), r.extract 8 r.size, rfl, by simp [ByteArray.size_extract], by simp [ByteArray.size_extract]; omega, Lib.hid ?_, hput1, ?_⟩
          · rw [strB_extract, List.take_of_length_le (by rw [strB_len]; omega), ← feed_ge (by rw [strB_len]; omega)]
            exact hfeed.out
          · exact ((hS.then_below hb5').mono (fun _ _ h => h)).trans hput2 (fun k hk e => by omega)
    · have h8i : ¬ (8 : Int) ≤ (r.size : Int) := by omega
      have y1 : r.size ≤ 8 := by omega
      have hsum : sumOf (strB key) [s] = endOf st (strB r) (s.size : Int) := by
        have e : feed (start (strB key)) (strB s) = (st, strB r) := by rw [← hfeed.out, feed_lt (by rw [strB_len]; omega)]
        unfold sumOf
        simp [feeds, total, e]
      have hlast := last_is (strB r) (s.size : Int) (by rw [strB_len]; omega) (by omega)
      have hlast2 : IntKind.u64.wrap ((valN (strB r) : Int) + IntKind.u64.wrap (IntKind.u64.wrap (Int.tmod (s.size : Int) 256) * 72057594037927936)) = wordOf (lastOf (strB r) (s.size : Int)) := by
        rw [hlast, Int.tmod_eq_emod_of_nonneg (by omega), IntKind.wrap_u64 ((s.size : Int) % 256), Int.emod_eq_of_lt (by omega) (by omega)]
      have Hlast := Lib.hid hlast2
      clear hlast2
      obtain ⟨t, ht⟩ : ∃ t, takeW st (wordOf (lastOf (strB r) (s.size : Int))) = t := ⟨_, rfl⟩
      obtain ⟨u, hu⟩ : ∃ u, rndN 4 ⟨t.a, t.b, xor t.c 255, t.d⟩ = u := ⟨_, rfl⟩
      have Hfin := Lib.hid (hsum.trans (endOf_eq ht hu))
      have Ht := Lib.hid ht
      have Hu := Lib.hid hu
      clear hsum hlast ht hu hfeed
      go_wp2_with fail
      go_region_with
        (first | (go_at_call 67; refine (refword_calls _ y1 _).mono ?_; rintro e w4 ⟨rfl, ⟨⟨nq, rfl⟩⟩⟩) | (go_at_call 68; rw [Hlast.out]; refine (reftake_calls' st _ _).mono ?_; rw [Ht.out]; rintro e w5 ⟨rfl, hb5⟩; have hb5' : Below wr.heap.size wr w5 := ⟨hb5.os, hb5.tape, hb5.output, hb5.size, hb5.block⟩; have hX5 := hX.keep (Step.of_below (F := fun _ => False) hb5') (fun h => h); clear hb5; have hX5' := hX5; unfold cells4 at hX5'; obtain ⟨⟨d0, d1, d2, d3⟩, ⟨k0, k1, k2, k3⟩⟩ := blk4 hX5'))
      all_goals
        have hput := blk4_put hX5' (.int .u64 t.a) (.int .u64 t.b) (.int .u64 t.c) (.int .u64 t.d)
        generalize (((w5.setCell ⟨g, 0, none⟩ (.int .u64 t.a)).setCell ⟨g, 1, none⟩ (.int .u64 t.b)).setCell ⟨g, 2, none⟩ (.int .u64 t.c)).setCell ⟨g, 3, none⟩ (.int .u64 t.d) = w6 at hput ⊢
        obtain ⟨hX6, hs6⟩ := hput
        have hS6 : Step (fun _ => False) w w6 := (hS.then_below hb5').trans hs6 (fun k hk e => by omega)
        clear c0 c1 c2 c3 f0 f1 f2 f3 d0 d1 d2 d3 k0 k1 k2 k3 hX5 hX5' hX hX' hb5' hs6 hS
        obtain ⟨⟨c0, c1, c2, c3⟩, ⟨f0, f1, f2, f3⟩⟩ := blk4 hX6
        go_upto_region 10 with (fail)
        refine put_plain hX6 ?_
        intro w7 hX7 hs7
        have hS7 : Step (fun _ => False) w w7 := hS6.trans hs7 (fun k hk e => by omega)
        clear c0 c1 c2 c3 f0 f1 f2 f3 hX6 hs7 hS6
        go_wp2_with fail
        go_loopw [9] (fun i wr => ∃ k : Nat, k ≤ 4 ∧ i = .int .i64 k ∧ Blk wr g 103 (cells4 (rndN k ⟨t.a, t.b, xor t.c 255, t.d⟩)) ∧ Step (fun _ => False) w wr) (fun i _ => 4 - (intOf i).toNat)
        case atStart => exact ⟨0, by omega, rfl, hX7, hS7⟩
        case round =>
          obtain ⟨k, hk, rfl, hXk, hSk⟩ := hrel
          by_cases hlt4 : k < 4
          · have hXk' := hXk
            unfold cells4 at hXk'
            obtain ⟨⟨c0, c1, c2, c3⟩, ⟨f0, f1, f2, f3⟩⟩ := blk4 hXk'
            go_wp2_with (go_at_call 69; refine (refround_calls' (rndN k ⟨t.a, t.b, xor t.c 255, t.d⟩) _).mono ?_; rintro e w8 ⟨rfl, hb8⟩; have hX8 := hXk'.keep (Step.of_below (F := fun _ => False) hb8) (fun h => h); clear c0 c1 c2 c3 f0 f1 f2 f3; obtain ⟨⟨c0, c1, c2, c3⟩, ⟨f0, f1, f2, f3⟩⟩ := blk4 hX8)
            have hput := blk4_put hX8 (.int .u64 (rnd (rndN k ⟨t.a, t.b, xor t.c 255, t.d⟩)).a) (.int .u64 (rnd (rndN k ⟨t.a, t.b, xor t.c 255, t.d⟩)).b) (.int .u64 (rnd (rndN k ⟨t.a, t.b, xor t.c 255, t.d⟩)).c) (.int .u64 (rnd (rndN k ⟨t.a, t.b, xor t.c 255, t.d⟩)).d)
            go_roundw
            case rel => exact ⟨k + 1, by omega, by go_num, hput.1, (hSk.then_below hb8).trans hput.2 (fun k hk e => by omega)⟩
            case measure => simp [intOf]; omega
          · obtain rfl : k = 4 := by omega
            rw [Hu.out] at hXk
            unfold cells4 at hXk
            obtain ⟨⟨c0, c1, c2, c3⟩, _⟩ := blk4 hXk
            go_wp2
            go_ret
            rw [Hfin.out]
            exact ⟨rfl, hSk.below (Nat.le_refl _) (fun _ h => h.elim)⟩
end Go.Proofs.Ytlmppdpjjkdoaaa.Sip
