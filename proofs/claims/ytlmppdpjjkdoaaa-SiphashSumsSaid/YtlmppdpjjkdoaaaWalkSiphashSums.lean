/- The walk of stewardlaw01.SiphashSums. Own work of this seat. -/
import Derived.Test.YtlmppdpjjkdoaaaSip8
namespace Go.Proofs.Ytlmppdpjjkdoaaa.Sip
open Go.RowKit Go.Proofs.Ytlmppdpjjkdoaaa.Kit Go.Proofs.Ytlmppdpjjkdoaaa.PSiphashSums Go.Proofs.YtlmppdpjjkdoaaaW.PrintWords Go.Proofs.YtlmppdpjjkdoaaaW.PrintLast Go.Proofs.YtlmppdpjjkdoaaaW.PrintMore
set_option linter.unusedVariables false

set_option maxRecDepth 100000 in
set_option maxHeartbeats 4000000 in
theorem sums_calls (key : List UInt8) (hkl : key.length = 16) (s0 : ByteArray) (w : World) :
    Calls Try.prog 13 #[.agg (bcells key).toArray, .string s0] w fun e w' => e = .returned (.bool true) ∧ Below w.heap.size w w' := by
  go_enter Try.func13, Try.ntmps13
  go_upto_region 1 with (fail)
  refine alloc_next ?_
  intro w1 hK1 hs1
  have hkb : w.heap.size ≤ w.heap.size := Nat.le_refl _
  generalize hkbe : w.heap.size = kb at hK1 ⊢
  have Hkb := Lib.hid hkbe
  clear hkbe hkb
  go_wp2_with fail
  refine (awake_calls _).mono ?_
  rintro e w2 ⟨rfl, hb2⟩
  go_wp2_with fail
  refine (cut_calls s0 200 _).mono ?_
  rintro e wr ⟨rfl, hd3⟩
  have hss := cutB_size s0 200
  generalize cutB s0 200 = s at *
  have hS0 : Step (fun _ => False) w1 wr := (Step.of_below hb2).then_below hd3.below
  have hS : Step (fun _ => False) w wr := hs1.same hS0
  have hK := hK1.keep hS0 (fun h => h)
  clear hb2 hd3 hS0 hs1 hK1
  obtain ⟨S, hSe⟩ : ∃ S, sumOf key [s] = S := ⟨_, rfl⟩
  have Hsum : ∀ (W : World) (p : Nat) (T : TypeId), Blk W p T [.string s] → Calls Try.prog 47 #[.agg (bcells key).toArray, .slice (some ⟨p, 0, none⟩) 1 1] W fun e w' => e = .returned (.int .u64 S) ∧ Below W.heap.size W w' := fun W p T h => by
    rw [← hSe]
    exact sum_calls key hkl (some ⟨p, 0, none⟩) 1 [s] W (strs1 h) (by simp) (by simp [total]; omega)
  have Href : ∀ (W : World), Calls Try.prog 48 #[.string (keyStr key), .string s] W fun e w' => e = .returned (.int .u64 S) ∧ Below W.heap.size W w' := fun W => by
    have := refsum_calls (keyStr key) s (by have := congrArg List.length (keyStr_bytes key); rw [strB_len] at this; omega) (by omega) W
    rw [keyStr_bytes, hSe] at this
    exact this
  have HS := Lib.hid Hsum
  have HR := Lib.hid Href
  clear Hsum Href hSe hss
  have hc0 := key_convert (w := wr.drew) hK.drew hkl
  have hc1 := key_convert (w := (wr.alloc (.cells #[.string s] 9)).drew) (hK.alloc _) hkl
  have hKa : Blk (wr.alloc (.cells #[.string s] 9)).drew kb 74 (bcells key) := hK.alloc _
  generalize hkst : keyStr key = kst at *
  have Hk := Lib.hid hkst
  clear hkst
  obtain ⟨k0, k1, k2, k3, k4, k5, k6, k7, k8, k9, k10, k11, k12, k13, k14, k15, rfl⟩ := list16 hkl
  obtain ⟨c0, c1, c2, c3, c4, c5, c6, c7, c8, c9, c10, c11, c12, c13, c14, c15⟩ := blk16 hK
  obtain ⟨g0, g1, g2, g3, g4, g5, g6, g7, g8, g9, g10, g11, g12, g13, g14, g15⟩ := blk16 hKa
  have hlt : kb < wr.heap.size := hK.lt
  go_wp2_with fail
  go_region_with
    (first | (go_at_call 47; refine (HS.out _ _ 9 (by first | exact blk_new _ [.string s] _ | exact (blk_new _ [.string s] _).keep (Step.of_below (F := fun _ => False) hb6) (fun h => h))).mono ?_; rintro e w5 ⟨rfl, hb5⟩; have hK5 : Blk w5 kb 74 _ := (by first | exact hKa.keep (Step.of_below (F := fun _ => False) hb5) (fun h => h) | exact hK6.keep (Step.of_below (F := fun _ => False) hb5) (fun h => h) | exact (hK6.alloc _).keep (Step.of_below (F := fun _ => False) hb5) (fun h => h)); have hc5 := key_convert hK5 rfl; rw [Hk.out] at hc5) | (go_at_call 48; refine (HR.out _).mono ?_; rintro e w6 ⟨rfl, hb6⟩; have hK6 : Blk w6 kb 74 _ := (by first | exact hK.drew.keep (Step.of_below (F := fun _ => False) hb6) (fun h => h) | exact hKa.keep (Step.of_below (F := fun _ => False) hb6) (fun h => h) | exact hK5.keep (Step.of_below (F := fun _ => False) hb6) (fun h => h)); obtain ⟨d0, d1, d2, d3, d4, d5, d6, d7, d8, d9, d10, d11, d12, d13, d14, d15⟩ := blk16 hK6))
  all_goals
    go_wp2
    go_ret
    refine ⟨by first | rfl | simp, ?_⟩
    refine Step.below (F := fun _ => False) ?_ (by rw [Hkb.out]; exact Nat.le_refl _) (fun _ h => h.elim)
    first
      | exact ((hS.alloc _).drew.then_below hb5).then_below hb6
      | exact ((hS.alloc _).drew.then_below hb6).then_below hb5
      | exact ((hS.drew.then_below hb6).alloc _).then_below hb5
end Go.Proofs.Ytlmppdpjjkdoaaa.Sip
