/- siphash: the fixed fact of the layer's laws. Own work of this seat. -/
import Derived.Test.YtlmppdpjjkdoaaaSip5
namespace Go.Proofs.Ytlmppdpjjkdoaaa.Sip
open Go.RowKit Go.Proofs.Ytlmppdpjjkdoaaa.Kit Go.Proofs.Ytlmppdpjjkdoaaa.PSiphashSums Go.Proofs.YtlmppdpjjkdoaaaW.PrintWords Go.Proofs.YtlmppdpjjkdoaaaW.PrintLast Go.Proofs.YtlmppdpjjkdoaaaW.PrintMore
set_option linter.unusedVariables false

def keyTo (k : Nat) : List UInt8 := (List.range 16).map fun i => if i < k then UInt8.ofNat i else 0
def msgTo (k : Nat) : List UInt8 := (List.range k).map UInt8.ofNat
theorem keyTo_step : ∀ k, k < 16 → (keyTo k).set k (UInt8.ofNat k) = keyTo (k + 1) := by decide +kernel
theorem keyTo_len (k : Nat) : (keyTo k).length = 16 := by simp [keyTo]

theorem msg_step : ∀ k, k < 15 → (⟨(msgTo k).toArray⟩ : ByteArray) ++ strOfNums [(k : Int)] = ⟨(msgTo (k + 1)).toArray⟩ := by decide +kernel
theorem msg_size (k : Nat) : (⟨(msgTo k).toArray⟩ : ByteArray).size = k := by simp [ByteArray.size, msgTo]

set_option maxRecDepth 100000 in
set_option maxHeartbeats 2000000 in
theorem awake_calls (w : World) :
    Calls Try.prog 45 #[] w fun e w' => e = .returned (.bool true) ∧ Below w.heap.size w w' := by
  go_enter Try.func45, Try.ntmps45
  go_upto_region 2 with (fail)
  refine alloc_next ?_
  intro w1 hK1 hs1
  generalize hkb : w.heap.size = kb at *
  have Hkb := Lib.hid hkb
  clear hkb
  go_wp2
  go_loopw [3, 5] (fun _ i wr => ∃ k : Nat, k ≤ 16 ∧ i = .int .i64 k ∧ Blk wr kb 77 (bcells (keyTo k)) ∧ Step (fun _ => False) w wr) (fun _ i _ => 16 - (intOf i).toNat)
  case atStart => exact ⟨0, by omega, rfl, hK1, hs1⟩
  case round =>
    clear hK1 hs1
    obtain ⟨k, hk, rfl, hB, hS⟩ := hrel
    by_cases hlt : k < 16
    · obtain ⟨u, hu⟩ : ∃ u, (bcells (keyTo k))[k]? = some u := ⟨_, List.getElem?_eq_getElem (by rw [bcells, List.length_map, keyTo_len]; exact hlt)⟩
      have c := hB.cell hu
      have f := hB.free k
      go_wp2
      go_roundw
      case rel =>
        refine ⟨k + 1, by omega, by go_num, ?_, hS.setCell (p := ⟨kb, k, none⟩) (fun h => by simp only [Hkb.out] at h; exact absurd h (Nat.lt_irrefl _)) _⟩
        have := hB.set k (bcell (UInt8.ofNat k))
        rw [bcells, ← List.map_set, keyTo_step k hlt, show bcell (UInt8.ofNat k) = .int .u8 (k : Int) from by
          unfold bcell
          rw [UInt8.toNat_ofNat']
          congr 1
          omega] at this
        exact this
      case measure => simp [intOf]; omega
    · obtain rfl : k = 16 := by omega
      go_wp2
      go_loopw [2, 4, 13] (fun s _ i wr => ∃ k : Nat, k ≤ 15 ∧ i = .int .i64 k ∧ s = .string ⟨(msgTo k).toArray⟩ ∧ Blk wr kb 77 (bcells (keyTo 16)) ∧ Step (fun _ => False) w wr) (fun _ _ i _ => 15 - (intOf i).toNat)
      case atStart => exact ⟨0, by omega, rfl, rfl, hB, hS⟩
      case round =>
        obtain ⟨k, hk, rfl, rfl, hB, hS⟩ := hrel
        by_cases hlt : k < 15
        · have hconv := run_convert_bytes_arg (P := Try.prog) (wr.alloc (.cells #[.int .u8 (k : Int)] 5)) 80 5 Try.underlying80 Try.underlying5 wr.heap.size 0 1 1 [(k : Int)] rfl (fun i hi => by
            obtain rfl : i = 0 := by omega
            exact (blk_new wr [.int .u8 (k : Int)] 5).cell rfl) 9 Try.underlying9
          have hadd : ∀ wx, (Op.stringOp .add ⟨(msgTo k).toArray⟩ (strOfNums [(k : Int)])).run Try.prog wx = .ok (.string ⟨(msgTo (k + 1)).toArray⟩) wx := fun wx => by
            rw [run_string_add, msg_step k hlt]
            · rw [msg_size]; omega
            · rw [strOfNums_size]; simp
          go_wp2
          go_roundw
          case rel =>
            exact ⟨k + 1, by omega, by go_num, rfl, hB.alloc _, hS.alloc _⟩
          case measure => simp [intOf]; omega
        · obtain rfl : k = 15 := by omega
          go_wp2_with (refine wpList_load_row rfl 77 _ rfl kb rfl 77 _ (0, 0) _ hB Try.underlying77 rfl (by kernel_rfl) ?_)
          have hl1 : Kd.C Kd.string (wr.alloc (.cells #[.string ⟨(msgTo 15).toArray⟩] 9)) (some ⟨wr.heap.size, 0, none⟩) 1 [⟨(msgTo 15).toArray⟩] := ⟨rfl, by omega, fun _ => ⟨_, rfl, fun j p hj => by
            rcases j with _ | j
            · simp only [List.getElem?_cons_zero, Option.some.injEq] at hj
              subst hj
              exact ⟨_, rfl, rfl, fun i u hi => by
                rcases i with _ | i
                · simp only [List.getElem?_cons_zero, Option.some.injEq] at hi
                  subst hi
                  exact (blk_new wr [.string ⟨(msgTo 15).toArray⟩] 9).cell rfl
                · simp at hi⟩
            · simp at hj⟩⟩
          have hsum : sumOf (keyTo 16) [⟨(msgTo 15).toArray⟩] = 11613035633349379557 := by decide +kernel
          have hbelow : siphash_Below.f 9223372036854775808 10 = some 5 := by decide +kernel
          refine (sum_calls (keyTo 16) (keyTo_len 16) (some ⟨wr.heap.size, 0, none⟩) 1 [⟨(msgTo 15).toArray⟩] _ hl1 (by simp) (by decide)).mono ?_
          rintro e w2 ⟨he, hb2⟩
          rw [hsum] at he
          subst he
          clear hsum hl1
          go_wp2_with (go_at_call 61; refine (siphash_Below.calls _ _ _ _ hbelow).mono ?_; rintro e w3 ⟨rfl, hd⟩)
          go_ret
          exact ⟨rfl, (((hS.alloc _).then_below hb2).then_below hd.below).below (by rw [Hkb.out]; exact Nat.le_refl _) (fun _ h => h.elim)⟩
end Go.Proofs.Ytlmppdpjjkdoaaa.Sip
