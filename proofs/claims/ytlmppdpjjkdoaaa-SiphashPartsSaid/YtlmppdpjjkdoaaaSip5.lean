/- siphash: Sum. Own work of this seat. -/
import Derived.Test.YtlmppdpjjkdoaaaSip4
import Derived.Deep.RegionWith
namespace Go.Proofs.Ytlmppdpjjkdoaaa.Sip
open Go.RowKit Go.Proofs.Ytlmppdpjjkdoaaa.Kit Go.Proofs.Ytlmppdpjjkdoaaa.PSiphashSums Go.Proofs.YtlmppdpjjkdoaaaW.PrintWords Go.Proofs.YtlmppdpjjkdoaaaW.PrintLast Go.Proofs.YtlmppdpjjkdoaaaW.PrintMore
set_option linter.unusedVariables false

def total : List ByteArray → Nat
  | [] => 0
  | t :: l => t.size + total l
def feeds (p : W4 × List UInt8) : List ByteArray → W4 × List UInt8
  | [] => p
  | t :: l => feeds (feed p.1 (p.2 ++ strB t)) l
theorem feeds_snoc : ∀ (l : List ByteArray) (p : W4 × List UInt8) (t : ByteArray), feeds p (l ++ [t]) = feed (feeds p l).1 ((feeds p l).2 ++ strB t)
  | [], p, t => rfl
  | x :: l, p, t => feeds_snoc l (feed p.1 (p.2 ++ strB x)) t
theorem total_snoc : ∀ (l : List ByteArray) (t : ByteArray), total (l ++ [t]) = total l + t.size
  | [], t => by simp [total]
  | x :: l, t => by simp [total, total_snoc l t]; omega
theorem total_take_le : ∀ (l : List ByteArray) (k : Nat), total (l.take k) ≤ total l
  | [], k => by simp [total]
  | x :: l, 0 => by simp [total]
  | x :: l, k + 1 => by simp [total]; exact total_take_le l k
theorem size_le_total {l : List ByteArray} {t : ByteArray} (h : t ∈ l) : t.size ≤ total l := by
  induction l with
  | nil => cases h
  | cons x l ih =>
    rcases List.mem_cons.1 h with rfl | h
    · simp [total]
    · have := ih h
      simp [total]; omega
theorem feedN_len : ∀ (k : Nat) (s : W4) (xs : List UInt8), (feedN k s xs).2.length = xs.length - 8 * k
  | 0, s, xs => by simp [feedN]
  | k + 1, s, xs => by
    simp only [feedN]
    rw [feedN_len k]
    simp
    omega
theorem feed_len (s : W4) (xs : List UInt8) : (feed s xs).2.length < 8 := by
  unfold feed
  rw [feedN_len]
  omega
theorem feeds_len : ∀ (l : List ByteArray) (p : W4 × List UInt8), p.2.length < 8 → (feeds p l).2.length < 8
  | [], p, h => h
  | t :: l, p, h => feeds_len l _ (feed_len _ _)

/-- The first state, by a key of sixteen bytes. -/
def start (key : List UInt8) : W4 :=
  ⟨xor (wordOf (key.take 8)) 8317987319222330741, xor (wordOf (key.drop 8)) 7237128888997146477, xor (wordOf (key.take 8)) 7816392313619706465, xor (wordOf (key.drop 8)) 8387220255154660723⟩
def sumOf (key : List UInt8) (l : List ByteArray) : Int := endOf (feeds (start key, []) l).1 (feeds (start key, []) l).2 (total l : Int)

theorem key_half {w : World} {b : Nat} {T : TypeId} {key : List UInt8} (h : Blk w b T (bcells key)) (hk : key.length = 16) :
    Seg w T (some ⟨b, 0, none⟩) 8 16 (bcells (key.take 8)) ∧ Seg w T (some ⟨b, 8, none⟩) 8 8 (bcells (key.drop 8)) := by
  refine ⟨⟨by simp [bcells]; omega, .inr ⟨b, 0, _, rfl, h, by omega, by simp [bcells, hk], fun i u hi => ?_⟩⟩, ⟨by simp [bcells]; omega, .inr ⟨b, 8, _, rfl, h, by omega, by simp [bcells, hk], fun i u hi => ?_⟩⟩⟩
  · simp only [bcells, List.map_take, List.getElem?_take] at hi
    split at hi
    · simpa [bcells] using hi
    · cases hi
  · simp only [bcells, List.map_drop, List.getElem?_drop] at hi
    simpa [bcells] using hi

set_option maxRecDepth 100000 in
set_option maxHeartbeats 1000000 in
theorem sum_calls (key : List UInt8) (hk : key.length = 16) (A : Option Addr) (c : Nat) (l : List ByteArray) (w : World) (hl : Kd.C Kd.string w A l.length l) (hc : l.length ≤ c) (htot : total l ≤ 1000000) :
    Calls Try.prog 47 #[.agg (bcells key).toArray, .slice A l.length c] w fun e w' => e = .returned (.int .u64 (sumOf key l)) ∧ Below w.heap.size w w' := by
  have hmax : l.length ≤ 9223372036854775807 := hl.2.1
  go_enter Try.func47, Try.ntmps47
  go_wp2
  refine alloc_next ?_
  intro w1 hK1 hs1
  obtain ⟨hk1, hk2⟩ := key_half hK1 hk
  have hl1 := Kd.C_below hl (hs1.below (Nat.le_refl _) (fun _ h => h.elim))
  have hsz : w.heap.size ≤ w1.heap.size := hs1.size
  have hb1 : Below w.heap.size w w1 := hs1.below (Nat.le_refl _) (fun _ h => h.elim)
  generalize hkb : w.heap.size = kb at *
  have Hkb := Lib.hid hkb
  clear hkb
  go_quiet (first | (go_at_call_of 64 (Value.slice (some ⟨kb, 0, none⟩) 8 16); exact Calls.quiet_of ((word_calls (hk1.keep ((Step.refl (fun _ => False) _).drewN _) (fun _ _ h => h)) (by omega) (by omega)).mono fun e w' ⟨he, hd⟩ => ⟨he, hd.out⟩)) | (go_at_call_of 64 (Value.slice (some ⟨kb, 8, none⟩) 8 8); exact Calls.quiet_of ((word_calls (hk2.keep ((Step.refl (fun _ => False) _).drewN _) (fun _ _ h => h)) (by omega) (by omega)).mono fun e w' ⟨he, hd⟩ => ⟨he, hd.out⟩)))
  go_wp2
  have hsb0 : kb ≤ w1.heap.size := hsz
  have hB0 := blk_new (w1.drewN nq) (cells6 (start key) (.slice none 0 0) 0) 100
  have hbel0 : Below kb w ((w1.drewN nq).alloc (.cells (cells6 (start key) (.slice none 0 0) 0).toArray 100 (0, 0))) := (((Step.refl (fun _ => False) w1).drewN nq).alloc _).below hsz (fun _ h => h.elim) |> hb1.trans
  have hsbe : (w1.drewN nq).heap.size = w1.heap.size := rfl
  rw [hsbe] at hB0
  generalize w1.heap.size = sb at *
  clear hl1 hk1 hk2 hK1 hs1 hsbe
  go_loopw [9, 26] (fun _ i wr => ∃ k : Nat, k ≤ l.length ∧ i = .int .i64 k ∧ St wr kb sb (feeds (start key, []) (l.take k)).1 (feeds (start key, []) (l.take k)).2 (total (l.take k) : Int) ∧ Below kb w wr) (fun _ i _ => l.length - (intOf i).toNat)
  case atStart => exact ⟨0, by omega, rfl, ⟨none, 0, 0, hB0, seg_nil _ _, fun k h => by cases h⟩, hbel0⟩
  case round =>
    obtain ⟨k, hkl, rfl, hS, hbel⟩ := hrel
    clear hB0 hbel0
    have hwr : kb ≤ wr.heap.size := by have := hbel.size; rw [Hkb.out] at this; exact this
    by_cases hlt : k < l.length
    · obtain ⟨ad, e, hcell⟩ := Kd.at_string (Kd.C_below hl (by rw [Hkb.out]; exact hbel)) (k : Int) (by omega) (by omega)
      subst e
      have hrd : rdOf ByteArray.empty l (k : Int) = l[k] := by simp [rdOf, hlt]
      rw [hrd, Int.toNat_natCast] at hcell
      have htk := List.take_succ_eq_append_getElem hlt
      have hts : l[k].size ≤ 140737488351232 := by have := size_le_total (List.getElem_mem hlt); omega
      have hf := feeds_snoc (l.take k) (start key, []) l[k]
      have ht := total_snoc (l.take k) l[k]
      rw [← htk] at hf ht
      have htot2 := total_take_le l (k + 1)
      have h8 := feeds_len (l.take k) (start key, []) (by simp)
      have Hf := Lib.hid hf
      have Ht := Lib.hid ht
      clear hf ht htk hrd
      generalize l[k] = t at *
      have hcnt : wrap64 ((total (l.take k) : Int) + (t.size : Int)) = ((total (l.take (k + 1)) : Nat) : Int) := by
        rw [Ht.out] at htot2 ⊢
        unfold wrap64
        omega
      have Hcnt := Lib.hid hcnt
      clear hcnt
      go_wp2_with (go_at_call 65; refine (write_calls kb sb _ _ _ t wr hsb0 hwr hS h8 hts).mono ?_; rintro e w2 ⟨rfl, hS2, hb2⟩)
      go_roundw
      case rel =>
        rw [Hcnt.out, ← Hf.out] at hS2
        exact ⟨k + 1, by omega, by go_num, hS2, hbel.trans hb2⟩
      case measure => simp [intOf]; omega
    · obtain rfl : k = l.length := by omega
      have h8 := feeds_len l (start key, []) (by simp)
      rw [List.take_length] at hS
      go_wp2_with (go_at_call 66; refine (end_calls kb sb _ _ _ wr hsb0 hwr hS h8 (by omega) (by omega)).mono ?_; rintro e w2 ⟨rfl, hb2⟩)
      go_ret
      exact ⟨rfl, by rw [Hkb.out]; exact hbel.trans hb2⟩
end Go.Proofs.Ytlmppdpjjkdoaaa.Sip
