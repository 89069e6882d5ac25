/- siphash: the end. Own work of this seat. -/
import Derived.Test.YtlmppdpjjkdoaaaSip3
import Derived.BigQuiet
namespace Go.Proofs.Ytlmppdpjjkdoaaa.Sip
open Go.RowKit Go.Proofs.Ytlmppdpjjkdoaaa.Kit Go.Proofs.Ytlmppdpjjkdoaaa.PSiphashSums Go.Proofs.YtlmppdpjjkdoaaaW.PrintWords Go.Proofs.YtlmppdpjjkdoaaaW.PrintLast Go.Proofs.YtlmppdpjjkdoaaaW.PrintMore
set_option linter.unusedVariables false

/-- The last word: what is left, and how many bytes there were. -/
def lastOf (xs : List UInt8) (cnt : Int) : List UInt8 := (xs ++ List.replicate (8 - xs.length) 0).set 7 (UInt8.ofNat (cnt % 256).toNat)

def endOf (s : W4) (xs : List UInt8) (cnt : Int) : Int :=
  let t := takeW s (wordOf (lastOf xs cnt))
  let u := rndN 4 ⟨t.a, t.b, xor t.c 255, t.d⟩
  xor (xor (xor u.a u.b) u.c) u.d
theorem endOf_eq {s t u : W4} {xs : List UInt8} {cnt : Int} (h : takeW s (wordOf (lastOf xs cnt)) = t) (h' : rndN 4 ⟨t.a, t.b, xor t.c 255, t.d⟩ = u) : endOf s xs cnt = xor (xor (xor u.a u.b) u.c) u.d := by
  subst h; subst h'; rfl

theorem bcells_one {xs : List UInt8} : ∀ v ∈ bcells xs, v.oneCell' = true := by
  intro v hv
  simp only [bcells, List.mem_map] at hv
  obtain ⟨b, _, rfl⟩ := hv
  rfl
def zeros8 : List Value := [.int .u8 0, .int .u8 0, .int .u8 0, .int .u8 0, .int .u8 0, .int .u8 0, .int .u8 0, .int .u8 0]
theorem zeros_bcells (n : Nat) (hn : n < 8) : zeros8.drop n = bcells (List.replicate (8 - n) 0) := by
  rcases n with _ | _ | _ | _ | _ | _ | _ | _ | n
  all_goals first | rfl | omega
theorem last_cells {xs : List UInt8} {n : Nat} (hl : (bcells xs).length = n) (hn : n < 8) (cnt : Int) (h0 : 0 ≤ cnt) :
    (bcells xs ++ zeros8.drop n).set 7 (.int .u8 (cnt % 256)) = bcells (lastOf xs cnt) := by
  have e1 : xs.length = n := by simpa [bcells] using hl
  rw [zeros_bcells n hn]
  unfold lastOf
  rw [e1]
  have e2 : (Value.int .u8 (cnt % 256)) = bcell (UInt8.ofNat (cnt % 256).toNat) := by
    unfold bcell
    rw [UInt8.toNat_ofNat']
    congr 1
    omega
  rw [e2]
  simp [bcells, List.map_set]
theorem last_at7 {xs : List UInt8} {n : Nat} (hl : (bcells xs).length = n) (hn : n < 8) : ∃ u, (bcells xs ++ zeros8.drop n)[7]? = some u := by
  refine ⟨_, List.getElem?_eq_getElem ?_⟩
  rw [List.length_append, hl, List.length_drop]
  show 7 < n + (8 - n)
  omega
theorem last_len (xs : List UInt8) (cnt : Int) (h : xs.length < 8) : (lastOf xs cnt).length = 8 := by
  unfold lastOf
  simp; omega

set_option maxRecDepth 100000 in
set_option maxHeartbeats 4000000 in
theorem end_calls (base b : Nat) (s : W4) (xs : List UInt8) (cnt : Int) (w : World) (hb : base ≤ b) (hbase : base ≤ w.heap.size) (hS : St w base b s xs cnt) (hlt : xs.length < 8) (h0 : 0 ≤ cnt) (h1 : cnt ≤ 9223372036854775807) :
    Calls Try.prog 66 #[.pointer (some ⟨b, 0, none⟩)] w fun e w' => e = .returned (.int .u64 (endOf s xs cnt)) ∧ Below base w w' := by
  obtain ⟨A, n, c, hB, hg, hA⟩ := hS.ex
  have hn : n < 8 := by
    have := hg.len
    simp [bcells] at this
    omega
  unfold cells6 at hB
  obtain ⟨⟨c0, c1, c2, c3, c4, c5⟩, ⟨f0, f1, f2, f3, f4, f5⟩⟩ := blk6 hB
  go_enter Try.func66, Try.ntmps66
  go_wp2
  refine alloc_next ?_
  intro w1 hL1 hs1
  have hB1 := hB.keep hs1 (fun h => h)
  have hg1 := hg.keep hs1 (fun k _ h => h)
  have hlt1 : w.heap.size ≠ b := fun e => by have := hB.lt; omega
  have hgA : ∀ k, blockOf A = some k → k ≠ w.heap.size := fun k hk e => by have := hg.lt hk; omega
  have hle1 : base ≤ w.heap.size := hbase
  generalize hge : w.heap.size = g at *
  have Hge := Lib.hid hge
  clear hge
  clear c0 c1 c2 c3 c4 c5 f0 f1 f2 f3 f4 f5
  obtain ⟨⟨c0, c1, c2, c3, c4, c5⟩, ⟨f0, f1, f2, f3, f4, f5⟩⟩ := blk6 hB1
  go_still_tail 5, (by kernel_rfl)
  refine wpList_copy_seg _ rfl (.tmp 4) (.tmp 8) 80 80 5 rfl Try.underlying80 (by kernel_rfl) hL1.drew rfl (hg1.keep ((Step.refl (fun _ => False) _).drew) (fun k _ h => h)) (by simp only [List.length_cons, List.length_nil]; omega) bcells_one rfl rfl ?_
  intro w2 hL2 hs2
  have hB2 := hB1.drew.keep hs2 (fun e => hlt1 e.symm)
  clear c0 c1 c2 c3 c4 c5 f0 f1 f2 f3 f4 f5
  obtain ⟨⟨c0, c1, c2, c3, c4, c5⟩, ⟨f0, f1, f2, f3, f4, f5⟩⟩ := blk6 hB2
  obtain ⟨u7, hu7⟩ := last_at7 hg.len hn
  have d7 := hL2.cell hu7
  have e7 := hL2.free 7
  go_upto_region 4 with (fail)
  refine put_plain hL2 ?_
  intro w3 hL3 hs3
  have hB3 := hB2.keep hs3 (fun e => hlt1 e.symm)
  rw [show (bcells xs ++ List.drop n [Value.int IntKind.u8 0, Value.int IntKind.u8 0, Value.int IntKind.u8 0, Value.int IntKind.u8 0, Value.int IntKind.u8 0, Value.int IntKind.u8 0, Value.int IntKind.u8 0, Value.int IntKind.u8 0]).set 7 (.int .u8 (cnt % 256)) = bcells (lastOf xs cnt) from last_cells hg.len hn cnt h0] at hL3
  have hS3 := hL3.seg (n := 8) (by rw [bcells, List.length_map, last_len xs cnt hlt])
  obtain ⟨t, ht⟩ : ∃ t, takeW s (wordOf (lastOf xs cnt)) = t := ⟨_, rfl⟩
  obtain ⟨u, hu⟩ : ∃ u, rndN 4 ⟨t.a, t.b, xor t.c 255, t.d⟩ = u := ⟨_, rfl⟩
  have hT : Step (fun k => base ≤ k) w w3 := ((hs1.mono (fun _ _ h => h.elim)).same (((Step.refl _ _).drew).same (hs2.mono (fun k _ e => by rw [e]; exact hle1)))).same (hs3.mono (fun k _ e => by rw [e]; exact hle1))
  have hfin := endOf_eq ht hu
  have Hfin := Lib.hid hfin
  have Ht := Lib.hid ht
  have Hu := Lib.hid hu
  clear hfin ht hu hL1 hL2 hu7 d7 e7 hB2 hB1 hg1 c0 c1 c2 c3 c4 c5 f0 f1 f2 f3 f4 f5 hB hg hs1 hs2 hs3 hS hA hgA
  go_upto_region 5 with (first | (go_at_call 64; refine (word_calls hS3 (by omega) (by omega)).mono ?_; rintro e w4 ⟨rfl, ⟨⟨nq, rfl⟩⟩⟩) | (go_at_call 75; refine (take_calls b _ s _ _ _ _ (hB3.drewN nq)).mono ?_; rintro e w5 ⟨rfl, hB5, hs5⟩))
  rw [Ht.out] at hB5
  have hT5 : Step (fun k => base ≤ k) w w5 := (hT.drewN nq).same (hs5.mono (fun k _ e => by rw [e]; exact hb))
  have hB5' := hB5
  unfold cells6 at hB5'
  obtain ⟨⟨c0, c1, c2, c3, c4, c5⟩, ⟨f0, f1, f2, f3, f4, f5⟩⟩ := blk6 hB5'
  go_upto_region 6 with (fail)
  refine put_plain hB5' ?_
  intro w6 hB6 hs6
  have hT6 : Step (fun k => base ≤ k) w w6 := hT5.same (hs6.mono (fun k _ e => by rw [e]; exact hb))
  clear c0 c1 c2 c3 c4 c5 f0 f1 f2 f3 f4 f5 hB5 hB5' hs6 hs5 hB3 hL3 hS3
  go_wp2_with fail
  go_loopw [27] (fun i wr => ∃ k : Nat, k ≤ 4 ∧ i = .int .i64 k ∧ Blk wr b 100 (cells6 (rndN k ⟨t.a, t.b, xor t.c 255, t.d⟩) (.slice A n c) cnt) ∧ Step (fun k => base ≤ k) w wr) (fun i _ => 4 - (intOf i).toNat)
  case atStart => exact ⟨0, by omega, rfl, hB6, hT6⟩
  case round =>
    obtain ⟨k, hk, rfl, hBk, hSk⟩ := hrel
    by_cases hlt4 : k < 4
    · go_wp2_with (go_at_call 76; refine (round_calls b _ _ _ _ _ hBk).mono ?_; rintro e w' ⟨rfl, hB', hS'⟩)
      go_roundw
      case rel => exact ⟨k + 1, by omega, by go_num, hB', hSk.same (hS'.mono (fun k _ e => by rw [e]; exact hb))⟩
      case measure => simp [intOf]; omega
    · obtain rfl : k = 4 := by omega
      rw [Hu.out] at hBk
      unfold cells6 at hBk
      obtain ⟨⟨c0, c1, c2, c3, c4, c5⟩, ⟨f0, f1, f2, f3, f4, f5⟩⟩ := blk6 hBk
      go_wp2
      go_quiet (fail)
      go_wp2
      go_ret
      rw [Hfin.out]
      exact ⟨rfl, (hSk.drewN nq).below (by rw [Hge.out]; exact hle1) (fun k h => h)⟩
end Go.Proofs.Ytlmppdpjjkdoaaa.Sip
