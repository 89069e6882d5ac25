/- The walk of stewardlaw01.SiphashParts. Own work of this seat. -/
import Derived.Test.YtlmppdpjjkdoaaaSip9
import Derived.Deep.RegionHeld3
import Derived.Deep.MidRow
namespace Go.Proofs.Ytlmppdpjjkdoaaa.Sip
open Go.RowKit Go.Proofs.Ytlmppdpjjkdoaaa.Kit Go.Proofs.Ytlmppdpjjkdoaaa.PSiphashSums Go.Proofs.YtlmppdpjjkdoaaaW.PrintWords Go.Proofs.YtlmppdpjjkdoaaaW.PrintLast Go.Proofs.YtlmppdpjjkdoaaaW.PrintMore
set_option linter.unusedVariables false
set_option linter.unusedSimpArgs false

theorem catB_take_le (l : List ByteArray) (k : Nat) : (catB (l.take k)).size ≤ (catB l).size := by
  rw [catB_size, catB_size]
  induction l generalizing k with
  | nil => simp
  | cons t l ih =>
    cases k with
    | zero => simp [total]
    | succ k => have := ih k; simp only [List.take_succ_cons, total]; omega

set_option maxRecDepth 100000 in
set_option maxHeartbeats 4000000 in
theorem parts_calls (key : List UInt8) (hkl : key.length = 16) (A0 : Option Addr) (c0' : Nat) (l0 : List ByteArray) (w : World) (hr0 : Kd.C Kd.string w A0 l0.length l0) (hc0' : l0.length ≤ c0') :
    Calls Try.prog 14 #[.agg (bcells key).toArray, .slice A0 l0.length c0'] w fun e w' => e = .returned (.bool true) ∧ Below w.heap.size w w' := by
  go_enter Try.func14, Try.ntmps14
  go_upto_region 1 with (fail)
  refine alloc_next ?_
  intro w1 hK1 hs1
  have hr1 := Kd.C_below hr0 (Step.below (F := fun _ => False) hs1 (Nat.le_refl _) (fun _ h => h.elim))
  generalize hkbe : w.heap.size = kb at hK1 ⊢
  have Hkb := Lib.hid hkbe
  clear hkbe
  go_wp2_with fail
  refine (awake_calls _).mono ?_
  rintro e w2 ⟨rfl, hb2⟩
  have hr2 := Kd.C_below hr1 hb2
  go_wp2_with fail
  refine (few_calls A0 c0' l0 12 40 (by omega) _ hr2 hc0').mono ?_
  rintro e w3 ⟨A, c, rfl, hc, hr3, hb3⟩
  have hll : (fewB l0 12 40).length ≤ 12 := by simp [fewB]; omega
  have hlt := few_total 12 40 l0
  generalize fewB l0 12 40 = l at *
  have hS0 : Step (fun _ => False) w1 w3 := (Step.of_below hb2).then_below hb3
  have hS : Step (fun _ => False) w w3 := hs1.same hS0
  have hK := hK1.keep hS0 (fun h => h)
  clear hb2 hb3 hS0 hs1 hK1 hr1 hr2 hr0
  go_wp2_with fail
  go_loopw [5, 7, 15] (fun a _ i wr => ∃ k : Nat, k ≤ l.length ∧ i = .int .i64 k ∧ a = .string (catB (l.take k)) ∧ wr = w3) (fun _ _ i _ => l.length - (intOf i).toNat)
  case atStart => exact ⟨0, by omega, rfl, rfl, rfl⟩
  case round =>
    obtain ⟨k, hkl2, rfl, rfl, rfl⟩ := hrel
    by_cases hlt2 : k < l.length
    · obtain ⟨ad, e, hcell⟩ := Kd.at_string hr3 (k : Int) (by omega) (by omega)
      subst e
      have hrd : rdOf ByteArray.empty l (k : Int) = l[k] := by simp [rdOf, hlt2]
      rw [hrd, Int.toNat_natCast] at hcell
      have htk := List.take_succ_eq_append_getElem hlt2
      have hcat : catB (l.take (k + 1)) = catB (l.take k) ++ l[k] := by rw [htk, catB_snoc]
      have hsz : (catB (l.take (k + 1))).size ≤ 480 := by have := catB_take_le l (k + 1); rw [catB_size l] at this; omega
      have hadd : ∀ wx, (Op.stringOp .add (catB (l.take k)) l[k]).run Try.prog wx = .ok (.string (catB (l.take (k + 1)))) wx := fun wx => by
        rw [hcat, ByteArray.size_append] at hsz
        rw [run_string_add, ← hcat]
        · omega
        · omega
      have Hcat := Lib.hid hcat
      clear hcat htk hrd hsz
      generalize l[k] = t at *
      generalize hct2 : catB (l.take (k + 1)) = t2 at *
      have Hct2 := Lib.hid hct2
      clear hct2
      generalize catB (l.take k) = t1 at *
      go_wp2
      go_roundw
      case rel => exact ⟨k + 1, by omega, by go_num, by rw [Hct2.out], by first | trivial | rfl⟩
      case measure => simp [intOf]; omega
    · obtain rfl : k = l.length := by omega
      rw [List.take_length]
      have h12 := catB_size l
      generalize hct : catB l = all at *
      have Hct := Lib.hid hct
      clear hct
      have hgl : (bcells key).length = 16 := by rw [bcells, List.length_map, hkl]
      obtain ⟨wg, hst, hG, hSg0⟩ := store_row (P := Try.prog) (wr.alloc (.cells ([.int .u8 0, .int .u8 0, .int .u8 0, .int .u8 0, .int .u8 0, .int .u8 0, .int .u8 0, .int .u8 0, .int .u8 0, .int .u8 0, .int .u8 0, .int .u8 0, .int .u8 0, .int .u8 0, .int .u8 0, .int .u8 0] : List Value).toArray 77)) (blk_new wr [.int .u8 0, .int .u8 0, .int .u8 0, .int .u8 0, .int .u8 0, .int .u8 0, .int .u8 0, .int .u8 0, .int .u8 0, .int .u8 0, .int .u8 0, .int .u8 0, .int .u8 0, .int .u8 0, .int .u8 0, .int .u8 0] 77) (cs := bcells key) (by rw [hgl]; rfl) bcells_one
      have hSg : Step (fun _ => False) wr wg := ((Step.refl (fun _ => False) wr).alloc _).trans hSg0 (fun k hk e => by omega)
      go_upto_region 11 with (refine wpList_load_row rfl 74 _ rfl kb rfl 74 _ (0, 0) _ hK Try.underlying74 rfl (by rw [show (bcells key).toArray.size = 16 by simp [bcells, hkl]]; kernel_rfl) ?_)
      generalize wr.heap.size = g at *
      clear hst hSg0
      obtain ⟨S, hSe⟩ : ∃ S, sumOf key l = S := ⟨_, rfl⟩
      obtain ⟨S0, hS0e⟩ : ∃ S0, sumOf key [] = S0 := ⟨_, rfl⟩
      have hSall : sumOf key [all] = S := by rw [← hSe, sumOf_cat key l, Hct.out]
      have hSe0 : sumOf key [(⟨#[]⟩ : ByteArray)] = S0 := by rw [← hS0e, sumOf_cat key []]; rfl
      have HA : ∀ (W : World), Step (fun _ => False) wg W → Calls Try.prog 47 #[.agg (bcells key).toArray, .slice A l.length c] W fun e w' => e = .returned (.int .u64 S) ∧ Below W.heap.size W w' := fun W h => by
        rw [← hSe]
        exact sum_calls key hkl A c l W (Kd.C_below (Kd.C_below hr3 (hSg.below (Nat.le_refl _) (fun _ h => h.elim))) (h.below (Nat.le_refl _) (fun _ h => h.elim))) hc (by omega)
      have HB : ∀ (W : World) (p : Nat) (T : TypeId), Blk W p T [.string all] → Calls Try.prog 47 #[.agg (bcells key).toArray, .slice (some ⟨p, 0, none⟩) 1 1] W fun e w' => e = .returned (.int .u64 S) ∧ Below W.heap.size W w' := fun W p T h => by
        rw [← hSall]
        exact sum_calls key hkl (some ⟨p, 0, none⟩) 1 [all] W (strs1 h) (by simp) (by simp [total]; omega)
      have HN : ∀ (W : World), Calls Try.prog 47 #[.agg (bcells key).toArray, .slice none 0 0] W fun e w' => e = .returned (.int .u64 S0) ∧ Below W.heap.size W w' := fun W => by
        rw [← hS0e]
        exact sum_calls key hkl none 0 [] W ⟨rfl, by simp, fun h => absurd h (by simp)⟩ (by simp) (by simp [total])
      have HE : ∀ (W : World) (p : Nat) (T : TypeId), Blk W p T [.string ⟨#[]⟩] → Calls Try.prog 47 #[.agg (bcells key).toArray, .slice (some ⟨p, 0, none⟩) 1 1] W fun e w' => e = .returned (.int .u64 S0) ∧ Below W.heap.size W w' := fun W p T h => by
        rw [← hSe0]
        exact sum_calls key hkl (some ⟨p, 0, none⟩) 1 [(⟨#[]⟩ : ByteArray)] W (strs1 h) (by simp) (by simp [total]; decide)
      have HA := Lib.hid HA
      have HB := Lib.hid HB
      have HN := Lib.hid HN
      have HE := Lib.hid HE
      clear hSe hS0e hSall hSe0 h12
      have hu := Try.underlying77
      have hif : (Try.prog.info? 77).map (·.size) = some (bcells key).length := by rw [hgl]; kernel_rfl
      have hrng : ∀ W, Step (fun _ => False) wg W → Step (fun _ => False) wg W ∧ W.rangeAt g 0 (bcells key) := fun W h => ⟨h, fun j v hv => by
        rw [Nat.zero_add]; exact (hG.keep h (fun h => h)).cell hv⟩
      have Hrng := Lib.hid hrng
      clear hrng
      refine wp_region_noPanic ?_
      refine wp_region_held_drew (S := fun W => Step (fun _ => False) wg W ∧ W.rangeAt g 0 (bcells key)) (by kernel_rfl) (Hrng.out _ (Step.refl _ _).drew) (fun hHeld => ?_)
      refine wpAnyH_take (i := 1) (v := ?_) rfl (by kernel_rfl) (by kernel_rfl) (by kernel_rfl) (fun _ _ _ h => h) (Or.inl ⟨by rfl, ?_⟩) (by assumption) ?_
      rotate_left
      · intro w hSw; go_simp; try with_reducible rfl
      try simp only [Act.put, List.setIfInBounds_toArray, List.set_cons_zero, List.set_cons_succ]
      refine wpAnyH_take (i := 4) (v := ?_) rfl (by kernel_rfl) (by kernel_rfl) (by kernel_rfl) (fun _ _ _ h => h) (Or.inl ⟨by rfl, ?_⟩) (by assumption) ?_
      rotate_left
      · intro w hSw; go_simp; try with_reducible rfl
      try simp only [Act.put, List.setIfInBounds_toArray, List.set_cons_zero, List.set_cons_succ]
      refine wpAnyH_take (i := 0) rfl (by kernel_rfl) (by kernel_rfl) (by kernel_rfl) (fun _ _ _ h => h) (yieldsIf_load_mid (by rfl) _ _ rfl _ _ rfl _ _ (fun _ h => h.2) (by assumption) rfl (by assumption)) (by assumption) ?_
      try simp only [Act.put, List.setIfInBounds_toArray, List.set_cons_zero, List.set_cons_succ]
      refine wpAnyH_take (i := 3) rfl (by kernel_rfl) (by kernel_rfl) (by kernel_rfl) (fun _ _ _ h => h) (yieldsIf_load_mid (by rfl) _ _ rfl _ _ rfl _ _ (fun _ h => h.2) (by assumption) rfl (by assumption)) (by assumption) ?_
      try simp only [Act.put, List.setIfInBounds_toArray, List.set_cons_zero, List.set_cons_succ]
      refine wpAnyH_ready (rs := [2, 5]) (by kernel_rfl) (by simp) ?_
      refine AllReadyH.cons rfl (fun K hK => ?_) (AllReadyH.cons rfl (fun K hK => ?_) AllReadyH.nil)
      · go_simp
        go_at_call 47
        refine (HA.out _ hHeld.1).mono ?_
        rintro e w5 ⟨rfl, hb5⟩
        dsimp only
        refine hK.out _ _ (Hrng.out _ (hHeld.1.then_below hb5)) (fun hHeld => ?_)
        clear hK K
        try simp only [Act.put, List.setIfInBounds_toArray, List.set_cons_zero, List.set_cons_succ]
        refine wpAnyH_ready (rs := [5]) (by kernel_rfl) (by simp) ?_
        refine AllReadyH.cons rfl (fun K hK => ?_) AllReadyH.nil
        go_simp
        refine hK.out _ _ (Hrng.out _ (hHeld.1.alloc _)) (fun hHeld => ?_)
        clear hK K
        try simp only [Act.put, List.setIfInBounds_toArray, List.set_cons_zero, List.set_cons_succ]
        have hx := blk_new w5 [.string all] 9
        refine wpAnyH_ready (rs := [6]) (by kernel_rfl) (by simp) ?_
        refine AllReadyH.cons rfl (fun K hK => ?_) AllReadyH.nil
        go_simp
        go_at_call 47
        refine (HB.out _ _ _ hx).mono ?_
        rintro e w6 ⟨rfl, hb6⟩
        dsimp only
        refine hK.out _ _ (Hrng.out _ (hHeld.1.then_below hb6)) (fun hHeld => ?_)
        clear hK K
        try simp only [Act.put, List.setIfInBounds_toArray, List.set_cons_zero, List.set_cons_succ]
        clear hx
        refine wpAnyH_take (i := 7) (v := ?_) rfl (by kernel_rfl) (by kernel_rfl) (by kernel_rfl) (fun _ _ _ h => h) (Or.inl ⟨by rfl, ?_⟩) (by assumption) ?_
        rotate_left
        · intro w hSw; go_simp; try with_reducible rfl
        try simp only [Act.put, List.setIfInBounds_toArray, List.set_cons_zero, List.set_cons_succ]
        refine wpAnyH_take (i := 8) (v := ?_) rfl (by kernel_rfl) (by kernel_rfl) (by kernel_rfl) (fun _ _ _ h => h) (Or.inl ⟨by rfl, ?_⟩) (by assumption) ?_
        rotate_left
        · intro w hSw; go_simp; try with_reducible rfl
        try simp only [Act.put, List.setIfInBounds_toArray, List.set_cons_zero, List.set_cons_succ]
        refine wpAnyH_take (i := 9) rfl (by kernel_rfl) (by kernel_rfl) (by kernel_rfl) (fun _ _ _ h => h) (yieldsIf_load_mid (by rfl) _ _ rfl _ _ rfl _ _ (fun _ h => h.2) (by assumption) rfl (by assumption)) (by assumption) ?_
        try simp only [Act.put, List.setIfInBounds_toArray, List.set_cons_zero, List.set_cons_succ]
        refine wpAnyH_take (i := 11) rfl (by kernel_rfl) (by kernel_rfl) (by kernel_rfl) (fun _ _ _ h => h) (yieldsIf_load_mid (by rfl) _ _ rfl _ _ rfl _ _ (fun _ h => h.2) (by assumption) rfl (by assumption)) (by assumption) ?_
        try simp only [Act.put, List.setIfInBounds_toArray, List.set_cons_zero, List.set_cons_succ]
        refine wpAnyH_ready (rs := [10, 12]) (by kernel_rfl) (by simp) ?_
        refine AllReadyH.cons rfl (fun K hK => ?_) (AllReadyH.cons rfl (fun K hK => ?_) AllReadyH.nil)
        · go_simp
          go_at_call 47
          refine (HN.out _).mono ?_
          rintro e w7 ⟨rfl, hb7⟩
          dsimp only
          refine hK.out _ _ (Hrng.out _ (hHeld.1.then_below hb7)) (fun hHeld => ?_)
          clear hK K
          try simp only [Act.put, List.setIfInBounds_toArray, List.set_cons_zero, List.set_cons_succ]
          refine wpAnyH_ready (rs := [12]) (by kernel_rfl) (by simp) ?_
          refine AllReadyH.cons rfl (fun K hK => ?_) AllReadyH.nil
          go_simp
          refine hK.out _ _ (Hrng.out _ (hHeld.1.alloc _)) (fun hHeld => ?_)
          clear hK K
          try simp only [Act.put, List.setIfInBounds_toArray, List.set_cons_zero, List.set_cons_succ]
          have hx := blk_new w7 [.string ⟨#[]⟩] 9
          refine wpAnyH_ready (rs := [13]) (by kernel_rfl) (by simp) ?_
          refine AllReadyH.cons rfl (fun K hK => ?_) AllReadyH.nil
          go_simp
          go_at_call 47
          refine (HE.out _ _ _ hx).mono ?_
          rintro e w8 ⟨rfl, hb8⟩
          dsimp only
          refine hK.out _ _ (Hrng.out _ (hHeld.1.then_below hb8)) (fun hHeld => ?_)
          clear hK K
          try simp only [Act.put, List.setIfInBounds_toArray, List.set_cons_zero, List.set_cons_succ]
          clear hx
          refine wpAnyH_take (i := 14) (v := ?_) rfl (by kernel_rfl) (by kernel_rfl) (by kernel_rfl) (fun _ _ _ h => h) (Or.inl ⟨by rfl, ?_⟩) (by assumption) ?_
          rotate_left
          · intro w hSw; go_simp; try with_reducible rfl
          try simp only [Act.put, List.setIfInBounds_toArray, List.set_cons_zero, List.set_cons_succ]
          refine wpAnyH_take (i := 15) (v := ?_) rfl (by kernel_rfl) (by kernel_rfl) (by kernel_rfl) (fun _ _ _ h => h) (Or.inl ⟨by rfl, ?_⟩) (by assumption) ?_
          rotate_left
          · intro w hSw; go_simp; try with_reducible rfl
          try simp only [Act.put, List.setIfInBounds_toArray, List.set_cons_zero, List.set_cons_succ]
          refine wpAnyH_ready (rs := [16]) (by kernel_rfl) (by simp) ?_
          refine AllReadyH.cons rfl (fun K hK => ?_) AllReadyH.nil
          go_simp
          refine hK.out _ _ hHeld (fun hHeld => ?_)
          clear hK K
          try simp only [Act.put, List.setIfInBounds_toArray, List.set_cons_zero, List.set_cons_succ]
          refine wpAnyH_done (by kernel_rfl) ?_ _
          refine NoPanic.normal ?_
          go_wp2
          go_ret
          exact ⟨rfl, ((hS.same hSg).same hHeld.1).below (by rw [Hkb.out]; exact Nat.le_refl _) (fun _ h => h.elim)⟩
        · go_simp
          refine hK.out _ _ (Hrng.out _ (hHeld.1.alloc _)) (fun hHeld => ?_)
          clear hK K
          try simp only [Act.put, List.setIfInBounds_toArray, List.set_cons_zero, List.set_cons_succ]
          refine wpAnyH_ready (rs := [10]) (by kernel_rfl) (by simp) ?_
          refine AllReadyH.cons rfl (fun K hK => ?_) AllReadyH.nil
          go_simp
          go_at_call 47
          refine (HN.out _).mono ?_
          rintro e w7 ⟨rfl, hb7⟩
          dsimp only
          refine hK.out _ _ (Hrng.out _ (hHeld.1.then_below hb7)) (fun hHeld => ?_)
          clear hK K
          try simp only [Act.put, List.setIfInBounds_toArray, List.set_cons_zero, List.set_cons_succ]
          have hx := (blk_new w6 [.string ⟨#[]⟩] 9).keep (Step.of_below (F := fun _ => False) hb7) (fun h => h)
          refine wpAnyH_ready (rs := [13]) (by kernel_rfl) (by simp) ?_
          refine AllReadyH.cons rfl (fun K hK => ?_) AllReadyH.nil
          go_simp
          go_at_call 47
          refine (HE.out _ _ _ hx).mono ?_
          rintro e w8 ⟨rfl, hb8⟩
          dsimp only
          refine hK.out _ _ (Hrng.out _ (hHeld.1.then_below hb8)) (fun hHeld => ?_)
          clear hK K
          try simp only [Act.put, List.setIfInBounds_toArray, List.set_cons_zero, List.set_cons_succ]
          clear hx
          refine wpAnyH_take (i := 14) (v := ?_) rfl (by kernel_rfl) (by kernel_rfl) (by kernel_rfl) (fun _ _ _ h => h) (Or.inl ⟨by rfl, ?_⟩) (by assumption) ?_
          rotate_left
          · intro w hSw; go_simp; try with_reducible rfl
          try simp only [Act.put, List.setIfInBounds_toArray, List.set_cons_zero, List.set_cons_succ]
          refine wpAnyH_take (i := 15) (v := ?_) rfl (by kernel_rfl) (by kernel_rfl) (by kernel_rfl) (fun _ _ _ h => h) (Or.inl ⟨by rfl, ?_⟩) (by assumption) ?_
          rotate_left
          · intro w hSw; go_simp; try with_reducible rfl
          try simp only [Act.put, List.setIfInBounds_toArray, List.set_cons_zero, List.set_cons_succ]
          refine wpAnyH_ready (rs := [16]) (by kernel_rfl) (by simp) ?_
          refine AllReadyH.cons rfl (fun K hK => ?_) AllReadyH.nil
          go_simp
          refine hK.out _ _ hHeld (fun hHeld => ?_)
          clear hK K
          try simp only [Act.put, List.setIfInBounds_toArray, List.set_cons_zero, List.set_cons_succ]
          refine wpAnyH_done (by kernel_rfl) ?_ _
          refine NoPanic.normal ?_
          go_wp2
          go_ret
          exact ⟨rfl, ((hS.same hSg).same hHeld.1).below (by rw [Hkb.out]; exact Nat.le_refl _) (fun _ h => h.elim)⟩
      · go_simp
        refine hK.out _ _ (Hrng.out _ ((Step.refl _ _).alloc _).drew) (fun hHeld => ?_)
        clear hK K
        try simp only [Act.put, List.setIfInBounds_toArray, List.set_cons_zero, List.set_cons_succ]
        refine wpAnyH_ready (rs := [2]) (by kernel_rfl) (by simp) ?_
        refine AllReadyH.cons rfl (fun K hK => ?_) AllReadyH.nil
        go_simp
        go_at_call 47
        refine (HA.out _ hHeld.1).mono ?_
        rintro e w5 ⟨rfl, hb5⟩
        dsimp only
        refine hK.out _ _ (Hrng.out _ (hHeld.1.then_below hb5)) (fun hHeld => ?_)
        clear hK K
        try simp only [Act.put, List.setIfInBounds_toArray, List.set_cons_zero, List.set_cons_succ]
        have hx := (blk_new wg [.string all] 9).drew.keep (Step.of_below (F := fun _ => False) hb5) (fun h => h)
        refine wpAnyH_ready (rs := [6]) (by kernel_rfl) (by simp) ?_
        refine AllReadyH.cons rfl (fun K hK => ?_) AllReadyH.nil
        go_simp
        go_at_call 47
        refine (HB.out _ _ _ hx).mono ?_
        rintro e w6 ⟨rfl, hb6⟩
        dsimp only
        refine hK.out _ _ (Hrng.out _ (hHeld.1.then_below hb6)) (fun hHeld => ?_)
        clear hK K
        try simp only [Act.put, List.setIfInBounds_toArray, List.set_cons_zero, List.set_cons_succ]
        clear hx
        refine wpAnyH_take (i := 7) (v := ?_) rfl (by kernel_rfl) (by kernel_rfl) (by kernel_rfl) (fun _ _ _ h => h) (Or.inl ⟨by rfl, ?_⟩) (by assumption) ?_
        rotate_left
        · intro w hSw; go_simp; try with_reducible rfl
        try simp only [Act.put, List.setIfInBounds_toArray, List.set_cons_zero, List.set_cons_succ]
        refine wpAnyH_take (i := 8) (v := ?_) rfl (by kernel_rfl) (by kernel_rfl) (by kernel_rfl) (fun _ _ _ h => h) (Or.inl ⟨by rfl, ?_⟩) (by assumption) ?_
        rotate_left
        · intro w hSw; go_simp; try with_reducible rfl
        try simp only [Act.put, List.setIfInBounds_toArray, List.set_cons_zero, List.set_cons_succ]
        refine wpAnyH_take (i := 9) rfl (by kernel_rfl) (by kernel_rfl) (by kernel_rfl) (fun _ _ _ h => h) (yieldsIf_load_mid (by rfl) _ _ rfl _ _ rfl _ _ (fun _ h => h.2) (by assumption) rfl (by assumption)) (by assumption) ?_
        try simp only [Act.put, List.setIfInBounds_toArray, List.set_cons_zero, List.set_cons_succ]
        refine wpAnyH_take (i := 11) rfl (by kernel_rfl) (by kernel_rfl) (by kernel_rfl) (fun _ _ _ h => h) (yieldsIf_load_mid (by rfl) _ _ rfl _ _ rfl _ _ (fun _ h => h.2) (by assumption) rfl (by assumption)) (by assumption) ?_
        try simp only [Act.put, List.setIfInBounds_toArray, List.set_cons_zero, List.set_cons_succ]
        refine wpAnyH_ready (rs := [10, 12]) (by kernel_rfl) (by simp) ?_
        refine AllReadyH.cons rfl (fun K hK => ?_) (AllReadyH.cons rfl (fun K hK => ?_) AllReadyH.nil)
        · go_simp
          go_at_call 47
          refine (HN.out _).mono ?_
          rintro e w7 ⟨rfl, hb7⟩
          dsimp only
          refine hK.out _ _ (Hrng.out _ (hHeld.1.then_below hb7)) (fun hHeld => ?_)
          clear hK K
          try simp only [Act.put, List.setIfInBounds_toArray, List.set_cons_zero, List.set_cons_succ]
          refine wpAnyH_ready (rs := [12]) (by kernel_rfl) (by simp) ?_
          refine AllReadyH.cons rfl (fun K hK => ?_) AllReadyH.nil
          go_simp
          refine hK.out _ _ (Hrng.out _ (hHeld.1.alloc _)) (fun hHeld => ?_)
          clear hK K
          try simp only [Act.put, List.setIfInBounds_toArray, List.set_cons_zero, List.set_cons_succ]
          have hx := blk_new w7 [.string ⟨#[]⟩] 9
          refine wpAnyH_ready (rs := [13]) (by kernel_rfl) (by simp) ?_
          refine AllReadyH.cons rfl (fun K hK => ?_) AllReadyH.nil
          go_simp
          go_at_call 47
          refine (HE.out _ _ _ hx).mono ?_
          rintro e w8 ⟨rfl, hb8⟩
          dsimp only
          refine hK.out _ _ (Hrng.out _ (hHeld.1.then_below hb8)) (fun hHeld => ?_)
          clear hK K
          try simp only [Act.put, List.setIfInBounds_toArray, List.set_cons_zero, List.set_cons_succ]
          clear hx
          refine wpAnyH_take (i := 14) (v := ?_) rfl (by kernel_rfl) (by kernel_rfl) (by kernel_rfl) (fun _ _ _ h => h) (Or.inl ⟨by rfl, ?_⟩) (by assumption) ?_
          rotate_left
          · intro w hSw; go_simp; try with_reducible rfl
          try simp only [Act.put, List.setIfInBounds_toArray, List.set_cons_zero, List.set_cons_succ]
          refine wpAnyH_take (i := 15) (v := ?_) rfl (by kernel_rfl) (by kernel_rfl) (by kernel_rfl) (fun _ _ _ h => h) (Or.inl ⟨by rfl, ?_⟩) (by assumption) ?_
          rotate_left
          · intro w hSw; go_simp; try with_reducible rfl
          try simp only [Act.put, List.setIfInBounds_toArray, List.set_cons_zero, List.set_cons_succ]
          refine wpAnyH_ready (rs := [16]) (by kernel_rfl) (by simp) ?_
          refine AllReadyH.cons rfl (fun K hK => ?_) AllReadyH.nil
          go_simp
          refine hK.out _ _ hHeld (fun hHeld => ?_)
          clear hK K
          try simp only [Act.put, List.setIfInBounds_toArray, List.set_cons_zero, List.set_cons_succ]
          refine wpAnyH_done (by kernel_rfl) ?_ _
          refine NoPanic.normal ?_
          go_wp2
          go_ret
          exact ⟨rfl, ((hS.same hSg).same hHeld.1).below (by rw [Hkb.out]; exact Nat.le_refl _) (fun _ h => h.elim)⟩
        · go_simp
          refine hK.out _ _ (Hrng.out _ (hHeld.1.alloc _)) (fun hHeld => ?_)
          clear hK K
          try simp only [Act.put, List.setIfInBounds_toArray, List.set_cons_zero, List.set_cons_succ]
          refine wpAnyH_ready (rs := [10]) (by kernel_rfl) (by simp) ?_
          refine AllReadyH.cons rfl (fun K hK => ?_) AllReadyH.nil
          go_simp
          go_at_call 47
          refine (HN.out _).mono ?_
          rintro e w7 ⟨rfl, hb7⟩
          dsimp only
          refine hK.out _ _ (Hrng.out _ (hHeld.1.then_below hb7)) (fun hHeld => ?_)
          clear hK K
          try simp only [Act.put, List.setIfInBounds_toArray, List.set_cons_zero, List.set_cons_succ]
          have hx := (blk_new w6 [.string ⟨#[]⟩] 9).keep (Step.of_below (F := fun _ => False) hb7) (fun h => h)
          refine wpAnyH_ready (rs := [13]) (by kernel_rfl) (by simp) ?_
          refine AllReadyH.cons rfl (fun K hK => ?_) AllReadyH.nil
          go_simp
          go_at_call 47
          refine (HE.out _ _ _ hx).mono ?_
          rintro e w8 ⟨rfl, hb8⟩
          dsimp only
          refine hK.out _ _ (Hrng.out _ (hHeld.1.then_below hb8)) (fun hHeld => ?_)
          clear hK K
          try simp only [Act.put, List.setIfInBounds_toArray, List.set_cons_zero, List.set_cons_succ]
          clear hx
          refine wpAnyH_take (i := 14) (v := ?_) rfl (by kernel_rfl) (by kernel_rfl) (by kernel_rfl) (fun _ _ _ h => h) (Or.inl ⟨by rfl, ?_⟩) (by assumption) ?_
          rotate_left
          · intro w hSw; go_simp; try with_reducible rfl
          try simp only [Act.put, List.setIfInBounds_toArray, List.set_cons_zero, List.set_cons_succ]
          refine wpAnyH_take (i := 15) (v := ?_) rfl (by kernel_rfl) (by kernel_rfl) (by kernel_rfl) (fun _ _ _ h => h) (Or.inl ⟨by rfl, ?_⟩) (by assumption) ?_
          rotate_left
          · intro w hSw; go_simp; try with_reducible rfl
          try simp only [Act.put, List.setIfInBounds_toArray, List.set_cons_zero, List.set_cons_succ]
          refine wpAnyH_ready (rs := [16]) (by kernel_rfl) (by simp) ?_
          refine AllReadyH.cons rfl (fun K hK => ?_) AllReadyH.nil
          go_simp
          refine hK.out _ _ hHeld (fun hHeld => ?_)
          clear hK K
          try simp only [Act.put, List.setIfInBounds_toArray, List.set_cons_zero, List.set_cons_succ]
          refine wpAnyH_done (by kernel_rfl) ?_ _
          refine NoPanic.normal ?_
          go_wp2
          go_ret
          exact ⟨rfl, ((hS.same hSg).same hHeld.1).below (by rw [Hkb.out]; exact Nat.le_refl _) (fun _ h => h.elim)⟩
end Go.Proofs.Ytlmppdpjjkdoaaa.Sip
