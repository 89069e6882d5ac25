/- The walk of stewardtop.StewardRamps. Own work of this seat. -/
import Derived.Test.YtghiklaeenhljaaHea9
namespace Go.Proofs.Ytghiklaeenhljaa.Hea
open Go.RowKit Go.Proofs.Ytghiklaeenhljaa.Kit Go.Proofs.Ytghiklaeenhljaa.PStewardRamps Go.Proofs.YtghiklaeenhljaaW.PrintWords Go.Proofs.Ytghiklaeenhljaa.AgP Go.Proofs.Ytghiklaeenhljaa
set_option linter.unusedVariables false
set_option linter.unusedSimpArgs false
/-- Between the calls of StewardRamps. -/
structure RJ (w0 w : World) (p : Nat) (F : Nat → Prop) (tm si : Int) (up : Bool) (ep : Int) (u : Nat) : Prop where
  her : ∃ q sq t, HeR w p F cc q [⟨kA, tm, sq⟩] t u ep ∧ q kA = some ⟨⟨up, 0, 0, si⟩, false⟩
  low : ∀ k, F k → w0.heap.size ≤ k
  bel : Below w0.heap.size w0 w
theorem RJ.same {w0 w w' : World} {p : Nat} {F : Nat → Prop} {tm si : Int} {up : Bool} {ep : Int} {u : Nat} (h : RJ w0 w p F tm si up ep u) (hs : Step (fun _ => False) w w') : RJ w0 w' p F tm si up ep u := by
  obtain ⟨q, sq, t, h1, h2⟩ := h.her
  exact ⟨⟨q, sq, t, h1.same hs, h2⟩, h.low, h.bel.trans (hs.below h.bel.size (fun _ h => h.elim))⟩
theorem rV_0 {W S : Int} (h : 1 ≤ S) (x : Int) (hx : x = 0) : rV W S x = 1 := by
  subst hx
  unfold rV
  rw [if_neg (by omega), Int.mul_zero, Int.zero_tdiv]
  rfl
set_option maxRecDepth 100000 in
set_option maxHeartbeats 8000000 in
theorem ramps_calls (a0 a1 : Int) (A0 : Option Addr) (c0 : Nat) (l : List Bool) (w : World) (hr : Kd.C Kd.bool w A0 l.length l) (hc : l.length ≤ c0) :
    Calls Try.prog 3 #[.int .i64 a0, .int .i64 a1, .slice A0 l.length c0] w fun e w' => e = .returned (.bool true) ∧ Below w.heap.size w w' := by
  have hm0 := bits_1023 a0
  have hm1 := bits_63 a1
  have hW : 2 ≤ 2 + a0 % 1024 ∧ 2 + a0 % 1024 ≤ 1025 := by omega
  have hS : 1 ≤ 1 + a1 % 64 ∧ 1 + a1 % 64 ≤ 64 := by omega
  have eW : IntKind.i64.wrap (2 + a0 % 1024) = 2 + a0 % 1024 := by rw [IntKind.wrap_i64]; omega
  have eS : IntKind.i64.wrap (1 + a1 % 64) = 1 + a1 % 64 := by rw [IntKind.wrap_i64]; omega
  obtain ⟨m0, hm0e⟩ : ∃ m, a0 % 1024 = m := ⟨_, rfl⟩
  obtain ⟨m1, hm1e⟩ : ∃ m, a1 % 64 = m := ⟨_, rfl⟩
  rw [hm0e] at hm0 hW eW
  rw [hm1e] at hm1 hS eS
  clear hm0e hm1e
  have HN := Lib.hid (fun w1 => new3 w1)
  have HR := Lib.hid hr
  clear hr
  go_enter Try.func3, Try.ntmps3
  go_upto_region 2 with (fail)
  clear hm0 hm1 eW eS
  generalize 2 + m0 = W at *
  generalize 1 + m1 = S at *
  go_upto_region 3 with (go_at_call 7; refine (HN.out _).mono ?_; rintro e1 w1 ⟨p, F, rfl, hI1, hs1, hF1⟩)
  have HAD := Lib.hid (add3 hI1)
  unfold kA at HAD
  go_upto_region 5 with (go_at_call 8; refine HAD.out.mono ?_; rintro e2 w2 ⟨F2, q2, rfl, hq2, hI2, hs2, hn2⟩)
  have hJ0 : RJ w w2 p F2 3 0 false 1 2 := by
    have z1 := hs1.size
    refine ⟨⟨q2, _, _, hI2, hq2⟩, fun k hk => (hn2 k hk).elim (hF1 k) (fun h => by omega), ((Below.refl _ _).trans (hs1.below (Nat.le_refl _) (fun _ h => h.elim))).trans (hs2.below z1 (fun k h => hF1 k h))⟩
  clear hI2 hq2 hs2 hn2 HAD hI1 hs1 hF1 HN
  have HWW := Lib.hid (fun (s n : Int) (h : 0 ≤ s ∧ s ≤ n ∧ n ≤ 1000) (w : World) => ((weight_calls hW hS h.1 ⟨h.2.1, h.2.2⟩ w).mono fun e w' h => ⟨_, h.1, rfl, h.2⟩ : Calls Try.prog 14 #[.int .i64 W, .int .i64 s, .int .i64 n, .int .i64 S] w fun e w' => ∃ v, e = .returned (.int .i64 v) ∧ v = rV W S (n - s) ∧ Step (fun _ => False) w w'))
  generalize l.length = n at *
  go_wp2
  go_loopw [8, 9, 10, 11] (fun v8 v9 v10 v11 wr => ∃ (i : Nat) (F : Nat → Prop) (now si : Int) (up : Bool) (ep : Int) (u : Nat), v11 = .int .i64 (i : Int) ∧ v8 = .int .i64 now ∧ v9 = .int .i64 si ∧ v10 = .bool up ∧ i ≤ 30 ∧ now = 3 * (i : Int) ∧ (0 ≤ si ∧ si ≤ now) ∧ (1 ≤ ep ∧ ep ≤ 1 + (i : Int)) ∧ u ≤ 2 + 4 * i ∧ RJ w wr p F (now + 3) si up ep u) (fun _ _ _ v _ => 30 - (intOf v).toNat)
  case atStart => exact ⟨0, F2, 0, 0, false, 1, 2, rfl, rfl, rfl, rfl, by omega, by omega, by omega, by omega, by omega, hJ0⟩
  case round =>
    clear hJ0
    obtain ⟨i, F, now, si, up, ep, u, rfl, rfl, rfl, rfl, hi, hnow, hsi, hep, hu, hJ⟩ := hrel
    by_cases hgo : i < n ∧ i < 30
    · obtain ⟨hin, hi30⟩ := hgo
      have hin' : ((i : Int) < (n : Int)) := by omega
      have hi30' : ((i : Int) < 30) := by omega
      obtain ⟨ad, rfl, hcell⟩ := Kd.at_bool HR.out (i : Int) (by omega) (by omega)
      rw [Int.toNat_natCast] at hcell
      obtain ⟨⟨q, sq, t, hI, hq⟩, hlow, hbel⟩ := hJ
      obtain ⟨tm, htm⟩ : ∃ tm, now + 3 = tm := ⟨_, rfl⟩
      rw [htm] at hI
      have hlt : ¬ tm < now := by omega
      have HFI := Lib.hid (first3 hI (by omega))
      have HRU := Lib.hid (run3 hI (by omega) (by omega) (by omega) hq)
      clear hI hq
      generalize rdOf false l (i : Int) = g at *
      go_upto_region 14 with (first | (go_at_call 9; refine HFI.out.mono ?_; rintro e3 w3 ⟨rfl, rfl⟩) | (go_at_call 10; refine HRU.out.mono ?_; rintro e4 w4 ⟨F4, A4, c4, q4, sq4, t4, u4, rfl, hA4, hq4, hI4, hu4, hs4, hn4⟩))
      have hb4 : Below w.heap.size w w4 := hbel.trans (hs4.below hbel.size hlow)
      have hz4 := hs4.size
      have hlow4 : ∀ k, F4 k → w.heap.size ≤ k := fun k hk => (hn4 k hk).elim (hlow k) (fun h => by have := hbel.size; omega)
      obtain ⟨gb, rfl⟩ := FSeg.isSome (n := 1) (k := 3) (T := 33) (cs := evcs [⟨1, kA, tm⟩]) (c := c4) (w := w4) hA4 (by omega)
      have e0 : w4.cell? ⟨gb, 0, none⟩ = some (.int .i64 1) := FSeg.cell (n := 1) (k := 3) (T := 33) (cs := evcs [⟨1, kA, tm⟩]) (c := c4) hA4 (j := 0) rfl
      have HCL := Lib.hid (fun w' (hb : Below w.heap.size w w') => cell_later hb hcell)
      have HWA := Lib.hid (waits3 hI4 hq4)
      have HRS := Lib.hid (res3 (tm := tm) hI4 (by omega) (by omega) (by omega) hq4 g)
      unfold kA at HWA HRS
      have hc4 := HCL.out _ hb4
      clear hA4 hI4 hq4 hs4 hn4 HFI HRU hcell
      go_upto_region 16 with (go_at_call 11; refine HWA.out.mono ?_; rintro e5 w5 ⟨rfl, rfl⟩)
      clear e0 HWA
      have hsj : (if g = up then si else tm) = si ∨ (if g = up then si else tm) = tm := by split <;> simp
      cases g <;> cases up
      all_goals simp only [if_true, Bool.false_eq_true, Bool.true_eq_false, reduceCtorEq, if_false] at HRS
      all_goals
        go_upto_region 17 with (go_at_call 12; refine HRS.out.mono ?_; rintro e6 w6 ⟨F6, A6, c6, q6, t6, ep6, rfl, hq6, hI6, hep6, hs6, hn6⟩)
        have hb6 : Below w.heap.size w w6 := hb4.trans (hs6.below hb4.size hlow4)
        have hlow6 : ∀ k, F6 k → w.heap.size ≤ k := fun k hk => (hn6 k hk).elim (hlow4 k) (fun h => by have := hb4.size; omega)
        have hc6 := HCL.out _ hb6
        clear hs6 hn6 HRS hc4 hb4 hlow4
        go_upto_region 21 with (fail)
        clear hc6 HCL
        have HUP := Lib.hid (up3 hI6 hq6)
        unfold kA at HUP
        go_upto_region 22 with (go_at_call 13; refine HUP.out.mono ?_; rintro e7 w7 ⟨rfl, hs7⟩)
      all_goals
        refine alloc_next (cs := [.string ⟨#[97]⟩, .bool _, .int .i64 _]) ?_
        intro w8 hV hs8
        have v1 := hV.cell (i := 1) rfl
        have v2 := hV.cell (i := 2) rfl
        have hs68 := hs7.same hs8
        have hI8 := hI6.same hs68
        have hb8 : Below w.heap.size w w8 := hb6.trans (hs68.below hb6.size (fun _ h => h.elim))
        clear hs7 hs8 hs68 hI6 hb6 HUP
        generalize w7.heap.size = vb at *
        have HI8 := Lib.hid hI8
        clear hI8
        go_upto_region 24 with (fail)
      · have hp0 : 0 ≤ W * (tm - si) := Int.mul_nonneg (by omega) (by omega)
        have hp1 : W * (tm - si) ≤ 1025 * 1000 := Int.mul_le_mul (by omega) (by omega) (by omega) (by omega)
        go_upto_region 25 with (fail)
        obtain ⟨mv, hmv⟩ : ∃ mv, (if 1 < W * (tm - si) / S then W * (tm - si) / S else 1) = mv := ⟨_, rfl⟩
        rw [hmv]
        have hdv : Int.tdiv (W * (tm - si)) S = W * (tm - si) / S := Int.tdiv_eq_ediv_of_nonneg hp0
        have H2 : 0 ≤ si ∧ si ≤ si ∧ si ≤ 1000 ∧ rV W S (si - si) = 1 := ⟨by omega, by omega, by omega, rV_0 hS.1 _ (by omega)⟩
        have H3 : 0 ≤ si ∧ si ≤ si + S ∧ si + S ≤ 1000 ∧ rV W S (si + S - si) = W := ⟨by omega, by omega, by omega, if_pos (by omega)⟩
        by_cases hsd : S ≤ tm - si
        · have H1 : 0 ≤ si ∧ si ≤ tm ∧ tm ≤ 1000 ∧ rV W S (tm - si) = W := ⟨by omega, by omega, by omega, if_pos hsd⟩
          clear hmv hdv hp0 hp1
          go_wp2_with (go_at_call 14; refine (HWW.out _ _ (by omega) _).mono ?_; rintro e9 w9 ⟨v9, rfl, hv9, hs9⟩; (first | (with_reducible have hv9' := (hv9.trans H1.2.2.2).symm) | (with_reducible have hv9' := (hv9.trans H2.2.2.2).symm) | (with_reducible have hv9' := (hv9.trans H3.2.2.2).symm)); clear hv9; subst hv9'; replace hV := hV.keep hs9 (fun h => h); replace v2 := hV.cell (i := 2) rfl; replace hb8 := hb8.trans (hs9.below hb8.size (fun _ h => h.elim)); replace HI8 := Lib.hid (HI8.out.same hs9); clear hs9)
          go_roundw
          case rel => exact ⟨i + 1, F6, tm, si, false, ep6, u4 + 2, by first | rfl | simp, rfl, rfl, rfl, by omega, by omega, by omega, by omega, by omega, ⟨⟨q6, _, t6, HI8.out, hq6⟩, hlow6, hb8⟩⟩
          case measure =>
            simp only [intOf]
            omega
        · have H1 : 0 ≤ si ∧ si ≤ tm ∧ tm ≤ 1000 ∧ rV W S (tm - si) = mv := ⟨by omega, by omega, by omega, by unfold rV; rw [if_neg hsd, hdv]; exact hmv⟩
          clear hmv hdv hp0 hp1
          go_wp2_with (go_at_call 14; refine (HWW.out _ _ (by omega) _).mono ?_; rintro e9 w9 ⟨v9, rfl, hv9, hs9⟩; (first | (with_reducible have hv9' := (hv9.trans H1.2.2.2).symm) | (with_reducible have hv9' := (hv9.trans H2.2.2.2).symm) | (with_reducible have hv9' := (hv9.trans H3.2.2.2).symm)); clear hv9; subst hv9'; replace hV := hV.keep hs9 (fun h => h); replace v2 := hV.cell (i := 2) rfl; replace hb8 := hb8.trans (hs9.below hb8.size (fun _ h => h.elim)); replace HI8 := Lib.hid (HI8.out.same hs9); clear hs9)
          go_roundw
          case rel => exact ⟨i + 1, F6, tm, si, false, ep6, u4 + 2, by first | rfl | simp, rfl, rfl, rfl, by omega, by omega, by omega, by omega, by omega, ⟨⟨q6, _, t6, HI8.out, hq6⟩, hlow6, hb8⟩⟩
          case measure =>
            simp only [intOf]
            omega
      · have hSn : ¬ S ≤ 0 := by omega
        have hSn2 : ¬ S ≤ tm - tm := by omega
        have H1 : 0 ≤ tm ∧ tm ≤ tm ∧ tm ≤ 1000 ∧ rV W S (tm - tm) = 1 := ⟨by omega, by omega, by omega, rV_0 hS.1 _ (by omega)⟩
        have H2 := H1
        have H3 : 0 ≤ tm ∧ tm ≤ tm + S ∧ tm + S ≤ 1000 ∧ rV W S (tm + S - tm) = W := ⟨by omega, by omega, by omega, if_pos (by omega)⟩
        go_wp2_with (go_at_call 14; refine (HWW.out _ _ (by omega) _).mono ?_; rintro e9 w9 ⟨v9, rfl, hv9, hs9⟩; (first | (with_reducible have hv9' := (hv9.trans H1.2.2.2).symm) | (with_reducible have hv9' := (hv9.trans H2.2.2.2).symm) | (with_reducible have hv9' := (hv9.trans H3.2.2.2).symm)); clear hv9; subst hv9'; replace hV := hV.keep hs9 (fun h => h); replace v2 := hV.cell (i := 2) rfl; replace hb8 := hb8.trans (hs9.below hb8.size (fun _ h => h.elim)); replace HI8 := Lib.hid (HI8.out.same hs9); clear hs9)
        go_roundw
        case rel => exact ⟨i + 1, F6, tm, tm, false, ep6, u4 + 2, by first | rfl | simp, rfl, rfl, rfl, by omega, by omega, by omega, by omega, by omega, ⟨⟨q6, _, t6, HI8.out, hq6⟩, hlow6, hb8⟩⟩
        case measure =>
          simp only [intOf]
          omega
      · have hSn : ¬ S ≤ 0 := by omega
        have hSn2 : ¬ S ≤ tm - tm := by omega
        have H1 : 0 ≤ tm ∧ tm ≤ tm ∧ tm ≤ 1000 ∧ rV W S (tm - tm) = 1 := ⟨by omega, by omega, by omega, rV_0 hS.1 _ (by omega)⟩
        have H2 := H1
        have H3 : 0 ≤ tm ∧ tm ≤ tm + S ∧ tm + S ≤ 1000 ∧ rV W S (tm + S - tm) = W := ⟨by omega, by omega, by omega, if_pos (by omega)⟩
        go_wp2_with (go_at_call 14; refine (HWW.out _ _ (by omega) _).mono ?_; rintro e9 w9 ⟨v9, rfl, hv9, hs9⟩; (first | (with_reducible have hv9' := (hv9.trans H1.2.2.2).symm) | (with_reducible have hv9' := (hv9.trans H2.2.2.2).symm) | (with_reducible have hv9' := (hv9.trans H3.2.2.2).symm)); clear hv9; subst hv9'; replace hV := hV.keep hs9 (fun h => h); replace v2 := hV.cell (i := 2) rfl; replace hb8 := hb8.trans (hs9.below hb8.size (fun _ h => h.elim)); replace HI8 := Lib.hid (HI8.out.same hs9); clear hs9)
        go_roundw
        case rel => exact ⟨i + 1, F6, tm, tm, true, ep6, u4 + 2, by first | rfl | simp, rfl, rfl, rfl, by omega, by omega, by omega, by omega, by omega, ⟨⟨q6, _, t6, HI8.out, hq6⟩, hlow6, hb8⟩⟩
        case measure =>
          simp only [intOf]
          omega
      · have hp0 : 0 ≤ W * (tm - si) := Int.mul_nonneg (by omega) (by omega)
        have hp1 : W * (tm - si) ≤ 1025 * 1000 := Int.mul_le_mul (by omega) (by omega) (by omega) (by omega)
        go_upto_region 25 with (fail)
        obtain ⟨mv, hmv⟩ : ∃ mv, (if 1 < W * (tm - si) / S then W * (tm - si) / S else 1) = mv := ⟨_, rfl⟩
        rw [hmv]
        have hdv : Int.tdiv (W * (tm - si)) S = W * (tm - si) / S := Int.tdiv_eq_ediv_of_nonneg hp0
        have H2 : 0 ≤ si ∧ si ≤ si ∧ si ≤ 1000 ∧ rV W S (si - si) = 1 := ⟨by omega, by omega, by omega, rV_0 hS.1 _ (by omega)⟩
        have H3 : 0 ≤ si ∧ si ≤ si + S ∧ si + S ≤ 1000 ∧ rV W S (si + S - si) = W := ⟨by omega, by omega, by omega, if_pos (by omega)⟩
        by_cases hsd : S ≤ tm - si
        · have H1 : 0 ≤ si ∧ si ≤ tm ∧ tm ≤ 1000 ∧ rV W S (tm - si) = W := ⟨by omega, by omega, by omega, if_pos hsd⟩
          clear hmv hdv hp0 hp1
          go_wp2_with (go_at_call 14; refine (HWW.out _ _ (by omega) _).mono ?_; rintro e9 w9 ⟨v9, rfl, hv9, hs9⟩; (first | (with_reducible have hv9' := (hv9.trans H1.2.2.2).symm) | (with_reducible have hv9' := (hv9.trans H2.2.2.2).symm) | (with_reducible have hv9' := (hv9.trans H3.2.2.2).symm)); clear hv9; subst hv9'; replace hV := hV.keep hs9 (fun h => h); replace v2 := hV.cell (i := 2) rfl; replace hb8 := hb8.trans (hs9.below hb8.size (fun _ h => h.elim)); replace HI8 := Lib.hid (HI8.out.same hs9); clear hs9)
          go_roundw
          case rel => exact ⟨i + 1, F6, tm, si, true, ep6, u4 + 2, by first | rfl | simp, rfl, rfl, rfl, by omega, by omega, by omega, by omega, by omega, ⟨⟨q6, _, t6, HI8.out, hq6⟩, hlow6, hb8⟩⟩
          case measure =>
            simp only [intOf]
            omega
        · have H1 : 0 ≤ si ∧ si ≤ tm ∧ tm ≤ 1000 ∧ rV W S (tm - si) = mv := ⟨by omega, by omega, by omega, by unfold rV; rw [if_neg hsd, hdv]; exact hmv⟩
          clear hmv hdv hp0 hp1
          go_wp2_with (go_at_call 14; refine (HWW.out _ _ (by omega) _).mono ?_; rintro e9 w9 ⟨v9, rfl, hv9, hs9⟩; (first | (with_reducible have hv9' := (hv9.trans H1.2.2.2).symm) | (with_reducible have hv9' := (hv9.trans H2.2.2.2).symm) | (with_reducible have hv9' := (hv9.trans H3.2.2.2).symm)); clear hv9; subst hv9'; replace hV := hV.keep hs9 (fun h => h); replace v2 := hV.cell (i := 2) rfl; replace hb8 := hb8.trans (hs9.below hb8.size (fun _ h => h.elim)); replace HI8 := Lib.hid (HI8.out.same hs9); clear hs9)
          go_roundw
          case rel => exact ⟨i + 1, F6, tm, si, true, ep6, u4 + 2, by first | rfl | simp, rfl, rfl, rfl, by omega, by omega, by omega, by omega, by omega, ⟨⟨q6, _, t6, HI8.out, hq6⟩, hlow6, hb8⟩⟩
          case measure =>
            simp only [intOf]
            omega
    · obtain ⟨⟨q, sq, t, hI, hq⟩, hlow, hbel⟩ := hJ
      have HEP := Lib.hid (epoch_calls hI)
      have hep1 : 1 ≤ ep := hep.1
      clear hI hq HWW HR
      by_cases hin : i < n
      · have hin' : ((i : Int) < (n : Int)) := by omega
        have hi30' : ¬ ((i : Int) < 30) := by omega
        go_wp2_with (go_at_call 15; refine HEP.out.mono ?_; rintro e3 w3 ⟨rfl, rfl⟩)
        go_ret
        exact ⟨rfl, hbel⟩
      · have hin' : ¬ ((i : Int) < (n : Int)) := by omega
        go_wp2_with (go_at_call 15; refine HEP.out.mono ?_; rintro e3 w3 ⟨rfl, rfl⟩)
        go_ret
        exact ⟨rfl, hbel⟩
end Go.Proofs.Ytghiklaeenhljaa.Hea
