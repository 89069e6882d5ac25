/- Lemmas and walks of the texts WalkHealthEpochs, one behind the other: no condition. Own work of this seat. -/
import Derived.Test.YtghiklaeenhljaaMHealthEpochs2
import Derived.Deep.CutRange
/- The walk of stewardlaw23.HealthEpochs. Own work of this seat. -/
namespace Go.Proofs.Ytghiklaeenhljaa.Hea
open Go.RowKit Go.Proofs.Ytghiklaeenhljaa.Kit Go.Proofs.Ytghiklaeenhljaa.PStewardRamps Go.Proofs.YtghiklaeenhljaaW.PrintWords Go.Proofs.Ytghiklaeenhljaa.AgP Go.Proofs.Ytghiklaeenhljaa Go.Proofs.Ytghiklaeenhljaa.Cut
set_option linter.unusedVariables false
set_option linter.unusedSimpArgs false

set_option maxRecDepth 100000 in
set_option maxHeartbeats 8000000 in
theorem epochs_calls (d0 : Cf) (A0 : Option Addr) (c0 : Nat) (acts : List Act5) (w : World) (hr : Kd.C kAct5 w A0 acts.length acts) (hc : acts.length ≤ c0) (hg : ∀ x ∈ acts, x.f2.size ≤ 9223372036854775807) :
    Calls Try.prog 4 #[.agg #[.int .i64 d0.every, .int .i64 d0.wait, .int .i64 d0.rise, .int .i64 d0.fall], .slice A0 acts.length c0] w fun e w' => e = .returned (.bool true) ∧ Below w.heap.size w w' := by
  have hact0 : ∀ i, i < acts.length → _ := fun i hi => act_at hr i hi
  have hact := Lib.hid hact0
  have HG := Lib.hid (fun i (hi : i < acts.length) => hg (acts.getD i zAct5) (by rw [List.getD_eq_getElem?_getD, List.getElem?_eq_getElem hi]; exact List.getElem_mem hi))
  clear hact0 hr hg
  generalize acts.length = n at *
  have HCF := Lib.hid (fun w1 => config_calls d0 w1)
  have hcw := clip_wait d0
  have HN := Lib.hid (fun w1 => new_any (cfgC d0) w1)
  have hck := clipC_ok (cfgC d0)
  have hdw : 1 ≤ (cfgC d0).wait ∧ (cfgC d0).wait ≤ 16 := by show 1 ≤ 1 + d0.wait % 16 ∧ 1 + d0.wait % 16 ≤ 16; omega
  generalize clipC (cfgC d0) = c at *
  generalize cfgC d0 = d at *
  have HCW := Lib.hid hcw
  obtain ⟨de, dw, dr, df⟩ := d
  simp only at hdw HCF HN
  clear hcw
  have hmm := @run_makeMap Try.prog
  go_enter Try.func4, Try.ntmps4
  go_upto_region 1 with (fail)
  refine alloc_next (cs := [.int .i64 d0.every, .int .i64 d0.wait, .int .i64 d0.rise, .int .i64 d0.fall]) ?_
  intro w1 hE1 hs1
  obtain ⟨cb, hcbe⟩ : ∃ cb, w.heap.size = cb := ⟨_, rfl⟩
  rw [hcbe] at hE1 ⊢
  have HCB := Lib.hid hcbe
  clear hcbe
  go_upto_region 3 with (go_at_call 16; refine (awake_calls _).mono ?_; rintro e0 w2 ⟨rfl, hs2⟩)
  have hE2 := hE1.keep hs2 (fun h => h)
  have x0 := hE2.cell (i := 0) rfl
  have x1 := hE2.cell (i := 1) rfl
  have x2 := hE2.cell (i := 2) rfl
  have x3 := hE2.cell (i := 3) rfl
  have HE2 := Lib.hid hE2
  clear hE1 hE2
  go_upto_region 4 with (first | (go_at_call 17; refine (HCF.out _).mono ?_; rintro e1 w3 ⟨rfl, hs3⟩) | (refine wpList_store_blk rfl 45 (.tmp 2) (.tmp 22) rfl (HE2.out.keep hs3 (fun h => h)) rfl (vs := [.int .i64 de, .int .i64 dw, .int .i64 dr, .int .i64 df]) rfl (by kernel_rfl) rfl (fun v hv => by simp only [List.mem_cons, List.not_mem_nil, or_false] at hv; rcases hv with rfl | rfl | rfl | rfl <;> rfl) ?_; intro w4 hE4 hs4))
  have hz1 := hs1.size
  have hz2 := hs2.size
  have hz3 := hs3.size
  have hz4 := hs4.size
  have y0 := hE4.cell (i := 0) rfl
  have y1 := hE4.cell (i := 1) rfl
  have y2 := hE4.cell (i := 2) rfl
  have y3 := hE4.cell (i := 3) rfl
  have hst4 : Step (fun _ => False) w w4 := ((hs1.same hs2).same hs3).trans hs4 (fun j hj e => by have := HCB.out; omega)
  have HE4 := Lib.hid hE4
  have HST4 := Lib.hid hst4
  clear x0 x1 x2 x3 hE4 hst4 hs1 hs2 hs3 hs4 HE2
  go_upto_region 9 with (go_at_call 7; refine (HN.out _).mono ?_; rintro e1 w5 ⟨p, F, rfl, hI5, hs5, hF5⟩)
  have hJ0 : EJ w (w5.alloc (.map #[] 0)) p w5.heap.size cb F ⟨de, dw, dr, df⟩ c (fun _ => none) [] 0 0 0 (fun _ => 0) 0 0 0 0 := by
    have hst : Step (fun _ => False) w5 (w5.alloc (.map #[] 0)) := (Step.refl _ _).alloc _
    have z5 := hs5.size
    have hcl := HE4.out.lt
    have z0 := HCB.out
    have z4 := HST4.out.size
    exact ⟨hI5.same hst, mint_new w5, (HE4.out.keep hs5 (fun h => h)).keep hst (fun h => h), ⟨fun h => by have := hI5.1 _ h; omega, fun h => by have := hF5 _ h; omega, by omega⟩, ⟨fun k hk => by have := hF5 k hk; omega, by omega, by omega⟩, aj_new c, fun s h => (by cases h), fun e h => (by cases h), ⟨Nat.le_refl _, by omega⟩, (HST4.out.below (Nat.le_refl _) (fun _ h => h.elim)).trans ((hs5.same hst).below (by omega) (fun _ h => h.elim))⟩
  have hcbn : cb < w5.heap.size := by have := HE4.out.lt; have := hs5.size; omega
  generalize w5.heap.size = b at *
  generalize (w5.alloc (.map #[] 0)) = w6 at *
  clear hI5 hs5 hF5 HN HE4 HST4 HCF y0 y1 y2 y3
  go_wp2
  go_loopw [6, 8] (fun v6 v8 wr => ∃ (i : Nat) (now : Int) (F : Nat → Prop) (q : ByteArray → Option Ho) (L : List (Ev ByteArray)) (t u : Nat) (ep : Int) (k : ByteArray → Int) (m : Nat), v8 = .int .i64 (i : Int) ∧ v6 = .int .i64 now ∧ i ≤ 40 ∧ (0 ≤ now ∧ now ≤ 31 * (i : Int)) ∧ L.length ≤ i ∧ m ≤ 62 * tri i + 2 * i ∧ EJ w wr p b cb F ⟨de, dw, dr, df⟩ c q L t u ep k now m (62 * tri i + 4 * i) (31 * tri i + 2 * i)) (fun _ v _ => 40 - (intOf v).toNat)
  case atStart => exact ⟨0, 0, F, fun _ => none, [], 0, 0, 0, fun _ => 0, 0, rfl, rfl, by omega, by omega, Nat.le_refl _, by omega, hJ0⟩
  case round =>
    clear hJ0 F
    obtain ⟨i, now, F, q, L, t, u, ep, k, m, rfl, rfl, hi, hnow, hLn, hmn, hJ⟩ := hrel
    by_cases hgo : i < n ∧ i < 40
    · obtain ⟨hin, hi40⟩ := hgo
      have hin' : ((i : Int) < (n : Int)) := by omega
      have hi40' : ((i : Int) < 40) := by omega
      obtain ⟨ad, ⟨kd, nn, nm, gd⟩, rfl, hxe, hcell⟩ := hact.out i hin
      have hnsz := HG.out i hin
      rw [← hxe] at hnsz
      obtain ⟨a0, a1, a2, a3⟩ := hcell wr hJ.bel
      have HCU := Lib.hid (fun w' => cut_calls nm 12 hnsz w')
      have hssz := cutB_size nm 12
      have htri := tri_le i hi
      have htri1 : tri (i + 1) = tri i + i := rfl
      have HTRI := Lib.hid htri1
      clear hcell hxe hact HG htri1
      simp only at a0 a1 a2 a3
      generalize cutB nm 12 = s at *
      go_upto_region 13 with (fail)
      refine alloc_next (cs := [.int .i64 kd, .int .i64 nn, .string nm, .bool gd]) ?_
      intro w7 hE hs7
      have hJ7 := hJ.same hs7
      have hFb : ∀ k, F k → k < wr.heap.size := hJ.her.1
      have hbb : b < wr.heap.size := hJ.mp.lt
      have hcbb : cb < wr.heap.size := hJ.cfg.lt
      clear a0 a1 a2 a3 hJ
      obtain ⟨eb, heb⟩ : ∃ eb, wr.heap.size = eb := ⟨_, rfl⟩
      rw [heb] at hE hFb hbb hcbb ⊢
      have HEB := Lib.hid heb
      clear heb
      have e2 := hE.cell (i := 2) rfl
      go_upto_region 14 with (go_at_call 18; refine (HCU.out _).mono ?_; rintro e5 w5 ⟨rfl, rfl⟩)
      have HVW := Lib.hid (views_calls hJ7.her (by have := hJ7.cnt.1; omega) hJ7.nms)
      have HEP := Lib.hid (fun w' (hs : Step (fun _ => False) w7 w') => epoch_calls (hJ7.her.same hs))
      go_upto_region 15 with (first | (go_at_call 19; refine HVW.out.mono ?_; rintro e8 w8 ⟨B, cB, l, rfl, hNl, hVS, hBf, hs8, hlb⟩) | (go_at_call 15; refine (HEP.out _ hs8).mono ?_; rintro e9 w9 ⟨rfl, rfl⟩))
      have hJ8 := hJ7.same hs8
      have hE8 := hE.keep hs8 (fun h => h)
      have e1 := hE8.cell (i := 1) rfl
      have hbt := bits_31 nn
      have hn0 : 0 ≤ nn % 32 ∧ nn % 32 ≤ 31 := by omega
      obtain ⟨dn, hdn⟩ : ∃ dn, nn % 32 = dn := ⟨_, rfl⟩
      rw [hdn] at hbt hn0
      have hwn : IntKind.i64.wrap (now + dn) = now + dn := by rw [IntKind.wrap_i64]; omega
      have HVS := Lib.hid hVS
      have HNL := Lib.hid hNl
      have hz7 := hs7.size
      have hz8 := hs8.size
      have hebl : eb < w8.heap.size := hE8.lt
      clear hdn hVS hNl hs7 hs8 hJ7 hE e2 HVW HEP HCU
      go_upto_region 17 with (fail)
      clear hwn hbt e1
      obtain ⟨now1, hn1⟩ : ∃ x, now + dn = x := ⟨_, rfl⟩
      rw [hn1]
      have hnow1 : now ≤ now1 ∧ now1 ≤ now + 31 := by omega
      clear hn1 hn0
      have hld : load now1 L ≤ 31 * i := by
        refine Nat.le_trans (load_le (fun e he => (hJ8.tms e he).1)) ?_
        rw [Nat.mul_comm]
        exact Nat.mul_le_mul (by omega) hLn
      have hcn := hJ8.cnt
      have HRU := Lib.hid (run_calls hJ8.her now1 (by omega) (by omega) (fun e he => ⟨by have := (hJ8.tms e he).1; omega, (hJ8.tms e he).2⟩))
      go_wp2_with (go_at_call 10; refine HRU.out.mono ?_; rintro e10 w9 ⟨⟨Rq, RL, Rt, Rep, ev⟩, F9, A9, c9, u9, hR, rfl, hA9, hAf9, hI9, hu9, hep9, htm9, hs9, hn9⟩)
      obtain ⟨hAJ9, hOk9, hEp9, hEv9, hSm9, hNm9, hLe9, hEl9⟩ := run_told hck hR hJ8.aj
      have hLat9 := all_later hI9.sorted (runs_head hR)
      simp only at hA9 hI9 hu9 hep9 htm9 hAJ9 hOk9 hEp9 hEv9 hSm9 hNm9 hLe9 hEl9 hLat9
      have hz9 := hs9.size
      have hM9 := hJ8.mp.keep hs9 hJ8.sep.1
      have hC9 := hJ8.cfg.keep hs9 hJ8.sep.2.1
      have hE9 := hE8.keep hs9 (fun h => by have := hFb _ h; omega)
      have hbel9 : Below w.heap.size w w9 := hJ8.bel.trans (hs9.below hJ8.bel.size hJ8.low.1)
      have hz0 := hJ8.bel.size
      have hebw := HEB.out
      have hsep9 : ¬ F9 b ∧ ¬ F9 cb ∧ ¬ F9 eb := ⟨fun h => (hn9 _ h).elim hJ8.sep.1 (fun h => by omega), fun h => (hn9 _ h).elim hJ8.sep.2.1 (fun h => by omega), fun h => (hn9 _ h).elim (fun h => by have := hFb _ h; omega) (fun h => by omega)⟩
      have hlow9 : ∀ k, F9 k → w.heap.size ≤ k := fun k hk => (hn9 k hk).elim (hJ8.low.1 k) (fun h => by omega)
      have hevl : ev.length ≤ 62 * i := by omega
      have hVS9 := HVS.out.keep hs9 (fun k hk h => by have := hBf k hk; have := hFb k h; omega)
      have HJ8 := Lib.hid hJ8
      have HI9 := Lib.hid hI9
      have HA9 := Lib.hid hA9
      have HAJ9 := Lib.hid hAJ9
      have HOK9 := Lib.hid hOk9
      have HEP9 := Lib.hid hEp9
      have HEV9 := Lib.hid hEv9
      have HSM9 := Lib.hid hSm9
      have HNM9 := Lib.hid hNm9
      have HLAT9 := Lib.hid hLat9
      have HTM9 := Lib.hid htm9
      have HVS9 := Lib.hid hVS9
      have HBF := Lib.hid hBf
      have HAF9 := Lib.hid hAf9
      have HFB := Lib.hid hFb
      have HBL := Lib.hid (fun j (hj : blockOf B = some j) => (FSeg.lt HVS.out hj : j < w8.heap.size))
      have HN9 := Lib.hid hn9
      have HNMS := Lib.hid hJ8.nms
      have hlen0 : 0 ≤ RL.length := Nat.zero_le _
      clear HRU HVS hJ8 hI9 hA9 hAJ9 hOk9 hEp9 hEv9 hSm9 hNm9 hLat9 htm9 hVS9 hBf hAf9 hFb hs9 hn9 hE8 hR
      go_loopw [13, 58] (fun v13 v58 wq => ∃ (j m1 : Nat), v58 = .int .i64 (j : Int) ∧ v13 = .int .i64 (turned (ev.take j)) ∧ j ≤ ev.length ∧ MInt wq b m1 (evsK k (ev.take j)) ∧ m1 ≤ m + j ∧ Step (· = b) w9 wq) (fun _ v _ => ev.length - (intOf v).toNat)
      case atStart => exact ⟨0, m, rfl, rfl, Nat.zero_le _, hM9, by omega, Step.refl _ _⟩
      case round =>
        clear hM9
        obtain ⟨j, m1, rfl, rfl, hj, hMj, hm1, hsj⟩ := hrel
        by_cases hjl : j < ev.length
        · have hjl' : (j : Int) < (ev.length : Int) := by omega
          --DEV inner
          have hAj := HA9.out.keep hsj (fun k hk e => by have := (HAF9.out k hk).1; omega)
          obtain ⟨gA, rfl⟩ := FSeg.isSome hAj (by omega)
          obtain ⟨e, he⟩ : ∃ e, ev[j]? = some e := ⟨_, List.getElem?_eq_getElem hjl⟩
          obtain ⟨g0, g1, g2⟩ := evcs_at he
          have a0 := FSeg.cell hAj g0
          have a1 := FSeg.cell hAj g1
          have a2 := FSeg.cell hAj g2
          have hok := evsOk_get HOK9.out he
          obtain ⟨hen, het⟩ := HEV9.out e (List.mem_of_getElem? he)
          have hens := HNMS.out _ hen
          have hkt := evsK_take (k := k) he
          have htt := turned_take he
          have htl := turned_le (ev.take j)
          have htn := turned_nonneg (ev.take j)
          have htl2 : (ev.take j).length ≤ j := List.length_take_le _ _
          have hCj := hC9.keep hsj (fun e => by have := HJ8.out.sep.2.2; omega)
          have HKT := Lib.hid hkt
          have HTT := Lib.hid htt
          have HMJ := Lib.hid hMj
          clear hAj g0 g1 g2 he hen hkt htt hMj
          obtain ⟨ek, en, et⟩ := e
          generalize turned (ev.take j) = tn at *
          obtain ⟨tn1, htn1⟩ : ∃ x, turned (ev.take (j + 1)) = x := ⟨_, rfl⟩
          rw [htn1] at HTT
          have HTN1 := Lib.hid htn1
          clear htn1
          simp only at a0 a1 a2 hok hens het HTT
          unfold evOk at hok
          simp only at hok
          go_upto_region 20 with (fail)
          refine alloc_next (cs := [.int .i64 ek, .string en, .int .i64 et]) ?_
          intro w10 hX hs10
          have hM10 := HMJ.out.keep hs10 (fun h => h)
          have hC10 := hCj.keep hs10 (fun h => h)
          have hsj10 : Step (· = b) w9 w10 := hsj.same (hs10.mono (fun _ _ h => h.elim))
          obtain ⟨xb, hxb⟩ : ∃ xb, wr.heap.size = xb := ⟨_, rfl⟩
          rw [hxb] at hX ⊢
          have hxbb : b < xb := by have := HMJ.out.lt; omega
          have x0 := hX.cell (i := 0) rfl
          have x1 := hX.cell (i := 1) rfl
          have x2 := hX.cell (i := 2) rfl
          have hlk := mint_run hM10 hens
          have hget : ¬ (et > now1) := by omega
          have cw := hC10.cell (i := 1) rfl
          clear a0 a1 a2 hCj hxb HMJ
          by_cases k1 : ek = 1
          · subst k1
            rw [hok.1 rfl] at hlk
            have HT1 : tn1 = tn := by have := HTT.out; simpa using this
            have hw1 : IntKind.i64.wrap (1 + et) = 1 + et := by rw [IntKind.wrap_i64]; omega
            go_upto_region 30 with (refine wpList_mint_put (i := 1 + et) rfl (.tmp 73) (.tmp 75) (.tmp 78) rfl hM10 (by omega) hens (by omega) (by omega) rfl rfl rfl ?_; intro w11 hM11 hs11)
            have y2 := (hX.keep hs11 (fun e => by omega)).cell (i := 2) rfl
            have hKe : mupd (evsK k (ev.take j)) en (1 + et) = evsK k (ev.take (j + 1)) := by rw [HKT.out, evK_1 rfl]
            rw [hKe] at hM11
            clear x0 x1 x2 hlk hM10 hC10 cw hw1 hok
            go_wp2
            go_roundw
            case rel => exact ⟨j + 1, m1 + 1, by go_num, by rw [HTN1.out, HT1], by omega, hM11, by omega, hsj10.same hs11⟩
            case measure => simp [intOf]; omega
          · have q1 : (ek == 1) = false := by simp [k1]
            by_cases k2 : ek = 2
            · subst k2
              rw [hok.2 rfl, HCW.out] at hlk
              have HT1 : tn1 = tn := by have := HTT.out; simpa using this
              have hw1 : IntKind.i64.wrap (1 + et) = 1 + et := by rw [IntKind.wrap_i64]; omega
              have hw2 : IntKind.i64.wrap (1 + et - dw) = 1 + et - dw := by rw [IntKind.wrap_i64]; omega
              have hw3 : (1 + et - dw != 1 + et - dw) = false := by simp
              go_upto_region 30 with (refine wpList_mint_put (i := 0) rfl (.tmp 92) (.tmp 94) (.const (.int .i64 0)) rfl hM10 (by omega) hens (by omega) (by omega) rfl rfl rfl ?_; intro w11 hM11 hs11)
              have y2 := (hX.keep hs11 (fun e => by omega)).cell (i := 2) rfl
              have hKe : mupd (evsK k (ev.take j)) en 0 = evsK k (ev.take (j + 1)) := by rw [HKT.out, evK_2 rfl]
              rw [hKe] at hM11
              clear x0 x1 x2 hlk hM10 hC10 cw hw1 hw2 hw3 hok
              go_wp2
              go_roundw
              case rel => exact ⟨j + 1, m1 + 1, by go_num, by rw [HTN1.out, HT1], by omega, hM11, by omega, hsj10.same hs11⟩
              case measure => simp [intOf]; omega
            · have q2 : (ek == 2) = false := by simp [k2]
              have HT1 : tn1 = tn + 1 := by have := HTT.out; simpa [k1, k2] using this
              have hw1 : IntKind.i64.wrap (tn + 1) = tn + 1 := by rw [IntKind.wrap_i64]; omega
              have hKe : evsK k (ev.take j) = evsK k (ev.take (j + 1)) := by rw [HKT.out, evK_3 k1 k2]
              have HT2 := Lib.hid HT1
              have HM11 := Lib.hid (show MInt w10 b m1 (evsK k (ev.take (j + 1))) by rw [← hKe]; exact hM10)
              clear hlk hM10 hC10 cw hok hKe HT1
              go_wp2
              go_roundw
              case rel => exact ⟨j + 1, m1, by go_num, by rw [HTN1.out, HT2.out], by omega, HM11.out, by omega, hsj10⟩
              case measure => simp [intOf]; omega
          --/DEV inner
        · obtain rfl : j = ev.length := by omega
          have hge : ¬ ((ev.length : Int) < (ev.length : Int)) := by omega
          rw [List.take_of_length_le (Nat.le_refl _)] at hMj ⊢
          have htn0 := turned_nonneg ev
          have htn1 := turned_le ev
          have hJ9 : EJ w wr p b cb F9 ⟨de, dw, dr, df⟩ c Rq RL Rt u9 Rep (evsK k ev) now1 m1 (62 * tri (i + 1) + 4 * i) (31 * tri (i + 1) + 2 * i) := by
            have htr := HTRI.out
            have hne := HJ8.out.sep.2.2
            exact ⟨HI9.out.keep hsj (fun k hk e => hsep9.1 (e ▸ hk)), hMj, hC9.keep hsj (fun e => hne e.symm), ⟨hsep9.1, hsep9.2.1, hne⟩, ⟨hlow9, HJ8.out.low.2⟩, HAJ9.out, fun s h => HNMS.out s (by rw [← HNM9.out s]; exact h), fun e he => ⟨HLAT9.out e he, (HTM9.out e he).2⟩, ⟨by omega, by omega, by omega⟩, hbel9.trans (hsj.below hbel9.size (fun k e => e ▸ HJ8.out.low.2.1))⟩
          have hBl : ∀ j, blockOf B = some j → j < w9.heap.size := fun j hj => FSeg.lt HVS9.out hj
          have hE10 := hE9.keep hsj (fun e => by omega)
          have hVS10 := HVS9.out.keep hsj (fun j hj e => by have := HBF.out j hj; omega)
          have hBF9 : ∀ j, blockOf B = some j → ¬ F9 j ∧ j ≠ b := fun j hj => ⟨fun h => by have h1 := HBF.out j hj; have h2 := HBL.out j hj; exact (HN9.out j h).elim (fun h => by have := HFB.out j h; omega) (fun h => by omega), fun e => by have := HBF.out j hj; omega⟩
          have hebF : ¬ F9 eb := hsep9.2.2
          have hL9 : RL.length ≤ i := by omega
          have hm1' : m1 ≤ 62 * tri (i + 1) + 2 * i := by have := HTRI.out; omega
          have htr1 := tri_le (i + 1) (by omega)
          have hSM := HSM9.out
          have hEP := HEP9.out
          clear hMj hsj hC9 hE9 HJ8 HI9 HA9 HAJ9 HOK9 HEV9 HLAT9 HTM9 HNM9 HVS9 HAF9 HFB HNMS hlow9 hbel9 hsep9 HSM9 HEP9
          obtain ⟨tn, htn⟩ : ∃ tn, turned ev = tn := ⟨_, rfl⟩
          rw [htn] at htn0 htn1 hSM hEP ⊢
          generalize evsK k ev = k9 at *
          have HSM := Lib.hid hSM
          have HEPP := Lib.hid hEP
          clear htn hSM hEP
          have e0 := hE10.cell (i := 0) rfl
          have e3 := hE10.cell (i := 3) rfl
          have HVS10 := Lib.hid hVS10
          clear hVS10
          go_upto_region 33 with (fail)
          rename_i hKx
          have hKh := Lib.hid hKx
          clear hKx
          go_wp2
          refine hKh.out _ _ ?_
          clear hKh
          go_cut [13] from 28 to 162 (fun s13 wx => ∃ (q' : ByteArray → Option Ho) (L' : List (Ev ByteArray)) (t' u' : Nat) (ep' : Int) (k' : ByteArray → Int) (m' : Nat) (F' : Nat → Prop) (tn' : Int), s13 = .int .i64 tn' ∧ EJ w wx p b cb F' ⟨de, dw, dr, df⟩ c q' L' t' u' ep' k' now1 m' (62 * tri (i + 1) + 4 * i + 2) (31 * tri (i + 1) + 2 * i + 1) ∧ m' ≤ m1 + 1 ∧ ep' = ep + tn' ∧ (0 ≤ tn' ∧ tn' ≤ 10000) ∧ L'.length ≤ i + 1 ∧ (tn' = 0 → SameV q q') ∧ FSeg wx 39 3 B l.length cB (viewsC q l))
          case first => as_aux_lemma =>
            --DEV first
            have hs1000 : s.size ≤ 1000 := by omega
            have hcn9 := hJ9.cnt
            have hwt : IntKind.i64.wrap (tn + 1) = tn + 1 := by rw [IntKind.wrap_i64]; omega
            have HJ9 := Lib.hid hJ9
            clear hJ9
            by_cases z0 : kd = 0
            · subst z0
              cases hq : Rq s with
              | none =>
                have HA := Lib.hid (add_new HJ9.out.her (by omega) (by omega) hs1000 gd now1 hq)
                clear hq
                go_upto_region 42 with (go_at_call 8; refine HA.out.mono ?_; rintro e11 w11 ⟨F11, rfl, hI11, hs11, hn11⟩)
                have hM11 := HJ9.out.mp.keep hs11 HJ9.out.sep.1
                have HI11 := Lib.hid hI11
                clear HA hI11 e0 e3
                go_wp2_with (refine wpList_mint_put (i := 0) rfl (.tmp 134) (.tmp 135) (.const (.int .i64 0)) rfl hM11 (by omega) hs1000 (by omega) (by omega) rfl rfl rfl ?_; intro w12 hM12 hs12)
                have hlen := timL_len RL Rt s (AgStr.clipT now1 + c.every)
                go_meet
                exact ⟨_, _, _, _, _, _, _, F11, tn + 1, rfl, HJ9.out.put hck hs11 hn11 HI11.out hM12 hs12 hs1000 (by omega) (by omega), by omega, by have := HEPP.out; omega, by omega, by omega, fun h => absurd h (by omega), (HVS10.out.keep hs11 (fun j hj h => (hBF9 j hj).1 h)).keep hs12 (fun j hj e => (hBF9 j hj).2 e)⟩
              | some x =>
                have HA := Lib.hid (add_old HJ9.out.her hs1000 gd now1 hq)
                clear hq
                go_wp2_with (go_at_call 8; refine HA.out.mono ?_; rintro e11 w11 ⟨rfl, hs11⟩)
                go_meet
                exact ⟨_, _, _, _, _, _, _, F9, tn, rfl, (HJ9.out.same hs11).up (by omega) (by omega), by omega, HEPP.out, by omega, by omega, HSM.out, HVS10.out.keep hs11 (fun j hj h => h)⟩
            · have q0 : (kd == 0) = false := by simp [z0]
              by_cases z1 : kd = 1
              · subst z1
                cases hq : Rq s with
                | some x =>
                  have HA := Lib.hid (remove_some HJ9.out.her (by omega) (by omega) hs1000 hq)
                  clear hq
                  go_upto_region 46 with (go_at_call 20; refine HA.out.mono ?_; rintro e11 w11 ⟨rfl, hI11, hs11⟩)
                  have hM11 := HJ9.out.mp.keep hs11 HJ9.out.sep.1
                  have HI11 := Lib.hid hI11
                  clear HA hI11 e0 e3
                  go_wp2_with (refine wpList_mint_put (i := 0) rfl (.tmp 143) (.tmp 144) (.const (.int .i64 0)) rfl hM11 (by omega) hs1000 (by omega) (by omega) rfl rfl rfl ?_; intro w12 hM12 hs12)
                  have hlen := List.length_filter_le (fun e : Ev ByteArray => decide (e.key ≠ s)) RL
                  go_meet
                  exact ⟨_, _, _, _, _, _, _, F9, tn + 1, rfl, (HJ9.out.del hs11 HI11.out hM12 hs12).up (by omega) (by omega), by omega, by have := HEPP.out; omega, by omega, by unfold dropL; omega, fun h => absurd h (by omega), (HVS10.out.keep hs11 (fun j hj h => (hBF9 j hj).1 h)).keep hs12 (fun j hj e => (hBF9 j hj).2 e)⟩
                | none =>
                  have HA := Lib.hid (remove_none HJ9.out.her hs1000 hq)
                  clear hq
                  go_wp2_with (go_at_call 20; refine HA.out.mono ?_; rintro e11 w11 ⟨rfl, hs11⟩)
                  go_meet
                  exact ⟨_, _, _, _, _, _, _, F9, tn, rfl, (HJ9.out.same hs11).up (by omega) (by omega), by omega, HEPP.out, by omega, by omega, HSM.out, HVS10.out.keep hs11 (fun j hj h => h)⟩
              · have q1 : (kd == 1) = false := by simp [z1]
                by_cases z2 : kd = 2
                · subst z2
                  go_wp2
                  go_meet
                  exact ⟨_, _, _, _, _, _, _, F9, tn, rfl, HJ9.out.up (by omega) (by omega), by omega, HEPP.out, by omega, by omega, HSM.out, HVS10.out⟩
                · have q2 : (kd == 2) = false := by simp [z2]
                  have hwt0 : IntKind.i64.wrap (tn + 0) = tn := by rw [IntKind.wrap_i64]; omega
                  have hwt1 : IntKind.i64.wrap tn = tn := by rw [IntKind.wrap_i64]; omega
                  cases hq : Rq s with
                  | none =>
                    have HA := Lib.hid (res_none HJ9.out.her hs1000 gd now1 hq)
                    have hk0 : k9 s = 0 := HJ9.out.k0 (fun y hy => by rw [hq] at hy; cases hy)
                    clear hq
                    go_upto_region 35 with (go_at_call 12; refine HA.out.mono ?_; rintro e11 w11 ⟨rfl, hs11⟩)
                    have hM11 := HJ9.out.mp.keep hs11 (fun h => h)
                    have hlk := mint_run hM11 hs1000
                    rw [hk0] at hlk
                    have HK0 := Lib.hid hk0
                    clear HA e0 e3 hk0
                    go_upto_region 38 with (fail)
                    clear hlk
                    go_wp2_with (refine wpList_mint_put (i := 0) rfl (.tmp 122) (.tmp 123) (.const (.int .i64 0)) rfl hM11 (by omega) hs1000 (by omega) (by omega) rfl rfl rfl ?_; intro w12 hM12 hs12)
                    go_meet
                    exact ⟨_, _, _, _, _, _, _, F9, tn, rfl, (HJ9.out.put0 HK0.out hs11 hM12 hs12).up (by omega) (by omega), by omega, HEPP.out, by omega, by omega, HSM.out, (HVS10.out.keep hs11 (fun j hj h => h)).keep hs12 (fun j hj e => (hBF9 j hj).2 e)⟩
                  | some x =>
                    cases hw : x.waits with
                    | false =>
                      have HA := Lib.hid (res_idle HJ9.out.her hs1000 gd now1 hq hw)
                      have hk0 : k9 s = 0 := HJ9.out.k0 (fun y hy => by rw [hq] at hy; obtain rfl := Option.some.inj hy; exact hw)
                      clear hq
                      go_upto_region 35 with (go_at_call 12; refine HA.out.mono ?_; rintro e11 w11 ⟨rfl, hs11⟩)
                      have hM11 := HJ9.out.mp.keep hs11 (fun h => h)
                      have hlk := mint_run hM11 hs1000
                      rw [hk0] at hlk
                      have HK0 := Lib.hid hk0
                      clear HA e0 e3 hk0
                      go_upto_region 38 with (fail)
                      clear hlk
                      go_wp2_with (refine wpList_mint_put (i := 0) rfl (.tmp 122) (.tmp 123) (.const (.int .i64 0)) rfl hM11 (by omega) hs1000 (by omega) (by omega) rfl rfl rfl ?_; intro w12 hM12 hs12)
                      go_meet
                      exact ⟨_, _, _, _, _, _, _, F9, tn, rfl, (HJ9.out.put0 HK0.out hs11 hM12 hs12).up (by omega) (by omega), by omega, HEPP.out, by omega, by omega, HSM.out, (HVS10.out.keep hs11 (fun j hj h => h)).keep hs12 (fun j hj e => (hBF9 j hj).2 e)⟩
                    | true =>
                      have HA := Lib.hid (res_waits HJ9.out.her (by omega) (by omega) hs1000 gd now1 hq hw)
                      have hk1 : (k9 s != 0) = true := by simpa using HJ9.out.k1 hq hw
                      obtain ⟨hrl1, hrl2⟩ := resE_len (resP x.pb c gd (AgStr.clipT now1)) s (AgStr.clipT now1) Rep
                      rw [hrl1] at HA
                      have HSR := Lib.hid (fun (h : (resE (resP x.pb c gd (AgStr.clipT now1)) s (AgStr.clipT now1)).length = 0) => samev_res hq h)
                      obtain ⟨rl, hrl⟩ : ∃ rl, (resE (resP x.pb c gd (AgStr.clipT now1)) s (AgStr.clipT now1)).length = rl := ⟨_, rfl⟩
                      rw [hrl] at HA HSR hrl2
                      have hwt2 : IntKind.i64.wrap (tn + (rl : Int)) = tn + rl := by rw [IntKind.wrap_i64]; omega
                      clear hq hw hrl1 hrl hwt0 hwt1 hwt
                      go_upto_region 35 with (go_at_call 12; refine HA.out.mono ?_; rintro e11 w11 ⟨F11, A11, c11, rfl, hA11, hAf11, hI11, hs11, hn11⟩)
                      have hM11 := HJ9.out.mp.keep hs11 HJ9.out.sep.1
                      have hlk := mint_run hM11 hs1000
                      have HI11 := Lib.hid hI11
                      clear HA hI11 e0 e3 hA11 hAf11
                      generalize hkv : k9 s = kv at hlk hk1
                      clear hkv
                      go_upto_region 38 with (fail)
                      clear hlk
                      go_wp2_with (refine wpList_mint_put (i := 0) rfl (.tmp 122) (.tmp 123) (.const (.int .i64 0)) rfl hM11 (by omega) hs1000 (by omega) (by omega) rfl rfl rfl ?_; intro w12 hM12 hs12)
                      have hlen := timL_len RL Rt s (AgStr.clipT now1 + c.every)
                      go_meet
                      exact ⟨_, _, _, _, _, _, _, F11, tn + rl, rfl, HJ9.out.put hck hs11 hn11 HI11.out hM12 hs12 hs1000 (by omega) (by omega), by omega, by have := HEPP.out; omega, by omega, by omega, fun h => (HSM.out (by omega)).trans (HSR.out (by omega)), (HVS10.out.keep hs11 (fun j hj h => (hBF9 j hj).1 h)).keep hs12 (fun j hj e => (hBF9 j hj).2 e)⟩
            --/DEV first
          case rest => as_aux_lemma =>
            --DEV rest
            obtain ⟨q', L', t', u', ep', k', m', F', tn', rfl, hJ', hm', hep', htn', hL', hsm', hVS'⟩ := hcut
            clear hJ9 HVS10 HSM HEPP e0 e3 hE10 hBF9
            have hcn' := hJ'.cnt
            have HEPC := Lib.hid (epoch_calls hJ'.her)
            have HVW := Lib.hid (views_calls hJ'.her (by omega) hJ'.nms)
            have hwe : IntKind.i64.wrap (ep + tn') = ep + tn' := by rw [IntKind.wrap_i64]; omega
            rw [hep'] at HEPC
            have hne : (ep + tn' != ep + tn') = false := by simp
            have HEPQ := Lib.hid hep'
            have HJ' := Lib.hid hJ'
            have HSM' := Lib.hid hsm'
            have HVS' := Lib.hid hVS'
            clear hep' hJ' hsm' hVS'
            go_upto_region 50 with (go_at_call 15; refine HEPC.out.mono ?_; rintro e11 w11 ⟨rfl, rfl⟩)
            clear hwe hne HEPC
            go_upto_region 51 with (go_at_call 19; refine HVW.out.mono ?_; rintro e11 w11 ⟨B2, c2, l2, rfl, hN2, hV2, hBf2, hs11, _⟩)
            have hJ11 := HJ'.out.same hs11
            have hV11 := HVS'.out.keep hs11 (fun j hj h => h)
            have HJ11 := Lib.hid hJ11
            clear hJ11 HVW
            by_cases h0 : tn' = 0
            · subst h0
              have hsv := HSM'.out rfl
              have hll := names_eq HNL.out hN2 (fun r => (hsv.up r).2)
              have hvv := views_same HNL.out hN2 hsv
              have hln : l2.length = l.length := by rw [hll]
              rw [← hvv] at hV2
              rw [hln] at hV2 ⊢
              have HVI := Lib.hid (views_is hV11 hV2 (fun j hj => viewsC_at hj) hlb)
              clear hsv hll hvv hln hV2 hN2 hV11
              generalize l.length = ln at *
              go_wp2_with (go_at_call 21; refine HVI.out.mono ?_; rintro e12 w12 ⟨rfl, hs12⟩)
              exact ⟨⟨i + 1, now1, F', q', L', t', u', ep', k', m', by go_num, rfl, by omega, by omega, hL', by omega, (HJ11.out.same hs12).up (by omega) (by omega)⟩, by simp [intOf]; omega⟩
            · have hz : (tn' == 0) = false := by simp [h0]
              clear hN2 hV2 hV11 HSM' HVS'
              go_wp2
              exact ⟨⟨i + 1, now1, F', q', L', t', u', ep', k', m', by go_num, rfl, by omega, by omega, hL', by omega, HJ11.out.up (by omega) (by omega)⟩, by simp [intOf]; omega⟩
            --/DEV rest
    · have hB := hJ.bel
      clear hJ hact HG
      by_cases hin : i < n
      · have q1 : ((i : Int) < (n : Int)) = True := eq_true (by omega)
        have q2 : ((i : Int) < 40) = False := eq_false (by omega)
        go_wp2
        go_ret
        exact ⟨rfl, hB⟩
      · have q1 : ((i : Int) < (n : Int)) = False := eq_false (by omega)
        go_wp2
        go_ret
        exact ⟨rfl, hB⟩
end Go.Proofs.Ytghiklaeenhljaa.Hea
