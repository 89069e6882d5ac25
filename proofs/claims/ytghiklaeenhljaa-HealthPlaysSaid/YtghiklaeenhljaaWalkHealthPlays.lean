/- The walk of stewardlaw23.HealthPlays. Own work of this seat. -/
import Derived.Test.YtghiklaeenhljaaHeP0
namespace Go.Proofs.Ytghiklaeenhljaa.HeD
open Go.RowKit Go.Proofs.Ytghiklaeenhljaa.Kit Go.Proofs.Ytghiklaeenhljaa.It Go.Proofs.Ytghiklaeenhljaa.Hea Go.Proofs.Ytghiklaeenhljaa.AgP Go.Proofs.Ytghiklaeenhljaa.Cut Go.Proofs.YtghiklaeenhljaaW.PrintWords Go.Proofs.Ytghiklaeenhljaa
set_option linter.unusedVariables false
set_option linter.unusedSimpArgs false

set_option maxRecDepth 100000 in
set_option maxHeartbeats 8000000 in
theorem plays_calls (d0 : Cf) (start : Int) (A0 : Option Addr) (c0 : Nat) (acts : List Act5) (w : World) (hr : Kd.C kAct5 w A0 acts.length acts) (hc : acts.length ≤ c0) (hg : ∀ x ∈ acts, x.f2.size ≤ 9223372036854775807) :
    Calls Try.prog 5 #[.agg #[.int .i64 d0.every, .int .i64 d0.wait, .int .i64 d0.rise, .int .i64 d0.fall], .int .i64 start, .slice A0 acts.length c0] w fun e w' => e = .returned (.bool true) ∧ Below w.heap.size w w' := by
  have hact := Lib.hid (fun i (hi : i < acts.length) => act_at hr i hi)
  have HG := Lib.hid (fun i (hi : i < acts.length) => hg (acts.getD i zAct5) (by rw [List.getD_eq_getElem?_getD, List.getElem?_eq_getElem hi]; exact List.getElem_mem hi))
  clear hr hg
  generalize acts.length = n at *
  have HCF := Lib.hid (fun w1 => config_calls d0 w1)
  have HN := Lib.hid (fun w1 => new_any (cfgC d0) w1)
  have HDN := Lib.hid (fun w1 => dnew_calls (cfgC d0) w1)
  have hck := clipC_ok (cfgC d0)
  generalize clipC (cfgC d0) = c at *
  generalize cfgC d0 = d at *
  obtain ⟨de, dw, dr, df⟩ := d
  obtain ⟨ce, cw, cr, cf⟩ := c
  simp only at HCF HN HDN
  obtain ⟨nw, hnw⟩ : ∃ x : Int, max 0 (min start 1099511627776) = x := ⟨_, rfl⟩
  have hnw0 : 0 ≤ nw ∧ nw ≤ 1099511627776 := by omega
  go_enter Try.func5, Try.ntmps5
  go_upto_region 1 with (fail)
  refine alloc_next (cs := [.int .i64 d0.every, .int .i64 d0.wait, .int .i64 d0.rise, .int .i64 d0.fall]) ?_
  intro w1 hE1 hs1
  obtain ⟨cb, hcbe⟩ : ∃ cb, w.heap.size = cb := ⟨_, rfl⟩
  rw [hcbe] at hE1 ⊢
  have HCB := Lib.hid hcbe
  clear hcbe
  go_upto_region 3 with (go_at_call 16; refine (awake_calls _).mono ?_; rintro e0 w2 ⟨rfl, hs2⟩)
  have hE2 := hE1.keep hs2 (fun h => h)
  have x0 := hE2.cell (i := 0) rfl
  have x1 := hE2.cell (i := 1) rfl
  have x2 := hE2.cell (i := 2) rfl
  have x3 := hE2.cell (i := 3) rfl
  have HE2 := Lib.hid hE2
  clear hE1 hE2
  go_upto_region 4 with (first | (go_at_call 17; refine (HCF.out _).mono ?_; rintro e1 w3 ⟨rfl, hs3⟩) | (refine wpList_store_blk rfl 45 (.tmp 3) (.tmp 15) rfl (HE2.out.keep hs3 (fun h => h)) rfl (vs := [.int .i64 de, .int .i64 dw, .int .i64 dr, .int .i64 df]) rfl (by kernel_rfl) rfl (cell4i _ _ _ _) ?_; intro w4 hE4 hs4))
  have hz1 := hs1.size
  have hz2 := hs2.size
  have hz3 := hs3.size
  have hz4 := hs4.size
  have hst4 : Step (fun _ => False) w w4 := ((hs1.same hs2).same hs3).trans hs4 (fun j hj e => by have := HCB.out; omega)
  have hzst := hst4.size
  have hcl := hE4.lt
  have HSX := Lib.hid (fun w' (hs : Step (fun _ => False) w4 w') => (⟨(hE4.keep hs (fun h => h)).cell (i := 0) rfl, (hE4.keep hs (fun h => h)).cell (i := 1) rfl, (hE4.keep hs (fun h => h)).cell (i := 2) rfl, (hE4.keep hs (fun h => h)).cell (i := 3) rfl⟩ : w'.cell? ⟨cb, 0, none⟩ = some (.int .i64 de) ∧ w'.cell? ⟨cb, 1, none⟩ = some (.int .i64 dw) ∧ w'.cell? ⟨cb, 2, none⟩ = some (.int .i64 dr) ∧ w'.cell? ⟨cb, 3, none⟩ = some (.int .i64 df)))
  have hq0 : Step (fun _ => False) w4 w4.drew := (Step.refl _ _).drew
  have HST4 := Lib.hid hst4
  have hzb : ∀ (u : World) (o : Obj), (u.alloc o).drew.heap.size = u.heap.size + 1 := fun u o => by show (u.heap.push _).size = _; simp
  have y0 := hE4.cell (i := 0) rfl
  have y1 := hE4.cell (i := 1) rfl
  have y2 := hE4.cell (i := 2) rfl
  have y3 := hE4.cell (i := 3) rfl
  clear x0 x1 x2 x3 hE4 hst4 hs1 hs2 hs3 hs4 HE2 hz1 hz2 hz3 hz4
  simp only [Act.put, List.getElem_toArray, List.getElem_cons_zero, List.getElem_cons_succ, List.setIfInBounds_toArray, List.set_cons_zero, List.set_cons_succ]
  go_region_held3 (fun w' => w'.cell? ⟨cb, 0, none⟩ = some (.int .i64 de) ∧ w'.cell? ⟨cb, 1, none⟩ = some (.int .i64 dw) ∧ w'.cell? ⟨cb, 2, none⟩ = some (.int .i64 dr) ∧ w'.cell? ⟨cb, 3, none⟩ = some (.int .i64 df))
    (first
      | with_reducible exact HSX.out _ hq6
      | with_reducible exact HSX.out _ (hq6.alloc _)
      | with_reducible exact HSX.out _ hq5
      | with_reducible exact HSX.out _ (hq5.alloc _)
      | with_reducible exact HSX.out _ hq0
      | with_reducible exact HSX.out _ (hq0.alloc _)
      | (with_reducible refine HSX.out _ ?_; with_reducible refine Step.setCell7 ?_ ?_ _ _ _ _ _ _ _; with_reducible (first | exact hq6 | exact hq6.alloc _); intro h; omega)
      | (with_reducible refine HSX.out _ ?_; with_reducible (first | exact ((Step.refl _ w4).alloc _).drew | exact hq5.alloc _ | exact hq6.alloc _))
      | fail)
    (first
      | (go_at_call 7; refine (HN.out _).mono ?_; rintro e5 w5 ⟨p, F, rfl, hI5, hs5, hF5⟩; have hq5 : Step (fun _ => False) w4 w5 := (by first | with_reducible exact hq0.same hs5 | with_reducible exact (((Step.refl _ w4).alloc _).drew).same hs5); have hz5 := hq5.size; try (have hY5 : Blk w5 w4.heap.size 60 [.int .i64 0, .int .i64 0, .int .i64 0, .int .i64 0, .slice none 0 0, .slice none 0 0, .int .i64 0] := (by with_reducible exact ((blk_new w4 [.int .i64 0, .int .i64 0, .int .i64 0, .int .i64 0, .slice none 0 0, .slice none 0 0, .int .i64 0] 60).drew).keep hs5 (fun h => h))))
      | (go_at_call 22; refine (HDN.out _).mono ?_; rintro e6 w6 ⟨rfl, hs6⟩; have hq6 : Step (fun _ => False) w4 w6 := (by first | with_reducible exact hq5.same hs6 | with_reducible exact (hq5.alloc _).same hs6); have hz6 := hq6.size; first | (have hY6 : Blk w6 w4.heap.size 60 [.int .i64 0, .int .i64 0, .int .i64 0, .int .i64 0, .slice none 0 0, .slice none 0 0, .int .i64 0] := (by with_reducible exact hY5.keep hs6 (fun h => h)); obtain ⟨yb, hyb⟩ : ∃ yb, w4.heap.size = yb := ⟨_, rfl⟩; have hyl : w4.heap.size ≤ yb := (by omega); have hyF : ¬ F yb := (fun h => by have := hF5 _ h; rw [hzb] at this; omega); rw [hyb] at hY6 ⊢; clear hyb hY5; have r0 := hY6.cell (i := 0) rfl; have r1 := hY6.cell (i := 1) rfl; have r2 := hY6.cell (i := 2) rfl; have r3 := hY6.cell (i := 3) rfl; have r4 := hY6.cell (i := 4) rfl; have r5 := hY6.cell (i := 5) rfl; have r6 := hY6.cell (i := 6) rfl; have f0 := hY6.free 0; have f1 := hY6.free 1; have f2 := hY6.free 2; have f3 := hY6.free 3; have f4 := hY6.free 4; have f5 := hY6.free 5; have f6 := hY6.free 6) | (have hY6 : Blk w6 w5.heap.size 60 [.int .i64 0, .int .i64 0, .int .i64 0, .int .i64 0, .slice none 0 0, .slice none 0 0, .int .i64 0] := (by with_reducible exact (blk_new w5 [.int .i64 0, .int .i64 0, .int .i64 0, .int .i64 0, .slice none 0 0, .slice none 0 0, .int .i64 0] 60).keep hs6 (fun h => h)); obtain ⟨yb, hyb⟩ : ∃ yb, w5.heap.size = yb := ⟨_, rfl⟩; have hyl : w4.heap.size ≤ yb := (by omega); have hyF : ¬ F yb := (fun h => by have := hI5.1 _ h; omega); rw [hyb] at hY6 ⊢; clear hyb; have r0 := hY6.cell (i := 0) rfl; have r1 := hY6.cell (i := 1) rfl; have r2 := hY6.cell (i := 2) rfl; have r3 := hY6.cell (i := 3) rfl; have r4 := hY6.cell (i := 4) rfl; have r5 := hY6.cell (i := 5) rfl; have r6 := hY6.cell (i := 6) rfl; have f0 := hY6.free 0; have f1 := hY6.free 1; have f2 := hY6.free 2; have f3 := hY6.free 3; have f4 := hY6.free 4; have f5 := hY6.free 5; have f6 := hY6.free 6) | skip))
  all_goals
    go_upto_region 5 with (fail)
    have hzst2 := HST4.out.size
    have hz4 : w4.drew.heap.size = w4.heap.size := rfl
    have hI6 : HeR w6 p F ⟨ce, cw, cr, cf⟩ (fun _ => none) [] 0 0 0 := (by first | with_reducible exact hI5.same hs6 | with_reducible exact hI5.same (((Step.refl _ w5).alloc _).same hs6))
    have hF5l : ∀ k, F k → k < w5.heap.size := hI5.1
    have hF6l : ∀ k, F k → k < w6.heap.size := hI6.1
    have hFl : ∀ k, F k → w.heap.size ≤ k := fun k hk => by have := hF5 k hk; first | omega | (rw [hzb] at this; omega)
    have H7 : ∀ w7 xb, Blk w7 xb 60 (Xc ⟨ce, cw, cr, cf⟩ none 0 0 none 0 0 0) → Step (· = xb) w6 w7 → ¬ F xb → w4.heap.size ≤ xb → HJ w w7 xb p F ⟨ce, cw, cr, cf⟩ (fun _ => none) [] 0 0 0 none 0 [] none 0 0 nw := fun w7 xb hX hs h1 h2 =>
      hj_new (hI6.keep hs (fun k hk e => h1 (e ▸ hk))) hX hFl (by omega) h1 ((HST4.out.same hq6).trans hs (fun j hj e => by have : j = xb := e; omega)) _
    have H7 := Lib.hid H7
    have HF5 := Lib.hid hF5
    first
    | (with_reducible refine alloc_next (cs := [.int .i64 ce, .int .i64 cw, .int .i64 cr, .int .i64 cf, .slice none 0 0, .slice none 0 0, .int .i64 0]) ?_
       intro w7 hX hs7
       have hJ0 := H7.out w7 w6.heap.size hX (hs7.mono (fun _ _ h => h.elim)) (fun h => by have := hF6l _ h; omega) (by omega)
       generalize w6.heap.size = yb at *)
    | (obtain ⟨hX, hsX⟩ := put7 hY6 (Value.int IntKind.i64 ce) (Value.int IntKind.i64 cw) (Value.int IntKind.i64 cr) (Value.int IntKind.i64 cf) (Value.slice none 0 0) (Value.slice none 0 0) (Value.int IntKind.i64 0)
       have hJ0 := H7.out _ yb hX hsX hyF hyl
       generalize (((((((w6.setCell ⟨yb, 0, none⟩ (Value.int IntKind.i64 ce)).setCell ⟨yb, 1, none⟩ (Value.int IntKind.i64 cw)).setCell ⟨yb, 2, none⟩ (Value.int IntKind.i64 cr)).setCell ⟨yb, 3, none⟩ (Value.int IntKind.i64 cf)).setCell ⟨yb, 4, none⟩ (Value.slice none 0 0)).setCell ⟨yb, 5, none⟩ (Value.slice none 0 0)).setCell ⟨yb, 6, none⟩ (Value.int IntKind.i64 0)) = w7 at *)
    have HJ0 := Lib.hid hJ0
    clear hJ0 HCF HN HDN HSX
    clear hs5 hs6 hI5 hI6 hF5 hFl hF5l hF6l H7 HF5 HST4 hq5 hq6 hq0 hzb hz4
    go_wp2
    clear hnw
    go_loopw [9, 10, 11] (fun v9 v10 v11 wr => ∃ (i : Nat) (now : Int) (b : Bool) (F : Nat → Prop) (q : ByteArray → Option Ho) (L : List (Ev ByteArray)) (t u : Nat) (ep : Int) (A : Option Addr) (cA : Nat) (l : List Oe) (B : Option Addr) (cB : Nat), v11 = .int .i64 (i : Int) ∧ v9 = .int .i64 now ∧ v10 = .bool b ∧ i ≤ 40 ∧ (0 ≤ now ∧ now ≤ 1099511627776) ∧ HJ w wr yb p F ⟨ce, cw, cr, cf⟩ q L t u ep A cA l B cB i now) (fun _ _ v _ => 40 - (intOf v).toNat)
    case atStart => exact ⟨0, nw, false, F, _, [], 0, 0, 0, none, 0, [], none, 0, rfl, rfl, rfl, by omega, hnw0, HJ0.out⟩
    case round =>
      clear HJ0
      obtain ⟨i, now, b, F, q, L, t, u, ep, A, cA, l, B, cB, rfl, rfl, rfl, hi, hnow, hJ⟩ := hrel
      by_cases hgo : i < n ∧ i < 40
      · obtain ⟨hin, hi40⟩ := hgo
        have hin' : ((i : Int) < (n : Int)) := by omega
        have hi40' : ((i : Int) < 40) := by omega
        obtain ⟨ad, ⟨kd, nn, nm, gd⟩, rfl, hxe, hcell⟩ := hact.out i hin
        have hnsz := HG.out i hin
        rw [← hxe] at hnsz
        obtain ⟨a0, a1, a2, a3⟩ := hcell wr hJ.bel
        simp only at a0 a1 a2 a3 hnsz
        have hbt := bits_31 nn
        have hm0 : 0 ≤ nn % 32 ∧ nn % 32 ≤ 31 := by omega
        obtain ⟨dn, hdn⟩ : ∃ dn, nn % 32 = dn := ⟨_, rfl⟩
        rw [hdn] at hbt hm0
        have hwn : IntKind.i64.wrap (now + dn) = now + dn := by rw [IntKind.wrap_i64]; omega
        clear hdn hcell hxe
        go_upto_region 13 with (fail)
        clear hbt hwn
        obtain ⟨now1, hn1⟩ : ∃ x : Int, min (now + dn) 1099511627776 = x := ⟨_, rfl⟩
        have hnow1 : now ≤ now1 ∧ now1 ≤ now + 31 ∧ 0 ≤ now1 ∧ now1 ≤ 1099511627776 := by omega
        rw [hn1]
        clear hn1 hm0
        have HDO := Lib.hid (fun wd (hd : wd = wr.drew) => by subst hd; exact (do_calls (hJ.bo.same ((Step.refl _ _).drew)) kd nn nm gd hnsz now1 (hJ.small hi (by omega) (by omega))))
        have HJ := Lib.hid hJ
        have y0 := hJ.xx.cell (i := 0) rfl
        have y1 := hJ.xx.cell (i := 1) rfl
        have y2 := hJ.xx.cell (i := 2) rfl
        have y3 := hJ.xx.cell (i := 3) rfl
        have y4 := hJ.xx.cell (i := 4) rfl
        have y5 := hJ.xx.cell (i := 5) rfl
        have y6 := hJ.xx.cell (i := 6) rfl
        clear hJ
        obtain ⟨ll, hll⟩ : ∃ ll, l.length = ll := ⟨_, rfl⟩
        obtain ⟨lL, hlL⟩ : ∃ lL, L.length = lL := ⟨_, rfl⟩
        rw [hll] at y4 HDO
        rw [hlL] at y5 HDO
        clear hll hlL
        simp only at HDO
        go_region_with (go_at_call 23; refine (HDO.out _ rfl).mono ?_; rintro e3 w3 ⟨F3, q3, L3, t3, u3, ep3, A3, cA3, l3, B3, cB3, rfl, hB3, hs3', hn3, hA3, hb3, hG3⟩; have hs3 : Step F wr w3 := ((Step.refl F wr).drew).same hs3'; have hX3 := HJ.out.xx.keep hs3 HJ.out.sep.1; clear y0 y1 y2 y3 y4 y5 y6; have r0 := hX3.cell (i := 0) rfl; have r1 := hX3.cell (i := 1) rfl; have r2 := hX3.cell (i := 2) rfl; have r3 := hX3.cell (i := 3) rfl; have r4 := hX3.cell (i := 4) rfl; have r5 := hX3.cell (i := 5) rfl; have r6 := hX3.cell (i := 6) rfl; have f0 := hX3.free 0; have f1 := hX3.free 1; have f2 := hX3.free 2; have f3 := hX3.free 3; have f4 := hX3.free 4; have f5 := hX3.free 5; have f6 := hX3.free 6)
        all_goals
          obtain ⟨hZ, hsZ⟩ := put7 hX3 (Value.int IntKind.i64 ce) (Value.int IntKind.i64 cw) (Value.int IntKind.i64 cr) (Value.int IntKind.i64 cf) (Value.slice A3 l3.length cA3) (Value.slice B3 L3.length cB3) (Value.int IntKind.i64 ep3)
          have hJ4 := HJ.out.next (by omega) (by omega) (by omega) (by omega) hB3 hs3 hn3 hA3 hb3 hG3 hZ hsZ
          generalize (((((((w3.setCell ⟨yb, 0, none⟩ (Value.int IntKind.i64 ce)).setCell ⟨yb, 1, none⟩ (Value.int IntKind.i64 cw)).setCell ⟨yb, 2, none⟩ (Value.int IntKind.i64 cr)).setCell ⟨yb, 3, none⟩ (Value.int IntKind.i64 cf)).setCell ⟨yb, 4, none⟩ (Value.slice A3 l3.length cA3)).setCell ⟨yb, 5, none⟩ (Value.slice B3 L3.length cB3)).setCell ⟨yb, 6, none⟩ (Value.int IntKind.i64 ep3)) = w4 at *
          have hus := hJ4.us (by omega)
          have HIS := Lib.hid (fun w' (hs : Step (fun _ => False) w4 w') => is_calls (hJ4.bo.same hs) hus.1 hus.2)
          have y0 := hZ.cell (i := 0) rfl
          have y1 := hZ.cell (i := 1) rfl
          have y2 := hZ.cell (i := 2) rfl
          have y3 := hZ.cell (i := 3) rfl
          have y4 := hZ.cell (i := 4) rfl
          have y5 := hZ.cell (i := 5) rfl
          have y6 := hZ.cell (i := 6) rfl
          have HJ4 := Lib.hid hJ4
          obtain ⟨l3l, hl3⟩ : ∃ ll, l3.length = ll := ⟨_, rfl⟩
          obtain ⟨L3l, hL3⟩ : ∃ lL, L3.length = lL := ⟨_, rfl⟩
          rw [hl3, hL3] at HIS
          rw [hl3] at y4
          rw [hL3] at y5
          simp only at HIS
          clear hZ hsZ hJ4 hB3 hs3' hs3 hn3 hA3 hb3 hG3 hX3 r0 r1 r2 r3 r4 r5 r6 f0 f1 f2 f3 f4 f5 f6 HDO HJ a0 a1 a2 a3 hus hl3 hL3
          try simp only [Act.put, List.getElem_toArray, List.getElem_cons_zero, List.getElem_cons_succ, List.setIfInBounds_toArray, List.set_cons_zero, List.set_cons_succ]
          go_wp2_with (go_at_call 24; refine (HIS.out _ (by first | exact Step.refl _ _ | exact (Step.refl _ _).drew)).mono ?_; rintro e6 w6 ⟨rfl, hs6⟩)
          go_roundw
          case rel => exact ⟨i + 1, now1, true, F3, q3, L3, t3, u3, ep3, A3, cA3, l3, B3, cB3, by go_num, rfl, rfl, by omega, by omega, by first | exact HJ4.out.same hs6 | exact HJ4.out.same (((Step.refl _ _).drew).same hs6)⟩
          case measure => simp [intOf]; omega
      · have HJ := Lib.hid hJ
        have hends : ¬ i < n ∨ (i < n ∧ ¬ i < 40) := by omega
        clear hJ hact HG
        rcases hends with h1 | ⟨h1, h2⟩
        · have q1 : ((i : Int) < (n : Int)) = False := eq_false (by omega)
          go_wp2
          go_ret
          exact ⟨rfl, HJ.out.bel⟩
        · have q1 : ((i : Int) < (n : Int)) = True := eq_true (by omega)
          have q2 : ((i : Int) < 40) = False := eq_false (by omega)
          go_wp2
          go_ret
          exact ⟨rfl, HJ.out.bel⟩
end Go.Proofs.Ytghiklaeenhljaa.HeD
