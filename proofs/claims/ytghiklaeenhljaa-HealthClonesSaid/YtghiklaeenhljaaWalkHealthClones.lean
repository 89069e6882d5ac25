/- The walk of stewardlaw23.HealthClones. Own work of this seat. -/
import Derived.Test.YtghiklaeenhljaaHeP0
import Derived.Test.YtghiklaeenhljaaHeK
import Derived.Deep.CutRange
import Derived.Deep.CutBlock
namespace Go.Proofs.Ytghiklaeenhljaa.HeD
open Go.RowKit Go.Proofs.Ytghiklaeenhljaa.Kit Go.Proofs.Ytghiklaeenhljaa.It Go.Proofs.Ytghiklaeenhljaa.Hea Go.Proofs.Ytghiklaeenhljaa.AgP Go.Proofs.Ytghiklaeenhljaa.Cut Go.Proofs.YtghiklaeenhljaaW.PrintWords Go.Proofs.Ytghiklaeenhljaa
set_option linter.unusedVariables false
set_option linter.unusedSimpArgs false

theorem HJ.cloned {w0 wr w3 w7 : World} {yb p zb p2 : Nat} {F G : Nat → Prop} {c : Cf} {q : ByteArray → Option Ho} {L : List (Ev ByteArray)} {t u : Nat} {ep : Int} {A : Option Addr} {cA : Nat} {l : List Oe} {B : Option Addr} {cB : Nat} {i : Nat} {now : Int} (h : HJ w0 wr yb p F c q L t u ep A cA l B cB i now) (hI : HeR w3 p2 G c q L t u ep) (hX : Blk w7 zb 60 (Xc c A l.length cA B L.length cB ep)) (hq : Step (fun _ => False) wr w3) (hs : Step (· = zb) w3 w7) (hG : ∀ k, G k → wr.heap.size ≤ k) (h1 : ¬ G zb) (h2 : wr.heap.size ≤ zb) :
    HJ w0 w7 zb p2 G c q L t u ep A cA l B cB i now ∧ HJ w0 w7 yb p F c q L t u ep A cA l B cB i now := by
  have hA := h.bo.lt.1
  have hB := h.bo.lt.2
  have hF := h.bo.her.1
  have hx := h.xx.lt
  have hbz := h.bel.size
  have hq7 : Step (fun _ => False) wr w7 := hq.trans hs (fun j hj e => by have : j = zb := e; omega)
  have hJ7 := h.same hq7
  have hI7 := hI.keep hs (fun k hk e => h1 (by have : k = zb := e; exact this ▸ hk))
  exact ⟨⟨⟨hI7, hJ7.bo.ro, hJ7.bo.ri, hJ7.bo.le, hJ7.bo.mt, ⟨fun k hk hg => by have := hA k hk; have := hG k hg; omega, fun k hk hg => by have := hB k hk; have := hG k hg; omega⟩, hJ7.bo.lt, hJ7.bo.aj, hJ7.bo.nms, hJ7.bo.tms⟩, hX, ⟨fun k hk => by have := hG k hk; omega, by omega⟩, ⟨h1, fun k hk e => by have := hA k hk; omega, fun k hk e => by have := hB k hk; omega⟩, hJ7.bel, h.cnt⟩, hJ7⟩

set_option maxRecDepth 100000 in
set_option maxHeartbeats 16000000 in
theorem clones_calls (d0 : Cf) (A0 : Option Addr) (c0 : Nat) (acts : List Act5) (A1 : Option Addr) (c1 : Nat) (more : List Act5) (w : World) (hr : Kd.C kAct5 w A0 acts.length acts) (hc : acts.length ≤ c0) (hg : ∀ x ∈ acts, x.f2.size ≤ 9223372036854775807) (hr1 : Kd.C kAct5 w A1 more.length more) (hc1 : more.length ≤ c1) (hg1 : ∀ x ∈ more, x.f2.size ≤ 9223372036854775807) :
    Calls Try.prog 6 #[.agg #[.int .i64 d0.every, .int .i64 d0.wait, .int .i64 d0.rise, .int .i64 d0.fall], .slice A0 acts.length c0, .slice A1 more.length c1] w fun e w' => e = .returned (.bool true) ∧ Below w.heap.size w w' := by
  have hact := Lib.hid (fun i (hi : i < acts.length) => act_at hr i hi)
  have HG := Lib.hid (fun i (hi : i < acts.length) => hg (acts.getD i zAct5) (by rw [List.getD_eq_getElem?_getD, List.getElem?_eq_getElem hi]; exact List.getElem_mem hi))
  have hmor := Lib.hid (fun i (hi : i < more.length) => act_at hr1 i hi)
  have HG1 := Lib.hid (fun i (hi : i < more.length) => hg1 (more.getD i zAct5) (by rw [List.getD_eq_getElem?_getD, List.getElem?_eq_getElem hi]; exact List.getElem_mem hi))
  clear hr hg hr1 hg1
  generalize acts.length = n at *
  generalize more.length = n1 at *
  have HCF := Lib.hid (fun w1 => config_calls d0 w1)
  have HN := Lib.hid (fun w1 => new_any (cfgC d0) w1)
  have HDN := Lib.hid (fun w1 => dnew_calls (cfgC d0) w1)
  have hck := clipC_ok (cfgC d0)
  generalize clipC (cfgC d0) = c at *
  generalize cfgC d0 = d at *
  obtain ⟨de, dw, dr, df⟩ := d
  obtain ⟨ce, cw, cr, cf⟩ := c
  simp only at HCF HN HDN
  go_enter Try.func6, Try.ntmps6
  go_upto_region 1 with (fail)
  refine alloc_next (cs := [.int .i64 d0.every, .int .i64 d0.wait, .int .i64 d0.rise, .int .i64 d0.fall]) ?_
  intro w1 hE1 hs1
  obtain ⟨cb, hcbe⟩ : ∃ cb, w.heap.size = cb := ⟨_, rfl⟩
  rw [hcbe] at hE1 ⊢
  have HCB := Lib.hid hcbe
  clear hcbe
  go_upto_region 3 with (go_at_call 16; refine (awake_calls _).mono ?_; rintro e0 w2 ⟨rfl, hs2⟩)
  have hE2 := hE1.keep hs2 (fun h => h)
  have x0 := hE2.cell (i := 0) rfl
  have x1 := hE2.cell (i := 1) rfl
  have x2 := hE2.cell (i := 2) rfl
  have x3 := hE2.cell (i := 3) rfl
  have HE2 := Lib.hid hE2
  clear hE1 hE2
  go_upto_region 4 with (first | (go_at_call 17; refine (HCF.out _).mono ?_; rintro e1 w3 ⟨rfl, hs3⟩) | (refine wpList_store_blk rfl 45 (.tmp 3) (.tmp 18) rfl (HE2.out.keep hs3 (fun h => h)) rfl (vs := [.int .i64 de, .int .i64 dw, .int .i64 dr, .int .i64 df]) rfl (by kernel_rfl) rfl (cell4i _ _ _ _) ?_; intro w4 hE4 hs4))
  have hz1 := hs1.size
  have hz2 := hs2.size
  have hz3 := hs3.size
  have hz4 := hs4.size
  have hst4 : Step (fun _ => False) w w4 := ((hs1.same hs2).same hs3).trans hs4 (fun j hj e => by have := HCB.out; omega)
  have hzst := hst4.size
  have hcl := hE4.lt
  have HSX := Lib.hid (fun w' (hs : Step (fun _ => False) w4 w') => (⟨(hE4.keep hs (fun h => h)).cell (i := 0) rfl, (hE4.keep hs (fun h => h)).cell (i := 1) rfl, (hE4.keep hs (fun h => h)).cell (i := 2) rfl, (hE4.keep hs (fun h => h)).cell (i := 3) rfl⟩ : w'.cell? ⟨cb, 0, none⟩ = some (.int .i64 de) ∧ w'.cell? ⟨cb, 1, none⟩ = some (.int .i64 dw) ∧ w'.cell? ⟨cb, 2, none⟩ = some (.int .i64 dr) ∧ w'.cell? ⟨cb, 3, none⟩ = some (.int .i64 df)))
  have hq0 : Step (fun _ => False) w4 w4.drew := (Step.refl _ _).drew
  have HST4 := Lib.hid hst4
  have hzb : ∀ (u : World) (o : Obj), (u.alloc o).drew.heap.size = u.heap.size + 1 := fun u o => by show (u.heap.push _).size = _; simp
  have y0 := hE4.cell (i := 0) rfl
  have y1 := hE4.cell (i := 1) rfl
  have y2 := hE4.cell (i := 2) rfl
  have y3 := hE4.cell (i := 3) rfl
  clear x0 x1 x2 x3 hE4 hst4 hs1 hs2 hs3 hs4 HE2 hz1 hz2 hz3 hz4
  simp only [Act.put, List.getElem_toArray, List.getElem_cons_zero, List.getElem_cons_succ, List.setIfInBounds_toArray, List.set_cons_zero, List.set_cons_succ]
  go_cut [7, 8] from 15 to 99 (fun s7 s8 wx => ∃ (yb p : Nat) (F : Nat → Prop), s7 = .pointer (some ⟨p, 0, none⟩) ∧ s8 = .pointer (some ⟨yb, 0, none⟩) ∧ HeD.HJ w wx yb p F ⟨ce, cw, cr, cf⟩ (fun _ => none) [] 0 0 0 none 0 [] none 0 0 0)
  case first =>
    go_region_held3 (fun w' => w'.cell? ⟨cb, 0, none⟩ = some (.int .i64 de) ∧ w'.cell? ⟨cb, 1, none⟩ = some (.int .i64 dw) ∧ w'.cell? ⟨cb, 2, none⟩ = some (.int .i64 dr) ∧ w'.cell? ⟨cb, 3, none⟩ = some (.int .i64 df))
      (first
        | with_reducible exact HSX.out _ hq6
        | with_reducible exact HSX.out _ (hq6.alloc _)
        | with_reducible exact HSX.out _ hq5
        | with_reducible exact HSX.out _ (hq5.alloc _)
        | with_reducible exact HSX.out _ hq0
        | with_reducible exact HSX.out _ (hq0.alloc _)
        | (with_reducible refine HSX.out _ ?_; with_reducible refine Step.setCell7 ?_ ?_ _ _ _ _ _ _ _; with_reducible (first | exact hq6 | exact hq6.alloc _); intro h; omega)
        | (with_reducible refine HSX.out _ ?_; with_reducible (first | exact ((Step.refl _ w4).alloc _).drew | exact hq5.alloc _ | exact hq6.alloc _))
        | fail)
      (first
        | (go_at_call 7; refine (HN.out _).mono ?_; rintro e5 w5 ⟨p, F, rfl, hI5, hs5, hF5⟩; have hq5 : Step (fun _ => False) w4 w5 := (by first | with_reducible exact hq0.same hs5 | with_reducible exact (((Step.refl _ w4).alloc _).drew).same hs5); have hz5 := hq5.size; try (have hY5 : Blk w5 w4.heap.size 60 [.int .i64 0, .int .i64 0, .int .i64 0, .int .i64 0, .slice none 0 0, .slice none 0 0, .int .i64 0] := (by with_reducible exact ((blk_new w4 [.int .i64 0, .int .i64 0, .int .i64 0, .int .i64 0, .slice none 0 0, .slice none 0 0, .int .i64 0] 60).drew).keep hs5 (fun h => h))))
        | (go_at_call 22; refine (HDN.out _).mono ?_; rintro e6 w6 ⟨rfl, hs6⟩; have hq6 : Step (fun _ => False) w4 w6 := (by first | with_reducible exact hq5.same hs6 | with_reducible exact (hq5.alloc _).same hs6); have hz6 := hq6.size; first | (have hY6 : Blk w6 w4.heap.size 60 [.int .i64 0, .int .i64 0, .int .i64 0, .int .i64 0, .slice none 0 0, .slice none 0 0, .int .i64 0] := (by with_reducible exact hY5.keep hs6 (fun h => h)); obtain ⟨yb, hyb⟩ : ∃ yb, w4.heap.size = yb := ⟨_, rfl⟩; have hyl : w4.heap.size ≤ yb := (by omega); have hyF : ¬ F yb := (fun h => by have := hF5 _ h; rw [hzb] at this; omega); rw [hyb] at hY6 ⊢; clear hyb hY5; have r0 := hY6.cell (i := 0) rfl; have r1 := hY6.cell (i := 1) rfl; have r2 := hY6.cell (i := 2) rfl; have r3 := hY6.cell (i := 3) rfl; have r4 := hY6.cell (i := 4) rfl; have r5 := hY6.cell (i := 5) rfl; have r6 := hY6.cell (i := 6) rfl; have f0 := hY6.free 0; have f1 := hY6.free 1; have f2 := hY6.free 2; have f3 := hY6.free 3; have f4 := hY6.free 4; have f5 := hY6.free 5; have f6 := hY6.free 6) | (have hY6 : Blk w6 w5.heap.size 60 [.int .i64 0, .int .i64 0, .int .i64 0, .int .i64 0, .slice none 0 0, .slice none 0 0, .int .i64 0] := (by with_reducible exact (blk_new w5 [.int .i64 0, .int .i64 0, .int .i64 0, .int .i64 0, .slice none 0 0, .slice none 0 0, .int .i64 0] 60).keep hs6 (fun h => h)); obtain ⟨yb, hyb⟩ : ∃ yb, w5.heap.size = yb := ⟨_, rfl⟩; have hyl : w4.heap.size ≤ yb := (by omega); have hyF : ¬ F yb := (fun h => by have := hI5.1 _ h; omega); rw [hyb] at hY6 ⊢; clear hyb; have r0 := hY6.cell (i := 0) rfl; have r1 := hY6.cell (i := 1) rfl; have r2 := hY6.cell (i := 2) rfl; have r3 := hY6.cell (i := 3) rfl; have r4 := hY6.cell (i := 4) rfl; have r5 := hY6.cell (i := 5) rfl; have r6 := hY6.cell (i := 6) rfl; have f0 := hY6.free 0; have f1 := hY6.free 1; have f2 := hY6.free 2; have f3 := hY6.free 3; have f4 := hY6.free 4; have f5 := hY6.free 5; have f6 := hY6.free 6) | skip))
    all_goals
      try simp only [Act.put, List.getElem_toArray, List.getElem_cons_zero, List.getElem_cons_succ, List.setIfInBounds_toArray, List.set_cons_zero, List.set_cons_succ]
      have hzst2 := HST4.out.size
      have hz4 : w4.drew.heap.size = w4.heap.size := rfl
      have hI6 : HeR w6 p F ⟨ce, cw, cr, cf⟩ (fun _ => none) [] 0 0 0 := (by first | with_reducible exact hI5.same hs6 | with_reducible exact hI5.same (((Step.refl _ w5).alloc _).same hs6))
      have hF5l : ∀ k, F k → k < w5.heap.size := hI5.1
      have hF6l : ∀ k, F k → k < w6.heap.size := hI6.1
      have hFl : ∀ k, F k → w.heap.size ≤ k := fun k hk => by have := hF5 k hk; first | omega | (rw [hzb] at this; omega)
      have H7 : ∀ w7 xb, Blk w7 xb 60 (Xc ⟨ce, cw, cr, cf⟩ none 0 0 none 0 0 0) → Step (· = xb) w6 w7 → ¬ F xb → w4.heap.size ≤ xb → HeD.HJ w w7 xb p F ⟨ce, cw, cr, cf⟩ (fun _ => none) [] 0 0 0 none 0 [] none 0 0 0 := fun w7 xb hX hs h1 h2 =>
        hj_new (hI6.keep hs (fun k hk e => h1 (e ▸ hk))) hX hFl (by omega) h1 ((HST4.out.same hq6).trans hs (fun j hj e => by have : j = xb := e; omega)) _
      have H7 := Lib.hid H7
      have HF5 := Lib.hid hF5
      go_wp2
      go_meet
      first
      | (have hJ0 := H7.out _ yb (put7 hY6 (Value.int IntKind.i64 ce) (Value.int IntKind.i64 cw) (Value.int IntKind.i64 cr) (Value.int IntKind.i64 cf) (Value.slice none 0 0) (Value.slice none 0 0) (Value.int IntKind.i64 0)).1 (put7 hY6 (Value.int IntKind.i64 ce) (Value.int IntKind.i64 cw) (Value.int IntKind.i64 cr) (Value.int IntKind.i64 cf) (Value.slice none 0 0) (Value.slice none 0 0) (Value.int IntKind.i64 0)).2 hyF hyl
         exact ⟨yb, p, F, rfl, rfl, hJ0⟩)
      | (have hJ0 := H7.out _ w6.heap.size (blk_new w6 [.int .i64 ce, .int .i64 cw, .int .i64 cr, .int .i64 cf, .slice none 0 0, .slice none 0 0, .int .i64 0] 60) ((Step.refl _ _).alloc _) (fun h => by have := hF6l _ h; omega) (by omega)
         exact ⟨w6.heap.size, p, F, rfl, rfl, hJ0⟩)
  case rest =>
    obtain ⟨yb, p, F0, rfl, rfl, hJ0⟩ := hcut
    have HJ0 := Lib.hid hJ0
    clear hJ0 HCF HN HDN HSX HST4 y0 y1 y2 y3 hq0 hzb
    go_upto_block 0 with fail
    go_cut [9, 10, 11] from 15 to 99 (fun s9 s10 s11 wx => ∃ (i : Nat) (now : Int) (b : Bool) (F : Nat → Prop) (q : ByteArray → Option Ho) (L : List (Ev ByteArray)) (t u : Nat) (ep : Int) (A : Option Addr) (cA : Nat) (l : List Oe) (B : Option Addr) (cB : Nat), s9 = .int .i64 now ∧ s10 = .bool b ∧ i ≤ 20 ∧ (0 ≤ now ∧ now ≤ 31 * i) ∧ HeD.HJ w wx yb p F ⟨ce, cw, cr, cf⟩ q L t u ep A cA l B cB i now)
    case first =>
      go_wp2_with fail
      go_loopw [9, 10, 11] (fun v9 v10 v11 wr => ∃ (i : Nat) (now : Int) (b : Bool) (F : Nat → Prop) (q : ByteArray → Option Ho) (L : List (Ev ByteArray)) (t u : Nat) (ep : Int) (A : Option Addr) (cA : Nat) (l : List Oe) (B : Option Addr) (cB : Nat), v11 = .int .i64 (i : Int) ∧ v9 = .int .i64 now ∧ v10 = .bool b ∧ i ≤ 20 ∧ (0 ≤ now ∧ now ≤ 31 * i) ∧ HeD.HJ w wr yb p F ⟨ce, cw, cr, cf⟩ q L t u ep A cA l B cB i now) (fun _ _ v _ => 20 - (intOf v).toNat)
      case atStart => exact ⟨0, 0, false, F0, _, [], 0, 0, 0, none, 0, [], none, 0, rfl, rfl, rfl, by omega, by omega, HJ0.out⟩
      case round =>
        clear HJ0
        obtain ⟨i, now, b, F, q, L, t, u, ep, A, cA, l, B, cB, rfl, rfl, rfl, hi, hnow, hJ⟩ := hrel
        by_cases hgo : i < n ∧ i < 20
        · obtain ⟨hin, hi40⟩ := hgo
          have hin' : ((i : Int) < (n : Int)) := by omega
          have hi40' : ((i : Int) < 20) := by omega
          obtain ⟨ad, ⟨kd, nn, nm, gd⟩, rfl, hxe, hcell⟩ := hact.out i hin
          have hnsz := HG.out i hin
          rw [← hxe] at hnsz
          obtain ⟨a0, a1, a2, a3⟩ := hcell wr hJ.bel
          simp only at a0 a1 a2 a3 hnsz
          have hbt := bits_31 nn
          have hm0 : 0 ≤ nn % 32 ∧ nn % 32 ≤ 31 := by omega
          obtain ⟨dn, hdn⟩ : ∃ dn, nn % 32 = dn := ⟨_, rfl⟩
          rw [hdn] at hbt hm0
          have hwn : IntKind.i64.wrap (now + dn) = now + dn := by rw [IntKind.wrap_i64]; omega
          clear hdn hcell hxe
          go_upto_region 13 with (fail)
          clear hbt hwn
          obtain ⟨now1, hn1⟩ : ∃ x : Int, now + dn = x := ⟨_, rfl⟩
          have hnow1 : now ≤ now1 ∧ now1 ≤ now + 31 ∧ 0 ≤ now1 ∧ now1 ≤ 1099511627776 := by omega
          rw [hn1]
          clear hn1 hm0
          have HDO := Lib.hid (fun wd (hd : wd = wr.drew) => by subst hd; exact (do_calls (hJ.bo.same ((Step.refl _ _).drew)) kd nn nm gd hnsz now1 (hJ.small (by omega) (by omega) (by omega))))
          have HJ := Lib.hid hJ
          have y0 := hJ.xx.cell (i := 0) rfl
          have y1 := hJ.xx.cell (i := 1) rfl
          have y2 := hJ.xx.cell (i := 2) rfl
          have y3 := hJ.xx.cell (i := 3) rfl
          have y4 := hJ.xx.cell (i := 4) rfl
          have y5 := hJ.xx.cell (i := 5) rfl
          have y6 := hJ.xx.cell (i := 6) rfl
          clear hJ
          obtain ⟨ll, hll⟩ : ∃ ll, l.length = ll := ⟨_, rfl⟩
          obtain ⟨lL, hlL⟩ : ∃ lL, L.length = lL := ⟨_, rfl⟩
          rw [hll] at y4 HDO
          rw [hlL] at y5 HDO
          clear hll hlL
          simp only at HDO
          go_region_with (go_at_call 23; refine (HDO.out _ rfl).mono ?_; rintro e3 w3 ⟨F3, q3, L3, t3, u3, ep3, A3, cA3, l3, B3, cB3, rfl, hB3, hs3', hn3, hA3, hb3, hG3⟩; have hs3 : Step F wr w3 := ((Step.refl F wr).drew).same hs3'; have hX3 := HJ.out.xx.keep hs3 HJ.out.sep.1; clear y0 y1 y2 y3 y4 y5 y6; have r0 := hX3.cell (i := 0) rfl; have r1 := hX3.cell (i := 1) rfl; have r2 := hX3.cell (i := 2) rfl; have r3 := hX3.cell (i := 3) rfl; have r4 := hX3.cell (i := 4) rfl; have r5 := hX3.cell (i := 5) rfl; have r6 := hX3.cell (i := 6) rfl; have f0 := hX3.free 0; have f1 := hX3.free 1; have f2 := hX3.free 2; have f3 := hX3.free 3; have f4 := hX3.free 4; have f5 := hX3.free 5; have f6 := hX3.free 6)
          all_goals
            obtain ⟨hZ, hsZ⟩ := put7 hX3 (Value.int IntKind.i64 ce) (Value.int IntKind.i64 cw) (Value.int IntKind.i64 cr) (Value.int IntKind.i64 cf) (Value.slice A3 l3.length cA3) (Value.slice B3 L3.length cB3) (Value.int IntKind.i64 ep3)
            have hJ4 := HJ.out.next (by omega) (by omega) (by omega) (by omega) hB3 hs3 hn3 hA3 hb3 hG3 hZ hsZ
            generalize (((((((w3.setCell ⟨yb, 0, none⟩ (Value.int IntKind.i64 ce)).setCell ⟨yb, 1, none⟩ (Value.int IntKind.i64 cw)).setCell ⟨yb, 2, none⟩ (Value.int IntKind.i64 cr)).setCell ⟨yb, 3, none⟩ (Value.int IntKind.i64 cf)).setCell ⟨yb, 4, none⟩ (Value.slice A3 l3.length cA3)).setCell ⟨yb, 5, none⟩ (Value.slice B3 L3.length cB3)).setCell ⟨yb, 6, none⟩ (Value.int IntKind.i64 ep3)) = w4 at *
            have HJ4 := Lib.hid hJ4
            clear hZ hsZ hJ4 hB3 hs3' hs3 hn3 hA3 hb3 hG3 hX3 r0 r1 r2 r3 r4 r5 r6 f0 f1 f2 f3 f4 f5 f6 HDO HJ a0 a1 a2 a3
            try simp only [Act.put, List.getElem_toArray, List.getElem_cons_zero, List.getElem_cons_succ, List.setIfInBounds_toArray, List.set_cons_zero, List.set_cons_succ]
            go_wp2
            go_roundw
            case rel => exact ⟨i + 1, now1, true, F3, q3, L3, t3, u3, ep3, A3, cA3, l3, B3, cB3, by go_num, rfl, rfl, by omega, by omega, by first | exact HJ4.out | exact HJ4.out.same ((Step.refl _ _).drew)⟩
            case measure => simp [intOf]; omega
        · have hends : ¬ i < n ∨ (i < n ∧ ¬ i < 20) := by omega
          have HJ := Lib.hid hJ
          clear hJ hact HG
          rcases hends with h1 | ⟨h1, h2⟩
          · have q1 : ((i : Int) < (n : Int)) = False := eq_false (by omega)
            go_wp2
            go_meet
            exact ⟨i, now, b, F, q, L, t, u, ep, A, cA, l, B, cB, rfl, rfl, hi, hnow, HJ.out⟩
          · have q1 : ((i : Int) < (n : Int)) = True := eq_true (by omega)
            have q2 : ((i : Int) < 20) = False := eq_false (by omega)
            go_wp2
            go_meet
            exact ⟨i, now, b, F, q, L, t, u, ep, A, cA, l, B, cB, rfl, rfl, hi, hnow, HJ.out⟩
    case rest =>
      clear HJ0 HG hact
      obtain ⟨i, now, b, F, q, L, t, u, ep, A, cA, l, B, cB, rfl, rfl, hi, hnow, hJ⟩ := hcut
      obtain ⟨wr, hwr⟩ : ∃ x, x = wc := ⟨_, rfl⟩
      subst hwr
      go_upto_region 16 with (fail)
      have HCL := Lib.hid (fun w' (hs : Step (fun _ => False) wr w') => Hea.clone_calls (hJ.bo.her.same hs) (hJ.us (by omega)).1)
      have HJ := Lib.hid hJ
      have y0 := hJ.xx.cell (i := 0) rfl
      have y1 := hJ.xx.cell (i := 1) rfl
      have y2 := hJ.xx.cell (i := 2) rfl
      have y3 := hJ.xx.cell (i := 3) rfl
      have y4 := hJ.xx.cell (i := 4) rfl
      have y5 := hJ.xx.cell (i := 5) rfl
      have y6 := hJ.xx.cell (i := 6) rfl
      have HSX := Lib.hid (fun w' (hs : Step (fun _ => False) wr w') => hJ.xx.keep hs (fun h => h))
      obtain ⟨ll, hll⟩ : ∃ ll, l.length = ll := ⟨_, rfl⟩
      obtain ⟨lL, hlL⟩ : ∃ lL, L.length = lL := ⟨_, rfl⟩
      have HLL := Lib.hid hll
      have HLM := Lib.hid hlL
      rw [hll] at y4 HSX
      rw [hlL] at y5 HSX
      have HS7 := Lib.hid (fun w' (hs : Step (fun _ => False) wr w') => (⟨(HSX.out w' hs).cell (i := 0) rfl, (HSX.out w' hs).cell (i := 1) rfl, (HSX.out w' hs).cell (i := 2) rfl, (HSX.out w' hs).cell (i := 3) rfl, (HSX.out w' hs).cell (i := 4) rfl, (HSX.out w' hs).cell (i := 5) rfl, (HSX.out w' hs).cell (i := 6) rfl⟩ : w'.cell? ⟨yb, 0, none⟩ = some (Value.int IntKind.i64 ce) ∧ w'.cell? ⟨yb, 1, none⟩ = some (Value.int IntKind.i64 cw) ∧ w'.cell? ⟨yb, 2, none⟩ = some (Value.int IntKind.i64 cr) ∧ w'.cell? ⟨yb, 3, none⟩ = some (Value.int IntKind.i64 cf) ∧ w'.cell? ⟨yb, 4, none⟩ = some (Value.slice A ll cA) ∧ w'.cell? ⟨yb, 5, none⟩ = some (Value.slice B lL cB) ∧ w'.cell? ⟨yb, 6, none⟩ = some (Value.int IntKind.i64 ep)))
      have hq0 : Step (fun _ => False) wr wr.drew := (Step.refl _ _).drew
      have hzb : ∀ (u : World) (o : Obj), (u.alloc o).drew.heap.size = u.heap.size + 1 := fun u o => by show (u.heap.push _).size = _; simp
      clear hJ hll hlL
      go_cut [12, 13] from 56 to 99 (fun s12 s13 wx => ∃ (zb p2 : Nat) (G : Nat → Prop), s12 = .pointer (some ⟨p2, 0, none⟩) ∧ s13 = .pointer (some ⟨zb, 0, none⟩) ∧ HeD.HJ w wx zb p2 G ⟨ce, cw, cr, cf⟩ q L t u ep A cA l B cB i now ∧ HeD.HJ w wx yb p F ⟨ce, cw, cr, cf⟩ q L t u ep A cA l B cB i now ∧ (∀ k, G k → wr.heap.size ≤ k) ∧ wr.heap.size ≤ zb)
      case first =>
        go_region_held3 (fun w' => w'.cell? ⟨yb, 0, none⟩ = some (Value.int IntKind.i64 ce) ∧ w'.cell? ⟨yb, 1, none⟩ = some (Value.int IntKind.i64 cw) ∧ w'.cell? ⟨yb, 2, none⟩ = some (Value.int IntKind.i64 cr) ∧ w'.cell? ⟨yb, 3, none⟩ = some (Value.int IntKind.i64 cf) ∧ w'.cell? ⟨yb, 4, none⟩ = some (Value.slice A ll cA) ∧ w'.cell? ⟨yb, 5, none⟩ = some (Value.slice B lL cB) ∧ w'.cell? ⟨yb, 6, none⟩ = some (Value.int IntKind.i64 ep))
          (first
            | with_reducible exact HS7.out _ hq3
            | with_reducible exact HS7.out _ hq0
            | (with_reducible refine HS7.out _ ?_; with_reducible (first | exact ((Step.refl _ wr).alloc _).drew | exact hq3.alloc _))
            | (with_reducible refine HS7.out _ ?_; with_reducible refine Step.setCell7 ?_ ?_ _ _ _ _ _ _ _; with_reducible (first | exact hq3 | exact hq3.alloc _); intro h; omega)
            | fail)
          (first
            | (go_at_call 25; refine (HCL.out _ (by first | with_reducible exact hq0 | with_reducible exact ((Step.refl _ wr).alloc _).drew)).mono ?_; rintro e3 w3 ⟨p2, G, rfl, hI3, hs3, hG3⟩; have hq3 : Step (fun _ => False) wr w3 := (by first | with_reducible exact hq0.same hs3 | with_reducible exact (((Step.refl _ wr).alloc _).drew).same hs3); have hz3 := hq3.size; first | (have hY3 : Blk w3 wr.heap.size 60 [.int .i64 0, .int .i64 0, .int .i64 0, .int .i64 0, .slice none 0 0, .slice none 0 0, .int .i64 0] := (by with_reducible exact ((blk_new wr [.int .i64 0, .int .i64 0, .int .i64 0, .int .i64 0, .slice none 0 0, .slice none 0 0, .int .i64 0] 60).drew).keep hs3 (fun h => h)); obtain ⟨zb, hzbe⟩ : ∃ zb, wr.heap.size = zb := ⟨_, rfl⟩; have hzl : wr.heap.size ≤ zb := (by omega); have hzG : ¬ G zb := (fun h => by have := hG3 _ h; rw [hzb] at this; omega); rw [hzbe] at hY3 ⊢; clear hzbe; have r0 := hY3.cell (i := 0) rfl; have r1 := hY3.cell (i := 1) rfl; have r2 := hY3.cell (i := 2) rfl; have r3 := hY3.cell (i := 3) rfl; have r4 := hY3.cell (i := 4) rfl; have r5 := hY3.cell (i := 5) rfl; have r6 := hY3.cell (i := 6) rfl; have f0 := hY3.free 0; have f1 := hY3.free 1; have f2 := hY3.free 2; have f3 := hY3.free 3; have f4 := hY3.free 4; have f5 := hY3.free 5; have f6 := hY3.free 6) | skip))
        all_goals
          try simp only [Act.put, List.getElem_toArray, List.getElem_cons_zero, List.getElem_cons_succ, List.setIfInBounds_toArray, List.set_cons_zero, List.set_cons_succ]
          have hGl : ∀ k, G k → wr.heap.size ≤ k := fun k hk => by have := hG3 k hk; first | exact this | (rw [hzb] at this; omega)
          have hGb := hI3.1
          have H7 : ∀ w7 zb, Blk w7 zb 60 (Xc ⟨ce, cw, cr, cf⟩ A l.length cA B L.length cB ep) → Step (· = zb) w3 w7 → ¬ G zb → wr.heap.size ≤ zb → HeD.HJ w w7 zb p2 G ⟨ce, cw, cr, cf⟩ q L t u ep A cA l B cB i now ∧ HeD.HJ w w7 yb p F ⟨ce, cw, cr, cf⟩ q L t u ep A cA l B cB i now := fun w7 zb hX hs h1 h2 =>
            HJ.out.cloned hI3 hX hq3 hs hGl h1 h2
          have H7 := Lib.hid H7
          rw [HLL.out, HLM.out] at H7
          go_wp2
          go_meet
          first
          | (have hJK := H7.out _ zb (put7 hY3 (Value.int IntKind.i64 ce) (Value.int IntKind.i64 cw) (Value.int IntKind.i64 cr) (Value.int IntKind.i64 cf) (Value.slice A ll cA) (Value.slice B lL cB) (Value.int IntKind.i64 ep)).1 (put7 hY3 (Value.int IntKind.i64 ce) (Value.int IntKind.i64 cw) (Value.int IntKind.i64 cr) (Value.int IntKind.i64 cf) (Value.slice A ll cA) (Value.slice B lL cB) (Value.int IntKind.i64 ep)).2 hzG hzl
             exact ⟨zb, p2, G, rfl, rfl, hJK.1, hJK.2, hGl, hzl⟩)
          | (have hJK := H7.out _ w3.heap.size (blk_new w3 [Value.int IntKind.i64 ce, Value.int IntKind.i64 cw, Value.int IntKind.i64 cr, Value.int IntKind.i64 cf, Value.slice A ll cA, Value.slice B lL cB, Value.int IntKind.i64 ep] 60) ((Step.refl _ _).alloc _) (fun h => by have := hGb _ h; omega) hz3
             exact ⟨w3.heap.size, p2, G, rfl, rfl, hJK.1, hJK.2, hGl, hz3⟩)
      case rest =>
        obtain ⟨zb, p2, G0, rfl, rfl, hK0, hJ0, hGz0, hzz⟩ := hcut
        obtain ⟨z, hz⟩ : ∃ z, wr.heap.size = z := ⟨_, rfl⟩
        rw [hz] at hGz0 hzz
        have hZZ : (∀ k, F k → k < z) ∧ (∀ k, blockOf A = some k → k < z) ∧ (∀ k, blockOf B = some k → k < z) ∧ yb < z ∧ z ≤ zb ∧ w.heap.size ≤ z := ⟨fun k hk => by have := HJ.out.bo.her.1 k hk; omega, fun k hk => by have := HJ.out.bo.lt.1 k hk; omega, fun k hk => by have := HJ.out.bo.lt.2 k hk; omega, by have := HJ.out.xx.lt; omega, hzz, by have := HJ.out.bel.size; omega⟩
        have HZZ := Lib.hid hZZ
        have HK0 := Lib.hid hK0
        have HJ0 := Lib.hid hJ0
        clear hZZ hz hK0 hJ0 HJ HCL HSX HS7 hq0 hzb y0 y1 y2 y3 y4 y5 y6 HLL HLM
        go_upto_block 2 with fail
        go_cut [9, 10, 14] from 56 to 99 (fun s9 s10 s14 wx => ∃ (i2 : Nat) (now2 : Int) (G : Nat → Prop) (q2 : ByteArray → Option Ho) (L2 : List (Ev ByteArray)) (t2 u2 : Nat) (ep2 : Int) (A2 : Option Addr) (cA2 : Nat) (l2 : List Oe) (B2 : Option Addr) (cB2 : Nat), i2 ≤ 20 ∧ HeD.HJ w wx zb p2 G ⟨ce, cw, cr, cf⟩ q2 L2 t2 u2 ep2 A2 cA2 l2 B2 cB2 (i + i2) now2 ∧ HeD.HJ w wx yb p F ⟨ce, cw, cr, cf⟩ q L t u ep A cA l B cB i now)
        case first =>
          go_wp2_with fail
          go_loopw [9, 10, 14] (fun v9 v10 v14 wr => ∃ (i2 : Nat) (now2 : Int) (b2 : Bool) (G : Nat → Prop) (q2 : ByteArray → Option Ho) (L2 : List (Ev ByteArray)) (t2 u2 : Nat) (ep2 : Int) (A2 : Option Addr) (cA2 : Nat) (l2 : List Oe) (B2 : Option Addr) (cB2 : Nat), v14 = .int .i64 (i2 : Int) ∧ v9 = .int .i64 now2 ∧ v10 = .bool b2 ∧ i2 ≤ 20 ∧ (0 ≤ now2 ∧ now2 ≤ 31 * (i + i2)) ∧ HeD.HJ w wr zb p2 G ⟨ce, cw, cr, cf⟩ q2 L2 t2 u2 ep2 A2 cA2 l2 B2 cB2 (i + i2) now2 ∧ HeD.HJ w wr yb p F ⟨ce, cw, cr, cf⟩ q L t u ep A cA l B cB i now ∧ ∀ k, G k → z ≤ k) (fun _ _ v _ => 20 - (intOf v).toNat)
          case atStart => exact ⟨0, now, b, G0, q, L, t, u, ep, A, cA, l, B, cB, rfl, rfl, rfl, by omega, by omega, HK0.out, HJ0.out, hGz0⟩
          case round =>
            clear HK0 HJ0
            obtain ⟨i2, now2, b2, G, q2, L2, t2, u2, ep2, A2, cA2, l2, B2, cB2, rfl, rfl, rfl, hi2, hnow2, hK, hJ, hGz⟩ := hrel
            by_cases hgo : i2 < n1 ∧ i2 < 20
            · obtain ⟨hin, hi40⟩ := hgo
              have hin' : ((i2 : Int) < (n1 : Int)) := by omega
              have hi40' : ((i2 : Int) < 20) := by omega
              obtain ⟨ad, ⟨kd, nn, nm, gd⟩, rfl, hxe, hcell⟩ := hmor.out i2 hin
              have hnsz := HG1.out i2 hin
              rw [← hxe] at hnsz
              obtain ⟨a0, a1, a2, a3⟩ := hcell wr hK.bel
              simp only at a0 a1 a2 a3 hnsz
              have hbt := bits_31 nn
              have hm0 : 0 ≤ nn % 32 ∧ nn % 32 ≤ 31 := by omega
              obtain ⟨dn, hdn⟩ : ∃ dn, nn % 32 = dn := ⟨_, rfl⟩
              rw [hdn] at hbt hm0
              have hwn : IntKind.i64.wrap (now2 + dn) = now2 + dn := by rw [IntKind.wrap_i64]; omega
              clear hdn hcell hxe
              go_upto_region 23 with (fail)
              clear hbt hwn
              obtain ⟨now1, hn1⟩ : ∃ x : Int, now2 + dn = x := ⟨_, rfl⟩
              have hnow1 : now2 ≤ now1 ∧ now1 ≤ now2 + 31 ∧ 0 ≤ now1 ∧ now1 ≤ 1099511627776 := by omega
              rw [hn1]
              clear hn1 hm0
              have HDO := Lib.hid (fun wd (hd : wd = wr.drew) => by subst hd; exact (do_calls (hK.bo.same ((Step.refl _ _).drew)) kd nn nm gd hnsz now1 (hK.small (by omega) (by omega) (by omega))))
              have HJ := Lib.hid hJ
              have HK := Lib.hid hK
              have hzr : z ≤ wr.heap.size := by have := hK.xx.lt; have := HZZ.out.2.2.2.2.1; omega
              have y0 := hK.xx.cell (i := 0) rfl
              have y1 := hK.xx.cell (i := 1) rfl
              have y2 := hK.xx.cell (i := 2) rfl
              have y3 := hK.xx.cell (i := 3) rfl
              have y4 := hK.xx.cell (i := 4) rfl
              have y5 := hK.xx.cell (i := 5) rfl
              have y6 := hK.xx.cell (i := 6) rfl
              clear hJ hK
              obtain ⟨ll, hll⟩ : ∃ ll, l2.length = ll := ⟨_, rfl⟩
              obtain ⟨lL, hlL⟩ : ∃ lL, L2.length = lL := ⟨_, rfl⟩
              rw [hll] at y4 HDO
              rw [hlL] at y5 HDO
              clear hll hlL
              simp only at HDO
              go_region_with (go_at_call 23; refine (HDO.out _ rfl).mono ?_; rintro e3 w3 ⟨F3, q3, L3, t3, u3, ep3, A3, cA3, l3, B3, cB3, rfl, hB3, hs3', hn3, hA3, hb3, hG3⟩; have hs3 : Step G wr w3 := ((Step.refl G wr).drew).same hs3'; have hX3 := HK.out.xx.keep hs3 HK.out.sep.1; clear y0 y1 y2 y3 y4 y5 y6; have r0 := hX3.cell (i := 0) rfl; have r1 := hX3.cell (i := 1) rfl; have r2 := hX3.cell (i := 2) rfl; have r3 := hX3.cell (i := 3) rfl; have r4 := hX3.cell (i := 4) rfl; have r5 := hX3.cell (i := 5) rfl; have r6 := hX3.cell (i := 6) rfl; have f0 := hX3.free 0; have f1 := hX3.free 1; have f2 := hX3.free 2; have f3 := hX3.free 3; have f4 := hX3.free 4; have f5 := hX3.free 5; have f6 := hX3.free 6)
              all_goals
                obtain ⟨hZ, hsZ⟩ := put7 hX3 (Value.int IntKind.i64 ce) (Value.int IntKind.i64 cw) (Value.int IntKind.i64 cr) (Value.int IntKind.i64 cf) (Value.slice A3 l3.length cA3) (Value.slice B3 L3.length cB3) (Value.int IntKind.i64 ep3)
                have hK4 := HK.out.next (by omega) (by omega) (by omega) (by omega) hB3 hs3 hn3 hA3 hb3 hG3 hZ hsZ
                generalize (((((((w3.setCell ⟨zb, 0, none⟩ (Value.int IntKind.i64 ce)).setCell ⟨zb, 1, none⟩ (Value.int IntKind.i64 cw)).setCell ⟨zb, 2, none⟩ (Value.int IntKind.i64 cr)).setCell ⟨zb, 3, none⟩ (Value.int IntKind.i64 cf)).setCell ⟨zb, 4, none⟩ (Value.slice A3 l3.length cA3)).setCell ⟨zb, 5, none⟩ (Value.slice B3 L3.length cB3)).setCell ⟨zb, 6, none⟩ (Value.int IntKind.i64 ep3)) = w4 at *
                obtain ⟨z1, z2, z3, z4, z5, z6⟩ := HZZ.out
                have hJ4 := HJ.out.other (H := fun k => G k ∨ k = zb) ((hs3.mono (fun _ _ h => .inl h)).same (hsZ.mono (fun _ _ h => .inr h))) (fun k hk h => by have := z1 k hk; rcases h with h | h; (have := hGz k h; omega); omega) (fun k hk h => by have := z2 k hk; rcases h with h | h; (have := hGz k h; omega); omega) (fun k hk h => by have := z3 k hk; rcases h with h | h; (have := hGz k h; omega); omega) (fun h => by rcases h with h | h; (have := hGz _ h; omega); omega) hK4.bel
                have hG4 : ∀ k, F3 k → z ≤ k := fun k hk => (hn3 k hk).elim (hGz k) (fun h => by have h' : wr.drew.heap.size = wr.heap.size := rfl; omega)
                have HJ4 := Lib.hid hJ4
                have HK4 := Lib.hid hK4
                clear hZ hsZ hJ4 hK4 hB3 hs3' hs3 hn3 hA3 hb3 hG3 hX3 r0 r1 r2 r3 r4 r5 r6 f0 f1 f2 f3 f4 f5 f6 HDO HJ HK a0 a1 a2 a3 hGz z1 z2 z3
                try simp only [Act.put, List.getElem_toArray, List.getElem_cons_zero, List.getElem_cons_succ, List.setIfInBounds_toArray, List.set_cons_zero, List.set_cons_succ]
                go_wp2
                go_roundw
                case rel => exact ⟨i2 + 1, now1, true, F3, q3, L3, t3, u3, ep3, A3, cA3, l3, B3, cB3, by go_num, rfl, rfl, by omega, by omega, by first | exact HK4.out | exact HK4.out.same ((Step.refl _ _).drew), by first | exact HJ4.out | exact HJ4.out.same ((Step.refl _ _).drew), hG4⟩
                case measure => simp [intOf]; omega
            · have hends : ¬ i2 < n1 ∨ (i2 < n1 ∧ ¬ i2 < 20) := by omega
              have HJ := Lib.hid hJ
              have HK := Lib.hid hK
              clear hJ hK hmor HG1
              rcases hends with h1 | ⟨h1, h2⟩
              · have q1 : ((i2 : Int) < (n1 : Int)) = False := eq_false (by omega)
                go_wp2
                go_meet
                exact ⟨i2, now2, G, q2, L2, t2, u2, ep2, A2, cA2, l2, B2, cB2, hi2, HK.out, HJ.out⟩
              · have q1 : ((i2 : Int) < (n1 : Int)) = True := eq_true (by omega)
                have qq2 : ((i2 : Int) < 20) = False := eq_false (by omega)
                go_wp2
                go_meet
                exact ⟨i2, now2, G, q2, L2, t2, u2, ep2, A2, cA2, l2, B2, cB2, hi2, HK.out, HJ.out⟩
        case rest =>
          obtain ⟨i2, now2, G, q2, L2, t2, u2, ep2, A2, cA2, l2, B2, cB2, hi2, hK, hJ⟩ := hcut
          clear HK0 HJ0 hmor HG1
          obtain ⟨wr, hwr⟩ : ∃ x, x = wc := ⟨_, rfl⟩
          subst hwr
          have hu1 := hJ.us (by omega)
          have hu2 := hK.us (by omega)
          have HX := Lib.hid (fun w' (hs : Step (fun _ => False) wr w') => is_calls (hJ.bo.same hs) hu1.1 hu1.2)
          have HY := Lib.hid (fun w' (hs : Step (fun _ => False) wr w') => is_calls (hK.bo.same hs) hu2.1 hu2.2)
          have HSY := Lib.hid (fun w' (hs : Step (fun _ => False) wr w') => hK.xx.keep hs (fun h => h))
          have y0 := hJ.xx.cell (i := 0) rfl
          have y1 := hJ.xx.cell (i := 1) rfl
          have y2 := hJ.xx.cell (i := 2) rfl
          have y3 := hJ.xx.cell (i := 3) rfl
          have y4 := hJ.xx.cell (i := 4) rfl
          have y5 := hJ.xx.cell (i := 5) rfl
          have y6 := hJ.xx.cell (i := 6) rfl
          have hbel := hK.bel
          obtain ⟨ll, hll⟩ : ∃ ll, l.length = ll := ⟨_, rfl⟩
          obtain ⟨lL, hlL⟩ : ∃ lL, L.length = lL := ⟨_, rfl⟩
          rw [hll] at y4 HX
          rw [hlL] at y5 HX
          obtain ⟨l2l, hl2l⟩ : ∃ ll, l2.length = ll := ⟨_, rfl⟩
          obtain ⟨l2L, hl2L⟩ : ∃ lL, L2.length = lL := ⟨_, rfl⟩
          rw [hl2l, hl2L] at HY HSY
          clear hll hlL hl2l hl2L hu1 hu2 hJ hK
          simp only at HX HY
          have hq0 : Step (fun _ => False) wr wr := Step.refl _ _
          go_upto_region 26 with (fail)
          go_wp2_with (first | (go_at_call 24; refine (HX.out _ hq0).mono ?_; clear HX; rintro e6 w6 ⟨rfl, hs6⟩; have hq1 : Step (fun _ => False) wr w6 := hq0.same hs6; have hY6 := HSY.out _ hq1; clear y0 y1 y2 y3 y4 y5 y6; have y0 := hY6.cell (i := 0) rfl; have y1 := hY6.cell (i := 1) rfl; have y2 := hY6.cell (i := 2) rfl; have y3 := hY6.cell (i := 3) rfl; have y4 := hY6.cell (i := 4) rfl; have y5 := hY6.cell (i := 5) rfl; have y6 := hY6.cell (i := 6) rfl; clear hY6) | (go_at_call 24; refine (HY.out _ hq1).mono ?_; rintro e7 w7 ⟨rfl, hs7⟩; have hq2 : Step (fun _ => False) wr w7 := hq1.same hs7))
          go_ret
          exact ⟨rfl, hbel.trans (hq2.below hbel.size (fun _ h => h.elim))⟩
end Go.Proofs.Ytghiklaeenhljaa.HeD
