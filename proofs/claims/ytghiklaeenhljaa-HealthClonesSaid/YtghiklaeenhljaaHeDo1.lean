/- law 23: a call of both. Printed by wip/tools/gen_hedo.py; own work of this seat. -/
import Derived.Test.YtghiklaeenhljaaHeDo0
namespace Go.Proofs.Ytghiklaeenhljaa.HeD
open Go.RowKit Go.Proofs.Ytghiklaeenhljaa.Kit Go.Proofs.Ytghiklaeenhljaa.It Go.Proofs.Ytghiklaeenhljaa.Hea Go.Proofs.Ytghiklaeenhljaa.AgP Go.Proofs.Ytghiklaeenhljaa.Cut Go.Proofs.YtghiklaeenhljaaW.PrintWords Go.Proofs.Ytghiklaeenhljaa
set_option linter.unusedVariables false
set_option linter.unusedSimpArgs false

set_option maxRecDepth 100000 in
set_option maxHeartbeats 8000000 in
theorem do_add_new {w : World} {p : Nat} {F : Nat → Prop} {c : Cf} {q : ByteArray → Option Ho} {L : List (Ev ByteArray)} {t u : Nat} {ep : Int} {A : Option Addr} {cA : Nat} {l : List Oe} {B : Option Addr} {cB : Nat} (h : Bo w p F c q L t u ep A cA l B cB) (nn : Int) (nm : ByteArray) (gd : Bool) (hnm : nm.size ≤ 9223372036854775807) (now : Int) (hb : Small now u ep l L) (hq : q (cutB nm 12) = none) :
    Calls Try.prog 23 #[.pointer (some ⟨p, 0, none⟩), .agg #[.int .i64 c.every, .int .i64 c.wait, .int .i64 c.rise, .int .i64 c.fall, .slice A l.length cA, .slice B L.length cB, .int .i64 ep], .agg #[.int .i64 0, .int .i64 nn, .string nm, .bool gd], .int .i64 now] w fun e w' => ∃ (F' : Nat → Prop) (q' : ByteArray → Option Ho) (L' : List (Ev ByteArray)) (t' u' : Nat) (ep' : Int) (A' : Option Addr) (cA' : Nat) (l' : List Oe) (B' : Option Addr) (cB' : Nat), e = .returned (.tuple #[.agg #[.int .i64 c.every, .int .i64 c.wait, .int .i64 c.rise, .int .i64 c.fall, .slice A' l'.length cA', .slice B' L'.length cB', .int .i64 ep'], .bool true]) ∧
      Bo w' p F' c q' L' t' u' ep' A' cA' l' B' cB' ∧ Step F w w' ∧ (∀ k, F' k → F k ∨ w.heap.size ≤ k) ∧ (∀ k, blockOf A' = some k → blockOf A = some k ∨ w.heap.size ≤ k) ∧ (∀ k, blockOf B' = some k → blockOf B = some k ∨ w.heap.size ≤ k) ∧ Grow now u ep l L u' ep' l' L' := by
  have HCU := Lib.hid (fun w' => cut_calls nm 12 hnm w')
  have hsz := cutsz nm
  generalize cutB nm 12 = s at *
  have hcok := HeR.cok h.her
  obtain ⟨hb1, ⟨hb2, hb3⟩, hb4, hb5⟩ := hb
  have htk : 0 ≤ AgStr.clipT now ∧ AgStr.clipT now ≤ 1099511627776 := by unfold AgStr.clipT; omega
  have hce := hcok.1
  have HDOC := Lib.hid (fun w1 (hs : Step (fun _ => False) w w1) => dadd_new (cA := cA) (cB := cB) (h.ro.same hs) (h.ri.same hs) (by omega) (by omega) hcok ⟨hb2, by omega⟩ s gd now (h.mt.none hq))
  have HCON := Lib.hid (fun w1 (hs : Step (fun _ => False) w w1) => add_new (h.her.same hs) (by omega) ⟨hb2, by omega⟩ hsz gd now hq)
  rw [← its_tim L t s (by omega)] at HDOC
  have hlp := h.mt.len_put s ⟨⟨gd, 0, 0, AgStr.clipT now⟩, false⟩
  have hlt := timL_len L t s (AgStr.clipT now + c.every)
  have hld : now ≤ 1099511627776 → 0 ≤ now → Hea.load now (timL L t s (AgStr.clipT now + c.every)).1 ≤ Hea.load now L := fun h1 h0 => load_tim (by rw [clipT_id h0 h1]; have := hcok.1; omega) L t s
  have HMT := h.mt.put s ⟨⟨gd, 0, 0, AgStr.clipT now⟩, false⟩
  have HAJ : ∃ kk, AJ c ⟨setQ q s (some ⟨⟨gd, 0, 0, AgStr.clipT now⟩, false⟩), (timL L t s (AgStr.clipT now + c.every)).1, (timL L t s (AgStr.clipT now + c.every)).2, ep + 1, []⟩ kk := by
    obtain ⟨kk, hk⟩ := h.aj
    exact ⟨_, aj_put hk s ⟨gd, 0, 0, AgStr.clipT now⟩ (by omega) _ _ _⟩
  have HTM := timL_tms (t := t) (s := s) (v := AgStr.clipT now + c.every) h.tms
  have HNM := setQ_nms (v := some ⟨⟨gd, 0, 0, AgStr.clipT now⟩, false⟩) h.nms hsz
  generalize AgStr.clipT now + c.every = tv at *
  generalize (timL L t s tv).2 = t2 at *
  generalize (timL L t s tv).1 = L2 at *
  generalize putO l ⟨s, ⟨gd, 0, 0, AgStr.clipT now⟩, false⟩ = l2 at *
  generalize setQ q s (some ⟨⟨gd, 0, 0, AgStr.clipT now⟩, false⟩) = q2 at *
  have hgrow : Grow now u ep l L (u + 2) (ep + 1) l2 L2 := ⟨by omega, by omega, hlp.1, hlt, fun h1 h0 => by have := hld h1 h0; omega⟩
  have HFIN := And.intro HMT (And.intro HAJ (And.intro HNM HTM))
  clear HMT HAJ HNM HTM hlp hlt hld
  have HF := Lib.hid h.her.1
  have HFIN := Lib.hid HFIN
  have HG := Lib.hid hgrow
  obtain ⟨n, hn⟩ : ∃ n, l.length = n := ⟨_, rfl⟩
  obtain ⟨m, hm⟩ : ∃ m, L.length = m := ⟨_, rfl⟩
  rw [hn, hm] at HDOC
  rw [hn, hm]
  clear h hb1 hb2 hb3 hb4 hb5 hn hm hgrow
  obtain ⟨c0, c1, c2, c3⟩ := c
  simp only at HDOC HCON ⊢
  go_enter Try.func23, Try.ntmps23
  go_upto_region 1 with (fail)
  refine alloc_next3 (cs := [.int .i64 c0, .int .i64 c1, .int .i64 c2, .int .i64 c3, .slice A n cA, .slice B m cB, .int .i64 ep]) (ds := [.int .i64 0, .int .i64 nn, .string nm, .bool gd]) (es := [.int .i64 0, .int .i64 0, .int .i64 0, .int .i64 0, .slice none 0 0, .slice none 0 0, .int .i64 0]) ?_
  intro w1 hX hE hZ hs1 hz1
  obtain ⟨xb, hxb⟩ : ∃ xb, w.heap.size = xb := ⟨_, rfl⟩
  rw [hxb] at hX hE hZ hz1 ⊢
  have HXB := Lib.hid hxb
  clear hxb
  have e2 := hE.cell (i := 2) rfl
  go_upto_region 2 with (go_at_call 18; refine (HCU.out _).mono ?_; rintro e5 w5 ⟨rfl, rfl⟩)
  clear e2
  have e0 := hE.cell (i := 0) rfl
  have e3 := hE.cell (i := 3) rfl

  have y0 := hX.cell (i := 0) rfl
  have y1 := hX.cell (i := 1) rfl
  have y2 := hX.cell (i := 2) rfl
  have y3 := hX.cell (i := 3) rfl
  have y4 := hX.cell (i := 4) rfl
  have y5 := hX.cell (i := 5) rfl
  have y6 := hX.cell (i := 6) rfl
  have HD1 := Lib.hid (HDOC.out w1 hs1)
  go_upto_region 5 with (go_at_call 42; refine HD1.out.mono ?_; rintro e2 w2 ⟨A2, cA2, B2, cB2, rfl, hA2, hB2, hAf2, hBf2, hs2⟩)
  refine alloc_next (cs := [.int .i64 c0, .int .i64 c1, .int .i64 c2, .int .i64 c3, .slice A2 l2.length cA2, .slice B2 (its L2).length cB2, .int .i64 (ep + 1)]) ?_
  intro w3 hY hs3
  have hst3 := (hs1.same hs2).same hs3
  have hE3 := (hE.keep hs2 (fun h => h)).keep hs3 (fun h => h)
  have hZ3 := (hZ.keep hs2 (fun h => h)).keep hs3 (fun h => h)
  have hz2 := hs2.size
  have hyl := hY.lt
  have hA3 := hA2.keep hs3 (fun _ _ h => h)
  have hB3 := hB2.keep hs3 (fun _ _ h => h)
  obtain ⟨yb, hyb⟩ : ∃ yb, w2.heap.size = yb := ⟨_, rfl⟩
  rw [hyb] at hY hz2 hyl ⊢
  clear y0 y1 y2 y3 y4 y5 y6 e0 e3 hE hZ hX hs2 hs3 HD1 hA2 hB2 hs1 hyb
  have e3 := hE3.cell (i := 3) rfl
  have y0 := hY.cell (i := 0) rfl
  have y1 := hY.cell (i := 1) rfl
  have y2 := hY.cell (i := 2) rfl
  have y3 := hY.cell (i := 3) rfl
  have y4 := hY.cell (i := 4) rfl
  have y5 := hY.cell (i := 5) rfl
  have y6 := hY.cell (i := 6) rfl
  have hq3 : Step (fun _ => False) w3 w3.drew := (Step.refl _ _).drew
  have HC3 := Lib.hid (HCON.out _ (hst3.same hq3))
  have HFn : ∀ k, F k → k < xb := fun k hk => by have := HF.out k hk; have := HXB.out; omega
  have HY := Lib.hid hY
  have HZ := Lib.hid hZ3
  clear hY hZ3 hE3 HCON HDOC
  go_region_with (go_at_call 8; refine HC3.out.mono ?_; rintro e5 w5 ⟨F5, rfl, hI5, hs5, hn5⟩; have hY5 := (HY.out.keep hq3 (fun h => h)).keep hs5 (fun h => by have := HFn _ h; omega); have hZ5 := (HZ.out.keep hq3 (fun h => h)).keep hs5 (fun h => by have := HFn _ h; omega); clear y0 y1 y2 y3 y4 y5 y6; have r0 := hZ5.cell (i := 0) rfl; have k0 := hZ5.free 0; have r1 := hZ5.cell (i := 1) rfl; have k1 := hZ5.free 1; have r2 := hZ5.cell (i := 2) rfl; have k2 := hZ5.free 2; have r3 := hZ5.cell (i := 3) rfl; have k3 := hZ5.free 3; have r4 := hZ5.cell (i := 4) rfl; have k4 := hZ5.free 4; have r5 := hZ5.cell (i := 5) rfl; have k5 := hZ5.free 5; have r6 := hZ5.cell (i := 6) rfl; have k6 := hZ5.free 6; have y0 := hY5.cell (i := 0) rfl; have y1 := hY5.cell (i := 1) rfl; have y2 := hY5.cell (i := 2) rfl; have y3 := hY5.cell (i := 3) rfl; have y4 := hY5.cell (i := 4) rfl; have y5 := hY5.cell (i := 5) rfl; have y6 := hY5.cell (i := 6) rfl)
  all_goals
    have hZ10 := (((((((hZ5.set 0 (.int .i64 c0)).set 1 (.int .i64 c1)).set 2 (.int .i64 c2)).set 3 (.int .i64 c3)).set 4 (.slice A2 l2.length cA2)).set 5 (.slice B2 (its L2).length cB2)).set 6 (.int .i64 (ep + 1)))
    have hs10 := ((((((((Step.refl (· = xb + 2) w5).setCell (p := ⟨xb + 2, 0, none⟩) (fun _ => rfl) (.int .i64 c0)).setCell (p := ⟨xb + 2, 1, none⟩) (fun _ => rfl) (.int .i64 c1)).setCell (p := ⟨xb + 2, 2, none⟩) (fun _ => rfl) (.int .i64 c2)).setCell (p := ⟨xb + 2, 3, none⟩) (fun _ => rfl) (.int .i64 c3)).setCell (p := ⟨xb + 2, 4, none⟩) (fun _ => rfl) (.slice A2 l2.length cA2)).setCell (p := ⟨xb + 2, 5, none⟩) (fun _ => rfl) (.slice B2 (its L2).length cB2)).setCell (p := ⟨xb + 2, 6, none⟩) (fun _ => rfl) (.int .i64 (ep + 1)))
    have HZ10 := Lib.hid hZ10
    have HS10 := Lib.hid hs10
    clear hZ5 hZ10 hs10 hY5 r0 r1 r2 r3 r4 r5 r6 k0 k1 k2 k3 k4 k5 k6 y0 y1 y2 y3 y4 y5 y6 e3
    go_wp2
    try simp only [Exit.inBlock, Exit.then]
    have hxw := HXB.out
    have hA4 := hA3.keep hq3 (fun _ _ h => h)
    have hB4 := hB3.keep hq3 (fun _ _ h => h)
    have hAl := fun k (hk : blockOf A2 = some k) => FSeg.lt hA4 hk
    have hBl := fun k (hk : blockOf B2 = some k) => FSeg.lt hB4 hk
    have hqz : w3.drew.heap.size = w3.heap.size := rfl
    have hz3 := hst3.size
    obtain ⟨⟨hn2, hm2⟩, hBo, hSt, hFF⟩ := Bo.fin (zb := xb + 2) (w := w) (cA := cA2) (cB := cB2) HF.out (hst3.same hq3) hA4.rd hB4.rd rfl (FSeg.le hB4) (fun k hk => by have := hAf2 k hk; have := hAl k hk; omega) (fun k hk => by have := hBf2 k hk; have := hBl k hk; omega) (by omega) hs5 hn5 hI5 (by first | exact HS10.out | exact HS10.out.drew) HFIN.out.1 HFIN.out.2.1 HFIN.out.2.2.1 HFIN.out.2.2.2
    first
      | (refine post_cell_tmp (cs := [.int .i64 c0, .int .i64 c1, .int .i64 c2, .int .i64 c3, .slice A2 l2.length cA2, .slice B2 (its L2).length cB2, .int .i64 (ep + 1)]) rfl rfl HZ10.out Try.underlying60 rfl (by kernel_rfl) rfl rfl ?_; exact ⟨F5, q2, L2, t2, u + 2, ep + 1, A2, cA2, l2, B2, cB2, by rw [← hm2]; rfl, hBo, hSt, hFF, fun k hk => .inr (by have := hAf2 k hk; omega), fun k hk => .inr (by have := hBf2 k hk; omega), HG.out⟩)
      | (refine post_cell_tmp (cs := [.int .i64 c0, .int .i64 c1, .int .i64 c2, .int .i64 c3, .slice A2 l2.length cA2, .slice B2 (its L2).length cB2, .int .i64 (ep + 1)]) rfl rfl HZ10.out.drew Try.underlying60 rfl (by kernel_rfl) rfl rfl ?_; exact ⟨F5, q2, L2, t2, u + 2, ep + 1, A2, cA2, l2, B2, cB2, by rw [← hm2]; rfl, hBo, hSt, hFF, fun k hk => .inr (by have := hAf2 k hk; omega), fun k hk => .inr (by have := hBf2 k hk; omega), HG.out⟩)
end Go.Proofs.Ytghiklaeenhljaa.HeD
