/- law 23: a call of both. Printed by wip/tools/gen_hedo.py; own work of this seat. -/
import Derived.Test.YtghiklaeenhljaaHeDo0
import Derived.Test.YtghiklaeenhljaaHeE1
namespace Go.Proofs.Ytghiklaeenhljaa.HeD
open Go.RowKit Go.Proofs.Ytghiklaeenhljaa.Kit Go.Proofs.Ytghiklaeenhljaa.It Go.Proofs.Ytghiklaeenhljaa.Hea Go.Proofs.Ytghiklaeenhljaa.AgP Go.Proofs.Ytghiklaeenhljaa.Cut Go.Proofs.YtghiklaeenhljaaW.PrintWords Go.Proofs.Ytghiklaeenhljaa
set_option linter.unusedVariables false
set_option linter.unusedSimpArgs false

theorem runs_ex {c : Cf} (hc : CfOk c) {now : Int} : ∀ (N : Nat) (S : Hs) (k : ByteArray → Int), AJ c S k → Hea.load now S.L ≤ N → ∃ R, Runs c now S R := by
  intro N
  induction N with
  | zero =>
    intro S k hk hl
    cases hS : S.L with
    | nil => exact ⟨S, .stop S (fun s hs => by rw [hS] at hs; cases hs)⟩
    | cons s r =>
      by_cases h : now < s.tm
      · exact ⟨S, .stop S (fun y hy => by
          rw [hS] at hy
          obtain rfl : s = y := by simpa using hy
          exact h)⟩
      · have hnd := hk.nd
        rw [hS] at hnd hl
        have := load_step hc hnd h zHo S.t
        omega
  | succ N ih =>
    intro S k hk hl
    cases hS : S.L with
    | nil => exact ⟨S, .stop S (fun s hs => by rw [hS] at hs; cases hs)⟩
    | cons s r =>
      by_cases h : now < s.tm
      · exact ⟨S, .stop S (fun y hy => by
          rw [hS] at hy
          obtain rfl : s = y := by simpa using hy
          exact h)⟩
      · have hnd := hk.nd
        rw [hS] at hnd hl
        have h1 := load_step hc hnd h ((S.q s.key).getD zHo) S.t
        obtain ⟨hk2, _, _⟩ := aj_step hc hk hS
        obtain ⟨R, hR⟩ := ih (stepH c S s r) _ hk2 (by show Hea.load now (timL r S.t s.key (turV ((S.q s.key).getD zHo) c s.tm)).1 ≤ N; omega)
        exact ⟨R, .step S R s r hS h hR⟩
theorem runs_det {c : Cf} {now : Int} {S R : Hs} (h : Runs c now S R) : ∀ R2, Runs c now S R2 → R2 = R := by
  induction h with
  | stop S h => exact fun R2 k => runs_stop k h
  | step S R s r e h k ih => exact fun R2 k2 => ih R2 (runs_next k2 e h)
theorem Bo.fin2 {w w3 w5 w6 : World} {p zb : Nat} {F F5 : Nat → Prop} {c : Cf} {q : ByteArray → Option Ho} {L : List (Ev ByteArray)} {t u : Nat} {ep : Int} {A : Option Addr} {cA n m : Nat} {l : List Oe} {ts : List It} {B : Option Addr} {cB : Nat} (hF : ∀ k, F k → k < w.heap.size) (hs3 : Step (fun _ => False) w w3) (hA : ORd w3 A n l) (hB : IRd w3 B m ts) (hts : its L = ts) (hle : m ≤ cB)
    (hAb : ∀ k, blockOf A = some k → ¬ F k ∧ k < w3.heap.size ∧ k ≠ zb) (hBb : ∀ k, blockOf B = some k → ¬ F k ∧ k < w3.heap.size ∧ k ≠ zb) (hz : w.heap.size ≤ zb ∧ zb < w3.heap.size) (hs5 : Step F w3 w5) (hn5 : ∀ k, F5 k → F k ∨ w3.heap.size ≤ k) (hI : HeR w5 p F5 c q L t u ep) (hs6 : Step (· = zb) w5 w6) (hM : Mt q l) (haj : ∃ kk, AJ c ⟨q, L, t, ep, []⟩ kk) (hnm : ∀ s, (q s).isSome = true → s.size ≤ 1000) (htm : ∀ e ∈ L, e.tm ≤ 1099511627776) :
    (n = l.length ∧ m = L.length) ∧ Bo w6 p F5 c q L t u ep A cA l B cB ∧ Step F w w6 ∧ (∀ k, F5 k → F k ∨ w.heap.size ≤ k) := by
  have hz3 := hs3.size
  have hz5 := hs5.size
  have hz6 := hs6.size
  have hAn : ∀ k, blockOf A = some k → ¬ F5 k := fun k hk h => (hn5 k h).elim (hAb k hk).1 (fun h => by have := hAb k hk; omega)
  have hBn : ∀ k, blockOf B = some k → ¬ F5 k := fun k hk h => (hn5 k h).elim (hBb k hk).1 (fun h => by have := hBb k hk; omega)
  have hn := hA.len
  have hm := hB.len
  subst hts
  rw [its_length] at hm
  subst hn hm
  refine ⟨⟨rfl, rfl⟩, ⟨hI.keep hs6 (fun k hk e => (hn5 k hk).elim (fun h => by have := hF k h; omega) (fun h => by omega)), (hA.keep hs5 (fun k hk => (hAb k hk).1)).keep hs6 (fun k hk => (hAb k hk).2.2), (hB.keep hs5 (fun k hk => (hBb k hk).1)).keep hs6 (fun k hk => (hBb k hk).2.2), hle, hM, ⟨hAn, hBn⟩, ⟨fun k hk => by have := hAb k hk; omega, fun k hk => by have := hBb k hk; omega⟩, haj, hnm, htm⟩, ((hs3.mono (fun _ _ h => h.elim)).same hs5).trans hs6 (fun j hj e => by omega), fun k hk => (hn5 k hk).imp id (fun h => by omega)⟩

set_option maxRecDepth 100000 in
set_option maxHeartbeats 8000000 in
theorem do_run {w : World} {p : Nat} {F : Nat → Prop} {c : Cf} {q : ByteArray → Option Ho} {L : List (Ev ByteArray)} {t u : Nat} {ep : Int} {A : Option Addr} {cA : Nat} {l : List Oe} {B : Option Addr} {cB : Nat} (h : Bo w p F c q L t u ep A cA l B cB) (nn : Int) (nm : ByteArray) (gd : Bool) (hnm : nm.size ≤ 9223372036854775807) (now : Int) (hb : Small now u ep l L) :
    Calls Try.prog 23 #[.pointer (some ⟨p, 0, none⟩), .agg #[.int .i64 c.every, .int .i64 c.wait, .int .i64 c.rise, .int .i64 c.fall, .slice A l.length cA, .slice B L.length cB, .int .i64 ep], .agg #[.int .i64 2, .int .i64 nn, .string nm, .bool gd], .int .i64 now] w fun e w' => ∃ (F' : Nat → Prop) (q' : ByteArray → Option Ho) (L' : List (Ev ByteArray)) (t' u' : Nat) (ep' : Int) (A' : Option Addr) (cA' : Nat) (l' : List Oe) (B' : Option Addr) (cB' : Nat), e = .returned (.tuple #[.agg #[.int .i64 c.every, .int .i64 c.wait, .int .i64 c.rise, .int .i64 c.fall, .slice A' l'.length cA', .slice B' L'.length cB', .int .i64 ep'], .bool true]) ∧
      Bo w' p F' c q' L' t' u' ep' A' cA' l' B' cB' ∧ Step F w w' ∧ (∀ k, F' k → F k ∨ w.heap.size ≤ k) ∧ (∀ k, blockOf A' = some k → blockOf A = some k ∨ w.heap.size ≤ k) ∧ (∀ k, blockOf B' = some k → blockOf B = some k ∨ w.heap.size ≤ k) ∧ Grow now u ep l L u' ep' l' L' := by
  have HCU := Lib.hid (fun w' => cut_calls nm 12 hnm w')
  have hsz := cutsz nm
  generalize cutB nm 12 = s at *
  have hcok := HeR.cok h.her
  obtain ⟨hb1, ⟨hb2, hb3⟩, hb4, hb5⟩ := hb
  obtain ⟨kk, hkk⟩ := h.aj
  obtain ⟨R, hR⟩ := runs_ex hcok (now := now) _ ⟨q, L, t, ep, []⟩ kk hkk (Nat.le_refl _)
  have HDET := Lib.hid (runs_det hR)
  obtain ⟨haj, _, hep, _, _, hnms, hLl, hevl⟩ := run_told hcok hR hkk
  obtain ⟨l2, hRD, HMT, hl2⟩ := runs_d hcok hR (ev := []) hkk h.mt (HeR.pok h.her) h.tms (by omega) (by show L.length ≤ 1000; omega) ⟨hb2, by show ep + (Hea.load now L : Int) ≤ 1000000; omega⟩
  have HDOC := Lib.hid (fun w1 (hs : Step (fun _ => False) w w1) => drun_calls (cA := cA) (cB := cB) (h.ro.same hs) (h.ri.same hs) h.le (fun k hk => Nat.lt_of_lt_of_le (h.lt.1 k hk) hs.size) (fun k hk => Nat.lt_of_lt_of_le (h.lt.2 k hk) hs.size) hcok ep now hRD (by show R.ev.length ≤ 100000; omega) (by omega))
  have HCON := Lib.hid (fun w1 (hs : Step (fun _ => False) w w1) => run_calls (h.her.same hs) now (by omega) (by omega) (fun e he => ⟨hkk.tm0 e he, h.tms e he⟩))
  have HNM : ∀ s, (R.q s).isSome = true → s.size ≤ 1000 := fun s hs => h.nms s (by rw [← hnms s]; exact hs)
  have HSP := Lib.hid h.sep
  have HLT := Lib.hid h.lt
  have HF := Lib.hid h.her.1
  have HRH := Lib.hid (runs_head hR)
  obtain ⟨q2, L2, t2, ep2, ev⟩ := R
  simp only at HDOC haj hep hLl hevl HMT HNM
  have hevb : ev.length ≤ 60000 := by omega
  have HFIN := Lib.hid (And.intro HMT (And.intro (⟨_, haj⟩ : ∃ kk, AJ c ⟨q2, L2, t2, ep2, []⟩ kk) HNM))
  have HB1 := Lib.hid (And.intro hb1 (And.intro hb3 (And.intro hl2 hLl)))
  obtain ⟨n, hn⟩ : ∃ n, l.length = n := ⟨_, rfl⟩
  obtain ⟨m, hm⟩ : ∃ m, L.length = m := ⟨_, rfl⟩
  rw [hn, hm] at HDOC
  rw [hn, hm]
  have HNN := Lib.hid hn
  clear h hkk hR hRD haj hep hnms HMT HNM hb1 hb3 hb4 hb5 hn hm hl2 hLl hevl
  obtain ⟨c0, c1, c2, c3⟩ := c
  simp only at HDOC HCON ⊢
  go_enter Try.func23, Try.ntmps23
  go_upto_region 1 with (fail)
  refine alloc_next3 (cs := [.int .i64 c0, .int .i64 c1, .int .i64 c2, .int .i64 c3, .slice A n cA, .slice B m cB, .int .i64 ep]) (ds := [.int .i64 2, .int .i64 nn, .string nm, .bool gd]) (es := [.int .i64 0, .int .i64 0, .int .i64 0, .int .i64 0, .slice none 0 0, .slice none 0 0, .int .i64 0]) ?_
  intro w1 hX hE hZ hs1 hz1
  obtain ⟨xb, hxb⟩ : ∃ xb, w.heap.size = xb := ⟨_, rfl⟩
  rw [hxb] at hX hE hZ hz1 ⊢
  have HXB := Lib.hid hxb
  clear hxb
  have e2 := hE.cell (i := 2) rfl
  go_upto_region 2 with (go_at_call 18; refine (HCU.out _).mono ?_; rintro e5 w5 ⟨rfl, rfl⟩)
  clear e2
  have e0 := hE.cell (i := 0) rfl
  have e3 := hE.cell (i := 3) rfl

  have y0 := hX.cell (i := 0) rfl
  have y1 := hX.cell (i := 1) rfl
  have y2 := hX.cell (i := 2) rfl
  have y3 := hX.cell (i := 3) rfl
  have y4 := hX.cell (i := 4) rfl
  have y5 := hX.cell (i := 5) rfl
  have y6 := hX.cell (i := 6) rfl
  have HD1 := Lib.hid (HDOC.out w1 hs1)
  go_upto_region 11 with (go_at_call 44; refine HD1.out.mono ?_; rintro e2 w2 ⟨A2, cA2, B2, cB2, E2, cE2, rfl, hA2, hB2, hle2, hE2, hAl2, hBl2, hAf2, hBf2, hEf2, hs2⟩)
  refine alloc_next (cs := [.int .i64 c0, .int .i64 c1, .int .i64 c2, .int .i64 c3, .slice A2 l2.length cA2, .slice B2 (its L2).length cB2, .int .i64 ep2]) ?_
  intro w3 hY hs3
  have hst3 := (hs1.same hs2).same hs3
  have hZ3 := (hZ.keep hs2 (fun h => h)).keep hs3 (fun h => h)
  have hz2 := hs2.size
  have hz23 := hs3.size
  have hyl := hY.lt
  have hA3 := hA2.same hs3
  have hB3 := hB2.same hs3
  have hM3 := hE2.keep hs3 (fun _ _ h => h)
  obtain ⟨yb, hyb⟩ : ∃ yb, w2.heap.size = yb := ⟨_, rfl⟩
  rw [hyb] at hY hz2 hyl hz23 hAl2 hBl2 ⊢
  clear y0 y1 y2 y3 y4 y5 y6 e0 e3 hE hZ hX hs2 hs3 HD1 hA2 hB2 hE2 hs1 hyb
  have hq3 : Step (fun _ => False) w3 w3.drew := (Step.refl _ _).drew
  have HC3 := Lib.hid (HCON.out _ (hst3.same hq3))
  have HFn : ∀ k, F k → k < xb := fun k hk => by have := HF.out k hk; have := HXB.out; omega
  have hxw := HXB.out
  have y0 := hY.cell (i := 0) rfl
  have y1 := hY.cell (i := 1) rfl
  have y2 := hY.cell (i := 2) rfl
  have y3 := hY.cell (i := 3) rfl
  have y4 := hY.cell (i := 4) rfl
  have y5 := hY.cell (i := 5) rfl
  have y6 := hY.cell (i := 6) rfl
  have HY := Lib.hid (hY.keep hq3 (fun h => h))
  have HZ := Lib.hid (hZ3.keep hq3 (fun h => h))
  have HM3 := Lib.hid (hM3.keep hq3 (fun _ _ h => h))
  clear HCON HDOC hY hZ3 hM3
  go_region_with (first
    | (go_at_call 10; refine HC3.out.mono ?_; rintro e4 w4 ⟨R2, F5, V, cV, u2, hR2, rfl, hV, hVf, hI4, hu2, hep4, htm4, hs4, hn4⟩; obtain rfl := HDET.out R2 hR2; simp only at hV hI4 hu2 hep4 htm4; have hY4 := HY.out.keep hs4 (fun h => by have := HFn _ h; omega); have HZ4 := Lib.hid (HZ.out.keep hs4 (fun h => by have := HFn _ h; omega)); have HM4 := Lib.hid (HM3.out.keep hs4 (fun k hk h => by have := HFn _ h; have := hEf2 k hk; omega)); have HY4 := Lib.hid hY4; have HV := Lib.hid hV; clear y0 y1 y2 y3 y4 y5 y6; have y0 := hY4.cell (i := 0) rfl; have y1 := hY4.cell (i := 1) rfl; have y2 := hY4.cell (i := 2) rfl; have y3 := hY4.cell (i := 3) rfl; have y4 := hY4.cell (i := 4) rfl; have y5 := hY4.cell (i := 5) rfl; have y6 := hY4.cell (i := 6) rfl; clear hY4 hV)
    | (go_at_call 45; refine (same_calls HV.out HM4.out (by omega)).mono ?_; rintro e5 w5 ⟨rfl, hs5⟩; have hY5 := HY4.out.keep hs5 (fun h => h); have hZ5 := HZ4.out.keep hs5 (fun h => h); clear y0 y1 y2 y3 y4 y5 y6; have r0 := hZ5.cell (i := 0) rfl; have k0 := hZ5.free 0; have r1 := hZ5.cell (i := 1) rfl; have k1 := hZ5.free 1; have r2 := hZ5.cell (i := 2) rfl; have k2 := hZ5.free 2; have r3 := hZ5.cell (i := 3) rfl; have k3 := hZ5.free 3; have r4 := hZ5.cell (i := 4) rfl; have k4 := hZ5.free 4; have r5 := hZ5.cell (i := 5) rfl; have k5 := hZ5.free 5; have r6 := hZ5.cell (i := 6) rfl; have k6 := hZ5.free 6; have y0 := hY5.cell (i := 0) rfl; have y1 := hY5.cell (i := 1) rfl; have y2 := hY5.cell (i := 2) rfl; have y3 := hY5.cell (i := 3) rfl; have y4 := hY5.cell (i := 4) rfl; have y5 := hY5.cell (i := 5) rfl; have y6 := hY5.cell (i := 6) rfl))
  all_goals
    have hZ10 := (((((((hZ5.set 0 (.int .i64 c0)).set 1 (.int .i64 c1)).set 2 (.int .i64 c2)).set 3 (.int .i64 c3)).set 4 (.slice A2 l2.length cA2)).set 5 (.slice B2 (its L2).length cB2)).set 6 (.int .i64 ep2))
    have hs10 := ((((((((Step.refl (· = xb + 2) w5).setCell (p := ⟨xb + 2, 0, none⟩) (fun _ => rfl) (.int .i64 c0)).setCell (p := ⟨xb + 2, 1, none⟩) (fun _ => rfl) (.int .i64 c1)).setCell (p := ⟨xb + 2, 2, none⟩) (fun _ => rfl) (.int .i64 c2)).setCell (p := ⟨xb + 2, 3, none⟩) (fun _ => rfl) (.int .i64 c3)).setCell (p := ⟨xb + 2, 4, none⟩) (fun _ => rfl) (.slice A2 l2.length cA2)).setCell (p := ⟨xb + 2, 5, none⟩) (fun _ => rfl) (.slice B2 (its L2).length cB2)).setCell (p := ⟨xb + 2, 6, none⟩) (fun _ => rfl) (.int .i64 ep2))
    have HZ10 := Lib.hid hZ10
    have HS10 := Lib.hid hs10
    clear hZ5 hZ10 hs10 hY5 r0 r1 r2 r3 r4 r5 r6 k0 k1 k2 k3 k4 k5 k6 y0 y1 y2 y3 y4 y5 y6
    go_wp2
    try simp only [Exit.inBlock, Exit.then]
    have hz3 := hst3.size
    have hqz : w3.drew.heap.size = w3.heap.size := rfl
    obtain ⟨hb1, hb3, hl2, hLl⟩ := HB1.out
    obtain ⟨⟨hn2, hm2⟩, hBo, hSt, hFF⟩ := Bo.fin2 (zb := xb + 2) (w := w) (cA := cA2) (cB := cB2) HF.out (hst3.same hq3) (hA3.same hq3) (hB3.same hq3) rfl hle2 (fun k hk => ⟨(hAf2 k hk).elim (HSP.out.1 k) (fun h h2 => by have := HFn k h2; omega), by have := hAl2 k hk; omega, (hAf2 k hk).elim (fun h => by have := HLT.out.1 k h; omega) (fun h => by omega)⟩) (fun k hk => ⟨(hBf2 k hk).elim (HSP.out.2 k) (fun h h2 => by have := HFn k h2; omega), by have := hBl2 k hk; omega, (hBf2 k hk).elim (fun h => by have := HLT.out.2 k h; omega) (fun h => by omega)⟩) (by omega) (hs4.same (hs5.mono (fun _ _ h => h.elim))) hn4 (hI4.same hs5) (by first | exact HS10.out | exact HS10.out.drew) HFIN.out.1 HFIN.out.2.1 HFIN.out.2.2 (fun e he => (htm4 e he).2)
    have hG : Grow now u ep l L u2 ep2 l2 L2 := ⟨by omega, by omega, by omega, by omega, fun _ _ => by have := load_zero (all_later (HeR.sorted hI4) HRH.out); omega⟩
    first
      | (refine post_cell_tmp (cs := [.int .i64 c0, .int .i64 c1, .int .i64 c2, .int .i64 c3, .slice A2 l2.length cA2, .slice B2 (its L2).length cB2, .int .i64 ep2]) rfl rfl HZ10.out Try.underlying60 rfl (by kernel_rfl) rfl rfl ?_; exact ⟨F5, q2, L2, t2, u2, ep2, A2, cA2, l2, B2, cB2, by rw [← hm2]; rfl, hBo, hSt, hFF, fun k hk => (hAf2 k hk).imp id (fun h => by omega), fun k hk => (hBf2 k hk).imp id (fun h => by omega), hG⟩)
      | (refine post_cell_tmp (cs := [.int .i64 c0, .int .i64 c1, .int .i64 c2, .int .i64 c3, .slice A2 l2.length cA2, .slice B2 (its L2).length cB2, .int .i64 ep2]) rfl rfl HZ10.out.drew Try.underlying60 rfl (by kernel_rfl) rfl rfl ?_; exact ⟨F5, q2, L2, t2, u2, ep2, A2, cA2, l2, B2, cB2, by rw [← hm2]; rfl, hBo, hSt, hFF, fun k hk => (hAf2 k hk).imp id (fun h => by omega), fun k hk => (hBf2 k hk).imp id (fun h => by omega), hG⟩)
end Go.Proofs.Ytghiklaeenhljaa.HeD
