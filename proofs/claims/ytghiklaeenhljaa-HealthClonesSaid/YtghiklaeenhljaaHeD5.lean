/- the document's health: Result, Add. Own work of this seat; no condition but on lengths and numbers. -/
import Derived.Test.YtghiklaeenhljaaHeD4
import Derived.Deep.RegionHeld3
namespace Go.Proofs.Ytghiklaeenhljaa.HeD
open Go.RowKit Go.Proofs.Ytghiklaeenhljaa.Kit Go.Proofs.Ytghiklaeenhljaa.It Go.Proofs.Ytghiklaeenhljaa.Hea Go.Proofs.YtghiklaeenhljaaW.PrintWords Go.Proofs.Ytghiklaeenhljaa
set_option linter.unusedVariables false
set_option linter.unusedSimpArgs false

set_option maxRecDepth 100000 in
set_option maxHeartbeats 4000000 in
theorem dadd_new {w : World} {A B : Option Addr} {n cA m cB : Nat} {l : List Oe} {ts : List It} (hA : ORd w A n l) (hB : IRd w B m ts) (hn : n ≤ 10000) (hm : m ≤ 10000) {c : Cf} (hc : CfOk c) {ep : Int} (hep : 0 ≤ ep ∧ ep ≤ 1000000000) (s : ByteArray) (up : Bool) (now : Int) (hx0 : getO l s = none) :
    Calls Try.prog 42 #[.agg #[.int .i64 c.every, .int .i64 c.wait, .int .i64 c.rise, .int .i64 c.fall, .slice A n cA, .slice B m cB, .int .i64 ep], .string s, .bool up, .int .i64 now] w fun e w' => ∃ A' cA' B' cB',
      e = .returned (.tuple #[.agg #[.int .i64 c.every, .int .i64 c.wait, .int .i64 c.rise, .int .i64 c.fall, .slice A' (putO l ⟨s, ⟨up, 0, 0, AgStr.clipT now⟩, false⟩).length cA', .slice B' (timI ts s (AgStr.clipT now + c.every)).length cB', .int .i64 (ep + 1)], .bool true]) ∧
      OW w' A' (putO l ⟨s, ⟨up, 0, 0, AgStr.clipT now⟩, false⟩).length cA' (putO l ⟨s, ⟨up, 0, 0, AgStr.clipT now⟩, false⟩) ∧ IW w' B' (timI ts s (AgStr.clipT now + c.every)).length cB' (timI ts s (AgStr.clipT now + c.every)) ∧
      (∀ k, blockOf A' = some k → w.heap.size ≤ k) ∧ (∀ k, blockOf B' = some k → w.heap.size ≤ k) ∧ Step (fun _ => False) w w' := by
  have HF := Lib.hid (fun w1 (hs : Step (fun _ => False) w w1) => find_calls (B := B) (cA := cA) (m := m) (cB := cB) c ep (hA.same hs) (by omega) s)
  have HP := Lib.hid (fun w1 (hs : Step (fun _ => False) w w1) => put_calls (cA := cA) (hA.same hs) (by omega) ⟨s, ⟨up, 0, 0, AgStr.clipT now⟩, false⟩)
  have HS := Lib.hid (fun w1 (hs : Step (fun _ => False) w w1) A' n' cA' => dset_calls (cB := cB) (hB.same hs) (by omega) c A' n' cA' (ep + 1) s (AgStr.clipT now + c.every))
  have HT := Lib.hid (fun w1 => dtick_calls now w1)
  have htk : 0 ≤ AgStr.clipT now ∧ AgStr.clipT now ≤ 1099511627776 := by unfold AgStr.clipT; omega
  have hce := hc.1
  rw [hx0] at HF
  generalize AgStr.clipT now = tk at *
  generalize putO l ⟨s, ⟨up, 0, 0, tk⟩, false⟩ = l2 at *
  generalize timI ts s (tk + c.every) = t2 at *
  obtain ⟨c0, c1, c2, c3⟩ := c
  simp only [onc, Option.getD_none, Option.isSome_none, zOe] at HF HP HS hce ⊢
  have hw1 : IntKind.i64.wrap (tk + c0) = tk + c0 := by rw [IntKind.wrap_i64]; omega
  have hw2 : IntKind.i64.wrap (ep + 1) = ep + 1 := by rw [IntKind.wrap_i64]; omega
  clear hA hB hx0 hc
  go_enter Try.func42, Try.ntmps42
  go_upto_region 1 with (fail)
  refine alloc_next2 (cs := [.int .i64 c0, .int .i64 c1, .int .i64 c2, .int .i64 c3, .slice A n cA, .slice B m cB, .int .i64 ep]) (ds := [.int .i64 0, .int .i64 0, .int .i64 0, .int .i64 0, .slice none 0 0, .slice none 0 0, .int .i64 0]) ?_
  intro w1 hX hZ hs1 hl1
  obtain ⟨xb, hxb⟩ : ∃ xb, w.heap.size = xb := ⟨_, rfl⟩
  rw [hxb] at hX hZ hl1 ⊢
  have HXB := Lib.hid hxb
  clear hxb
  have y0 := hX.cell (i := 0) rfl
  have y1 := hX.cell (i := 1) rfl
  have y2 := hX.cell (i := 2) rfl
  have y3 := hX.cell (i := 3) rfl
  have y4 := hX.cell (i := 4) rfl
  have y5 := hX.cell (i := 5) rfl
  have y6 := hX.cell (i := 6) rfl
  have HF1 := Lib.hid (HF.out w1 hs1)
  go_upto_region 2 with (go_at_call 57; refine HF1.out.mono ?_; rintro e2 w2 ⟨rfl, hs2⟩)
  refine alloc_next (cs := [.string ⟨#[]⟩, .bool false, .int .i64 0, .int .i64 0, .int .i64 0, .bool false]) ?_
  intro w3 hO hs3
  have hst3 := (hs1.same hs2).same hs3
  have hX3 := (hX.keep hs2 (fun h => h)).keep hs3 (fun h => h)
  have hZ3 := (hZ.keep hs2 (fun h => h)).keep hs3 (fun h => h)
  generalize w2.heap.size = ob at *
  clear y0 y1 y2 y3 y4 y5 y6 hX hZ hs2 hs3 HF1 HF hs1 hO
  go_upto_region 4 with (fail)
  have HSX := Lib.hid (fun w' (hs : Step (fun _ => False) w3 w') => (hX3.keep hs (fun h => h)).cell (i := 4) rfl)
  have HFX := Lib.hid (fun w' (hs : Step (fun _ => False) w3 w') => (hX3.keep hs (fun h => h)).free 4)
  have hq4 : Step (fun _ => False) w3 w3.drew := (Step.refl _ _).drew
  have HPX := Lib.hid (fun w' (hs : Step (fun _ => False) w3 w') => HP.out w' (hst3.same hs))
  have HX3 := Lib.hid hX3
  have HZ3 := Lib.hid hZ3
  have hxl := hZ3.lt
  clear hX3 hZ3 HP
  have y4 := HSX.out _ (Step.refl _ _)
  go_region_with (first | (go_at_call 59; refine (HT.out _).mono ?_; rintro e4 w4 ⟨rfl, rfl⟩) | (go_at_call 58; refine (HPX.out _ hq4).mono ?_; rintro e6 w6 ⟨A6, cA6, rfl, hA6, hAf6, hs6⟩; have hq6 : Step (fun _ => False) w3 w6 := hq4.same hs6; have g4 := HSX.out _ hq6; have f4 := HFX.out _ hq6))
  all_goals
    clear y4 g4 f4
    go_upto_region 5 with (fail)
    first | refine put_plain (HX3.out.keep hq6 (fun h => h)) ?_ | refine put_drew (HX3.out.keep hq6 (fun h => h)) ?_
    intro w7 hX7 hs7
    have hz3 := hst3.size
    have hz6 := hq6.size
    have hxw := HXB.out
    have hst6 := hst3.same hq6
    have hst7 : Step (fun _ => False) w w7 := hst6.trans hs7 (fun j hj e => by omega)
    have hA7 := hA6.keep hs7 (fun k hk e => by have := hAf6 k hk; have h2 : w3.drew.heap.size = w3.heap.size := rfl; omega)
    have hZ7 := (HZ3.out.keep hq6 (fun h => h)).keep hs7 (fun e => by omega)
    have hAf7 : ∀ k, blockOf A6 = some k → xb + 1 < k := fun k hk => by have := hAf6 k hk; have h2 : w3.drew.heap.size = w3.heap.size := rfl; omega
    have y6 := hX7.cell (i := 6) rfl
    have f6 := hX7.free 6
    clear hA6 hAf6 hs6 hs7 hst6
    go_upto_region 6 with (fail)
    first | refine put_plain hX7 ?_ | refine put_drew hX7 ?_
    intro w8 hX8 hs8
    have hst8 : Step (fun _ => False) w w8 := hst7.trans hs8 (fun j hj e => by omega)
    have hA8 := hA7.keep hs8 (fun k hk e => by have := hAf7 k hk; omega)
    have hZ8 := hZ7.keep hs8 (fun e => by omega)
    have hz8 := hst8.size
    have hx8 := hZ8.lt
    clear y6 f6 hX7 hA7 hZ7 hs8 hst7
    have HS8 := Lib.hid (fun w' (hs : Step (fun _ => False) w8 w') => HS.out w' (hst8.same hs) A6 l2.length cA6)
    have HSY := Lib.hid (fun w' (hs : Step (· = xb + 1) w8 w') => (⟨(hX8.keep hs (fun h => by omega)).cell (i := 0) rfl, (hX8.keep hs (fun h => by omega)).cell (i := 1) rfl, (hX8.keep hs (fun h => by omega)).cell (i := 2) rfl, (hX8.keep hs (fun h => by omega)).cell (i := 3) rfl, (hX8.keep hs (fun h => by omega)).cell (i := 4) rfl, (hX8.keep hs (fun h => by omega)).cell (i := 5) rfl, (hX8.keep hs (fun h => by omega)).cell (i := 6) rfl⟩ : w'.cell? ⟨xb, 0, none⟩ = some (.int .i64 c0) ∧ w'.cell? ⟨xb, 1, none⟩ = some (.int .i64 c1) ∧ w'.cell? ⟨xb, 2, none⟩ = some (.int .i64 c2) ∧ w'.cell? ⟨xb, 3, none⟩ = some (.int .i64 c3) ∧ w'.cell? ⟨xb, 4, none⟩ = some (.slice A6 l2.length cA6) ∧ w'.cell? ⟨xb, 5, none⟩ = some (.slice B m cB) ∧ w'.cell? ⟨xb, 6, none⟩ = some (.int .i64 (ep + 1))))
    have hp4 : Step (fun _ => False) w8 w8.drew := (Step.refl _ _).drew
    have hm4 : Step (· = xb + 1) w8 w8.drew := (Step.refl _ _).drew
    have HZ8 := Lib.hid (fun w' (hs : Step (fun _ => False) w8 w') => hZ8.keep hs (fun h => h))
    have HA8 := Lib.hid hA8
    have HAF := Lib.hid hAf7
    clear hX8 hZ8 hA8 hAf7
    obtain ⟨y0, y1, y2, y3, y4, y5, y6⟩ := HSY.out _ (Step.refl _ _)
    go_region_with (first | (go_at_call 59; refine (HT.out _).mono ?_; rintro e8 w8' ⟨rfl, rfl⟩) | (go_at_call 60; refine (HS8.out _ hp4).mono ?_; rintro e9 w9 ⟨B9, cB9, rfl, hB9, hBf9, hs9⟩; have hp6 : Step (fun _ => False) w8 w9 := hp4.same hs9; have hZ9 := HZ8.out _ hp6; have r0 := hZ9.cell (i := 0) rfl; have k0 := hZ9.free 0; have r1 := hZ9.cell (i := 1) rfl; have k1 := hZ9.free 1; have r2 := hZ9.cell (i := 2) rfl; have k2 := hZ9.free 2; have r3 := hZ9.cell (i := 3) rfl; have k3 := hZ9.free 3; have r4 := hZ9.cell (i := 4) rfl; have k4 := hZ9.free 4; have r5 := hZ9.cell (i := 5) rfl; have k5 := hZ9.free 5; have r6 := hZ9.cell (i := 6) rfl; have k6 := hZ9.free 6))
    all_goals
      have hZ10 := (((((((hZ9.set 0 (.int .i64 c0)).set 1 (.int .i64 c1)).set 2 (.int .i64 c2)).set 3 (.int .i64 c3)).set 4 (.slice A6 l2.length cA6)).set 5 (.slice B9 t2.length cB9)).set 6 (.int .i64 (ep + 1)))
      have hs10 := ((((((((Step.refl (· = xb + 1) w9).setCell (p := ⟨xb + 1, 0, none⟩) (fun _ => rfl) (.int .i64 c0)).setCell (p := ⟨xb + 1, 1, none⟩) (fun _ => rfl) (.int .i64 c1)).setCell (p := ⟨xb + 1, 2, none⟩) (fun _ => rfl) (.int .i64 c2)).setCell (p := ⟨xb + 1, 3, none⟩) (fun _ => rfl) (.int .i64 c3)).setCell (p := ⟨xb + 1, 4, none⟩) (fun _ => rfl) (.slice A6 l2.length cA6)).setCell (p := ⟨xb + 1, 5, none⟩) (fun _ => rfl) (.slice B9 t2.length cB9)).setCell (p := ⟨xb + 1, 6, none⟩) (fun _ => rfl) (.int .i64 (ep + 1)))
      have HZ10 := Lib.hid hZ10
      have HS10 := Lib.hid hs10
      clear hZ9 hZ10 hs10 r0 r1 r2 r3 r4 r5 r6 k0 k1 k2 k3 k4 k5 k6 y0 y1 y2 y3 y4 y5 y6
      go_wp2
      try simp only [Exit.inBlock, Exit.then]
      have hbf : ∀ k, blockOf B9 = some k → w8.heap.size ≤ k := hBf9
      first
        | (refine post_cell_tmp (cs := [.int .i64 c0, .int .i64 c1, .int .i64 c2, .int .i64 c3, .slice A6 l2.length cA6, .slice B9 t2.length cB9, .int .i64 (ep + 1)]) rfl rfl HZ10.out Try.underlying60 rfl (by kernel_rfl) rfl rfl ?_; exact ⟨A6, cA6, B9, cB9, rfl, (HA8.out.keep hp6 (fun _ _ h => h)).keep HS10.out (fun k hk e => by have := HAF.out k hk; omega), hB9.keep HS10.out (fun k hk e => by have := hbf k hk; omega), fun k hk => by have := HAF.out k hk; omega, fun k hk => by have := hbf k hk; omega, (hst8.same hp6).trans HS10.out (fun j hj e => by omega)⟩)
        | (refine post_cell_tmp (cs := [.int .i64 c0, .int .i64 c1, .int .i64 c2, .int .i64 c3, .slice A6 l2.length cA6, .slice B9 t2.length cB9, .int .i64 (ep + 1)]) rfl rfl HZ10.out.drew Try.underlying60 rfl (by kernel_rfl) rfl rfl ?_; exact ⟨A6, cA6, B9, cB9, rfl, (HA8.out.keep hp6 (fun _ _ h => h)).keep HS10.out.drew (fun k hk e => by have := HAF.out k hk; omega), hB9.keep HS10.out.drew (fun k hk e => by have := hbf k hk; omega), fun k hk => by have := HAF.out k hk; omega, fun k hk => by have := hbf k hk; omega, (hst8.same hp6).trans HS10.out.drew (fun j hj e => by omega)⟩)
end Go.Proofs.Ytghiklaeenhljaa.HeD
