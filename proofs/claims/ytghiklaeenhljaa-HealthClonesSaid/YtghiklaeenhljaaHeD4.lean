/- the document's health: result. Own work of this seat; no condition but on lengths and numbers. -/
import Derived.Test.YtghiklaeenhljaaHeD3
namespace Go.Proofs.Ytghiklaeenhljaa.HeD
open Go.RowKit Go.Proofs.Ytghiklaeenhljaa.Kit Go.Proofs.Ytghiklaeenhljaa.It Go.Proofs.Ytghiklaeenhljaa.Hea Go.Proofs.YtghiklaeenhljaaW.PrintWords Go.Proofs.Ytghiklaeenhljaa
set_option linter.unusedVariables false
set_option linter.unusedSimpArgs false

theorem dseg_one {w : World} {b : Nat} {e : Evn} (h : Blk w b 135 (evc e)) : DSeg w (some ⟨b, 0, none⟩) 1 1 [e] :=
  ⟨rfl, .inr ⟨b, (evc e).toArray, rfl, h, Nat.le_refl _, by simp [evc], fun j v hj => by simpa [evcs] using hj⟩⟩

set_option maxRecDepth 100000 in
set_option maxHeartbeats 4000000 in
theorem dresult_calls {w : World} {A B : Option Addr} {n cA m cB : Nat} {l : List Oe} {ts : List It} (hA : ORd w A n l) (hB : IRd w B m ts) (hn : n ≤ 10000) (hm : m ≤ 10000) {c : Cf} (hc : CfOk c) {ep : Int} (hep : 0 ≤ ep ∧ ep ≤ 1000000000) (s : ByteArray) (good : Bool) {at_ : Int} (h0 : 0 ≤ at_ ∧ at_ ≤ 1099511627776) {x : Oe} (hx0 : (getO l s).getD zOe = x) (hpk : PbOk x.pb) :
    Calls Try.prog 63 #[.agg #[.int .i64 c.every, .int .i64 c.wait, .int .i64 c.rise, .int .i64 c.fall, .slice A n cA, .slice B m cB, .int .i64 ep], .string s, .bool good, .int .i64 at_] w fun e w' => ∃ A' cA' B' cB' E cE,
      e = .returned (.tuple #[.agg #[.int .i64 c.every, .int .i64 c.wait, .int .i64 c.rise, .int .i64 c.fall, .slice A' (putO l ⟨s, (resP x.pb c good at_).1, false⟩).length cA', .slice B' (timI ts s (at_ + c.every)).length cB', .int .i64 (if (resP x.pb c good at_).2 then ep + 1 else ep)], .slice E (resE (resP x.pb c good at_) s at_).length cE]) ∧
      OW w' A' (putO l ⟨s, (resP x.pb c good at_).1, false⟩).length cA' (putO l ⟨s, (resP x.pb c good at_).1, false⟩) ∧ IW w' B' (timI ts s (at_ + c.every)).length cB' (timI ts s (at_ + c.every)) ∧ DSeg w' E (resE (resP x.pb c good at_) s at_).length cE (resE (resP x.pb c good at_) s at_) ∧
      (∀ k, blockOf A' = some k → w.heap.size ≤ k) ∧ (∀ k, blockOf B' = some k → w.heap.size ≤ k) ∧ (∀ k, blockOf E = some k → w.heap.size ≤ k) ∧ Step (fun _ => False) w w' := by
  have HF := Lib.hid (fun w1 (hs : Step (fun _ => False) w w1) => find_calls (B := B) (cA := cA) (m := m) (cB := cB) c ep (hA.same hs) (by omega) s)
  have HR := Lib.hid (fun w1 => dres_calls hc hpk good at_ w1)
  have HP := Lib.hid (fun w1 (hs : Step (fun _ => False) w w1) => put_calls (cA := cA) (hA.same hs) (by omega) ⟨s, (resP x.pb c good at_).1, false⟩)
  have HS := Lib.hid (fun w1 (hs : Step (fun _ => False) w w1) A' n' cA' => dset_calls (cB := cB) (hB.same hs) (by omega) c A' n' cA' ep s (at_ + c.every))
  have hce := hc.1
  rw [hx0] at HF
  generalize (getO l s).isSome = is at *
  obtain ⟨r, hr⟩ : ∃ r, resP x.pb c good at_ = r := ⟨_, rfl⟩
  rw [hr] at HR HP ⊢
  obtain ⟨r', b⟩ := r
  simp only at HR HP ⊢
  generalize putO l ⟨s, r', false⟩ = l2 at *
  generalize timI ts s (at_ + c.every) = t2 at *
  obtain ⟨c0, c1, c2, c3⟩ := c
  obtain ⟨r0, r1, r2, r3⟩ := r'
  obtain ⟨x0, ⟨x1, x2, x3, x4⟩, x5⟩ := x
  simp only [onc] at HF HR HP HS hce ⊢
  have hw1 : IntKind.i64.wrap (at_ + c0) = at_ + c0 := by rw [IntKind.wrap_i64]; omega
  have hw2 : IntKind.i64.wrap (ep + 1) = ep + 1 := by rw [IntKind.wrap_i64]; omega
  clear hA hB hx0 hpk hr hc
  go_enter Try.func63, Try.ntmps63
  go_upto_region 1 with (fail)
  refine alloc_next2 (cs := [.int .i64 c0, .int .i64 c1, .int .i64 c2, .int .i64 c3, .slice A n cA, .slice B m cB, .int .i64 ep]) (ds := [.int .i64 0, .int .i64 0, .int .i64 0, .int .i64 0, .slice none 0 0, .slice none 0 0, .int .i64 0]) ?_
  intro w1 hX hZ hs1 hl1
  obtain ⟨xb, hxb⟩ : ∃ xb, w.heap.size = xb := ⟨_, rfl⟩
  rw [hxb] at hX hZ hl1 ⊢
  have HXB := Lib.hid hxb
  clear hxb
  have y0 := hX.cell (i := 0) rfl
  have y1 := hX.cell (i := 1) rfl
  have y2 := hX.cell (i := 2) rfl
  have y3 := hX.cell (i := 3) rfl
  have y4 := hX.cell (i := 4) rfl
  have y5 := hX.cell (i := 5) rfl
  have y6 := hX.cell (i := 6) rfl
  have HF1 := Lib.hid (HF.out w1 hs1)
  go_upto_region 2 with (go_at_call 57; refine HF1.out.mono ?_; rintro e2 w2 ⟨rfl, hs2⟩)
  refine alloc_next (cs := [.string x0, .bool x1, .int .i64 x2, .int .i64 x3, .int .i64 x4, .bool x5]) ?_
  intro w3 hO hs3
  have hst3 := (hs1.same hs2).same hs3
  have hX3 := (hX.keep hs2 (fun h => h)).keep hs3 (fun h => h)
  have hZ3 := (hZ.keep hs2 (fun h => h)).keep hs3 (fun h => h)
  generalize w2.heap.size = ob at *
  clear y0 y1 y2 y3 y4 y5 y6 hX hZ hs2 hs3 HF1 HF
  have y0 := hX3.cell (i := 0) rfl
  have y1 := hX3.cell (i := 1) rfl
  have y2 := hX3.cell (i := 2) rfl
  have y3 := hX3.cell (i := 3) rfl
  have z1 := hO.cell (i := 1) rfl
  have z2 := hO.cell (i := 2) rfl
  have z3 := hO.cell (i := 3) rfl
  have z4 := hO.cell (i := 4) rfl
  go_upto_region 3 with (go_at_call 74; refine (HR.out _).mono ?_; rintro e4 w4 ⟨rfl, hs4⟩)
  refine alloc_next (cs := [.bool r0, .int .i64 r1, .int .i64 r2, .int .i64 r3]) ?_
  intro w5 hQ hs5
  have hst5 := (hst3.same hs4).same hs5
  have hX5 := (hX3.keep hs4 (fun h => h)).keep hs5 (fun h => h)
  have hZ5 := (hZ3.keep hs4 (fun h => h)).keep hs5 (fun h => h)
  have hzz : xb + 1 < w4.heap.size := by have := hZ3.lt; have := hs4.size; omega
  obtain ⟨qb, hqb⟩ : ∃ qb, w4.heap.size = qb := ⟨_, rfl⟩
  rw [hqb] at hQ hzz ⊢
  have HP5 := Lib.hid (HP.out w5 hst5)
  clear y0 y1 y2 y3 z1 z2 z3 z4 hO hX3 hZ3 hs4 hs5 hqb HR HP hst3
  have y4 := hX5.cell (i := 4) rfl
  have q0 := hQ.cell (i := 0) rfl
  have q1 := hQ.cell (i := 1) rfl
  have q2 := hQ.cell (i := 2) rfl
  have q3 := hQ.cell (i := 3) rfl
  go_upto_region 4 with (go_at_call 58; refine HP5.out.mono ?_; rintro e6 w6 ⟨A6, cA6, rfl, hA6, hAf6, hs6⟩; have hX6 := hX5.keep hs6 (fun h => h); have f4 := hX6.free 4; have g4 := hX6.cell (i := 4) rfl)
  refine put_plain hX6 ?_
  intro w7 hX7 hs7
  have hz6 := hs6.size
  have hz5 := hst5.size
  have hxw := HXB.out
  have hst6 := hst5.same hs6
  have hst7 : Step (fun _ => False) w w7 := hst6.trans hs7 (fun j hj e => by omega)
  have hA7 := hA6.keep hs7 (fun k hk e => by have := hAf6 k hk; have := hQ.lt; omega)
  have hZ7 := (hZ5.keep hs6 (fun h => h)).keep hs7 (fun e => by omega)
  have hQ7 := (hQ.keep hs6 (fun h => h)).keep hs7 (fun e => by omega)
  have hAf7 : ∀ k, blockOf A6 = some k → xb + 1 < k := fun k hk => by have := hAf6 k hk; have := hQ.lt; omega
  clear y4 q0 q1 q2 q3 f4 g4 hX5 hZ5 hX6 hQ hA6 hs6 HP5
  have y0 := hX7.cell (i := 0) rfl
  have y1 := hX7.cell (i := 1) rfl
  have y2 := hX7.cell (i := 2) rfl
  have y3 := hX7.cell (i := 3) rfl
  have y4 := hX7.cell (i := 4) rfl
  have y5 := hX7.cell (i := 5) rfl
  have y6 := hX7.cell (i := 6) rfl
  have HS7 := Lib.hid (HS.out w7 hst7 A6 l2.length cA6)
  have HX7 := Lib.hid hX7
  clear HS hX7
  go_upto_region 5 with (first | (go_at_call 60; refine HS7.out.mono ?_; rintro e8 w8 ⟨B8, cB8, rfl, hB8, hBf8, hs8⟩) | (refine wpList_store_blk rfl 60 (.tmp 4) (.tmp 44) rfl (HX7.out.keep hs8 (fun h => h)) rfl (vs := [.int .i64 c0, .int .i64 c1, .int .i64 c2, .int .i64 c3, .slice A6 l2.length cA6, .slice B8 t2.length cB8, .int .i64 ep]) rfl (by kernel_rfl) rfl (cell7 _ _ _ _ _ _ _ _ _ _ _) ?_; intro w9 hX9 hs9))
  have hz7 := hst7.size
  have hz8 := hs8.size
  have hqlt := hQ7.lt
  have hst9 : Step (fun _ => False) w w9 := (hst7.same hs8).trans hs9 (fun j hj e => by omega)
  have hA9 := (hA7.keep hs8 (fun _ _ h => h)).keep hs9 (fun k hk e => by have := hAf7 k hk; omega)
  have hB9 := hB8.keep hs9 (fun k hk e => by have := hBf8 k hk; omega)
  have hZ9 := (hZ7.keep hs8 (fun h => h)).keep hs9 (fun e => by omega)
  have hQ9 := (hQ7.keep hs8 (fun h => h)).keep hs9 (fun e => by omega)
  have hBf9 : ∀ k, blockOf B8 = some k → xb + 1 < k := fun k hk => by have := hBf8 k hk; omega
  clear y0 y1 y2 y3 y4 y5 y6 hA7 hB8 hZ7 hQ7 hs8 hs9 HS7 HX7 hAf6 hBf8 hs7 hst5 hst6 hst7 hw1
  have y0 := hX9.cell (i := 0) rfl
  have y1 := hX9.cell (i := 1) rfl
  have y2 := hX9.cell (i := 2) rfl
  have y3 := hX9.cell (i := 3) rfl
  have y4 := hX9.cell (i := 4) rfl
  have y5 := hX9.cell (i := 5) rfl
  have y6 := hX9.cell (i := 6) rfl
  cases b with
  | false =>
    go_wp2_with (refine wpList_store_blk rfl 60 (.tmp 8) (.tmp 47) rfl hZ9 rfl (vs := [.int .i64 c0, .int .i64 c1, .int .i64 c2, .int .i64 c3, .slice A6 l2.length cA6, .slice B8 t2.length cB8, .int .i64 ep]) rfl (by kernel_rfl) rfl (cell7 _ _ _ _ _ _ _ _ _ _ _) ?_; intro w10 hZ10 hs10)
    try simp only [Exit.inBlock, Exit.then]
    refine post_cell_tmp (cs := [.int .i64 c0, .int .i64 c1, .int .i64 c2, .int .i64 c3, .slice A6 l2.length cA6, .slice B8 t2.length cB8, .int .i64 ep]) rfl rfl hZ10 Try.underlying60 rfl (by kernel_rfl) rfl rfl ?_
    exact ⟨A6, cA6, B8, cB8, none, 0, rfl, hA9.keep hs10 (fun k hk e => by have := hAf7 k hk; omega), hB9.keep hs10 (fun k hk e => by have := hBf9 k hk; omega), dseg_nil _, fun k hk => by have := hAf7 k hk; omega, fun k hk => by have := hBf9 k hk; omega, fun k hk => (by cases hk), hst9.trans hs10 (fun j hj e => by omega)⟩
  | true =>
    have f6 := hX9.free 6
    go_upto_region 8 with (fail)
    refine put_plain hX9 ?_
    intro w10 hX10 hs10
    have hst10 : Step (fun _ => False) w w10 := hst9.trans hs10 (fun j hj e => by omega)
    have hA10 := hA9.keep hs10 (fun k hk e => by have := hAf7 k hk; omega)
    have hB10 := hB9.keep hs10 (fun k hk e => by have := hBf9 k hk; omega)
    have hZ10 := hZ9.keep hs10 (fun e => by omega)
    have hQ10 := hQ9.keep hs10 (fun e => by omega)
    clear y0 y1 y2 y3 y4 y5 y6 f6 hA9 hB9 hZ9 hQ9 hX9 hs10 hst9
    have y0 := hX10.cell (i := 0) rfl
    have y1 := hX10.cell (i := 1) rfl
    have y2 := hX10.cell (i := 2) rfl
    have y3 := hX10.cell (i := 3) rfl
    have y4 := hX10.cell (i := 4) rfl
    have y5 := hX10.cell (i := 5) rfl
    have y6 := hX10.cell (i := 6) rfl
    have q0 := hQ10.cell (i := 0) rfl
    cases r0 with
    | true =>
      have hbe := blk_new w10 [.int .i64 3, .string s, .int .i64 at_] 135
      have hsn : Step (fun _ => False) w10 (w10.alloc (.cells #[.int .i64 3, .string s, .int .i64 at_] 135)) := (Step.refl _ _).alloc _
      have hzn := hst10.size
      have hxl := hX10.lt
      have hZ11 := hZ10.keep hsn (fun h => h)
      have hA11 := hA10.keep hsn (fun _ _ h => h)
      have hB11 := hB10.keep hsn (fun _ _ h => h)
      have hzl := hZ10.lt
      have hst11 := hst10.same hsn
      go_wp2_with (refine wpList_store_blk rfl 60 (.tmp 8) (.tmp 54) rfl hZ11 rfl (vs := [.int .i64 c0, .int .i64 c1, .int .i64 c2, .int .i64 c3, .slice A6 l2.length cA6, .slice B8 t2.length cB8, .int .i64 (ep + 1)]) rfl (by kernel_rfl) rfl (cell7 _ _ _ _ _ _ _ _ _ _ _) ?_; intro w12 hZ12 hs12)
      try simp only [Exit.inBlock, Exit.then]
      refine post_cell_tmp (cs := [.int .i64 c0, .int .i64 c1, .int .i64 c2, .int .i64 c3, .slice A6 l2.length cA6, .slice B8 t2.length cB8, .int .i64 (ep + 1)]) rfl rfl hZ12 Try.underlying60 rfl (by kernel_rfl) rfl rfl ?_
      have hE12 := hbe.keep hs12 (fun e => by omega)
      exact ⟨A6, cA6, B8, cB8, some ⟨w10.heap.size, 0, none⟩, 1, rfl, hA11.keep hs12 (fun k hk e => by have := hAf7 k hk; omega), hB11.keep hs12 (fun k hk e => by have := hBf9 k hk; omega), dseg_one (e := ⟨3, s, at_⟩) hE12, fun k hk => by have := hAf7 k hk; omega, fun k hk => by have := hBf9 k hk; omega, fun k hk => by obtain rfl : w10.heap.size = k := Option.some.inj hk; omega, hst11.trans hs12 (fun j hj e => by omega)⟩
    | false =>
      have hbe := blk_new w10 [.int .i64 4, .string s, .int .i64 at_] 135
      have hsn : Step (fun _ => False) w10 (w10.alloc (.cells #[.int .i64 4, .string s, .int .i64 at_] 135)) := (Step.refl _ _).alloc _
      have hzn := hst10.size
      have hxl := hX10.lt
      have hZ11 := hZ10.keep hsn (fun h => h)
      have hA11 := hA10.keep hsn (fun _ _ h => h)
      have hB11 := hB10.keep hsn (fun _ _ h => h)
      have hzl := hZ10.lt
      have hst11 := hst10.same hsn
      go_wp2_with (refine wpList_store_blk rfl 60 (.tmp 8) (.tmp 59) rfl hZ11 rfl (vs := [.int .i64 c0, .int .i64 c1, .int .i64 c2, .int .i64 c3, .slice A6 l2.length cA6, .slice B8 t2.length cB8, .int .i64 (ep + 1)]) rfl (by kernel_rfl) rfl (cell7 _ _ _ _ _ _ _ _ _ _ _) ?_; intro w12 hZ12 hs12)
      try simp only [Exit.inBlock, Exit.then]
      refine post_cell_tmp (cs := [.int .i64 c0, .int .i64 c1, .int .i64 c2, .int .i64 c3, .slice A6 l2.length cA6, .slice B8 t2.length cB8, .int .i64 (ep + 1)]) rfl rfl hZ12 Try.underlying60 rfl (by kernel_rfl) rfl rfl ?_
      have hE12 := hbe.keep hs12 (fun e => by omega)
      exact ⟨A6, cA6, B8, cB8, some ⟨w10.heap.size, 0, none⟩, 1, rfl, hA11.keep hs12 (fun k hk e => by have := hAf7 k hk; omega), hB11.keep hs12 (fun k hk e => by have := hBf9 k hk; omega), dseg_one (e := ⟨4, s, at_⟩) hE12, fun k hk => by have := hAf7 k hk; omega, fun k hk => by have := hBf9 k hk; omega, fun k hk => by obtain rfl : w10.heap.size = k := Option.some.inj hk; omega, hst11.trans hs12 (fun j hj e => by omega)⟩
end Go.Proofs.Ytghiklaeenhljaa.HeD
