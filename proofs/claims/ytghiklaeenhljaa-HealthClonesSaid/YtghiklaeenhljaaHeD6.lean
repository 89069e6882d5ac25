/- the document's health: Add of a known name; Result. Printed by wip/tools/gen_hed6.py; own work of this seat. -/
import Derived.Test.YtghiklaeenhljaaHeD4
namespace Go.Proofs.Ytghiklaeenhljaa.HeD
open Go.RowKit Go.Proofs.Ytghiklaeenhljaa.Kit Go.Proofs.Ytghiklaeenhljaa.It Go.Proofs.Ytghiklaeenhljaa.Hea Go.Proofs.YtghiklaeenhljaaW.PrintWords Go.Proofs.Ytghiklaeenhljaa
set_option linter.unusedVariables false
set_option linter.unusedSimpArgs false


set_option maxRecDepth 100000 in
set_option maxHeartbeats 4000000 in
theorem dadd_old {w : World} {A B : Option Addr} {n cA m cB : Nat} {l : List Oe} (hA : ORd w A n l) (hn : n ≤ 10000) (c : Cf) (ep : Int) (s : ByteArray) (up : Bool) (now : Int) {x : Oe} (hx0 : getO l s = some x) :
    Calls Try.prog 42 #[.agg #[.int .i64 c.every, .int .i64 c.wait, .int .i64 c.rise, .int .i64 c.fall, .slice A n cA, .slice B m cB, .int .i64 ep], .string s, .bool up, .int .i64 now] w fun e w' => e = .returned (.tuple #[.agg #[.int .i64 c.every, .int .i64 c.wait, .int .i64 c.rise, .int .i64 c.fall, .slice A n cA, .slice B m cB, .int .i64 ep], .bool false]) ∧ Step (fun _ => False) w w' := by
  have HF := Lib.hid (fun w1 (hs : Step (fun _ => False) w w1) => find_calls (B := B) (cA := cA) (m := m) (cB := cB) c ep (hA.same hs) (by omega) s)
  rw [hx0] at HF
  have hwt : True := trivial
  obtain ⟨c0, c1, c2, c3⟩ := c
  obtain ⟨x0, ⟨x1, x2, x3, x4⟩, x5⟩ := x
  simp only [onc, Option.getD_none, Option.getD_some, Option.isSome_none, Option.isSome_some, zOe] at HF hwt ⊢
  try subst hwt
  clear hA hx0
  go_enter Try.func42, Try.ntmps42
  go_upto_region 1 with (fail)
  refine alloc_next2 (cs := [.int .i64 c0, .int .i64 c1, .int .i64 c2, .int .i64 c3, .slice A n cA, .slice B m cB, .int .i64 ep]) (ds := [.int .i64 0, .int .i64 0, .int .i64 0, .int .i64 0, .slice none 0 0, .slice none 0 0, .int .i64 0]) ?_
  intro w1 hX hZ hs1 hl1
  obtain ⟨xb, hxb⟩ : ∃ xb, w.heap.size = xb := ⟨_, rfl⟩
  rw [hxb] at hX hZ hl1 ⊢
  have HXB := Lib.hid hxb
  clear hxb
  have y0 := hX.cell (i := 0) rfl
  have y1 := hX.cell (i := 1) rfl
  have y2 := hX.cell (i := 2) rfl
  have y3 := hX.cell (i := 3) rfl
  have y4 := hX.cell (i := 4) rfl
  have y5 := hX.cell (i := 5) rfl
  have y6 := hX.cell (i := 6) rfl
  have HF1 := Lib.hid (HF.out w1 hs1)
  go_upto_region 2 with (go_at_call 57; refine HF1.out.mono ?_; rintro e2 w2 ⟨rfl, hs2⟩)
  refine alloc_next (cs := [.string x0, .bool x1, .int .i64 x2, .int .i64 x3, .int .i64 x4, .bool x5]) ?_
  intro w3 hO hs3
  have hst3 := (hs1.same hs2).same hs3
  have hX3 := (hX.keep hs2 (fun h => h)).keep hs3 (fun h => h)
  have hZ3 := (hZ.keep hs2 (fun h => h)).keep hs3 (fun h => h)
  obtain ⟨ob, hob⟩ : ∃ ob, w2.heap.size = ob := ⟨_, rfl⟩
  have hobx : xb + 1 < ob := by have := (hZ.keep hs2 (fun h => h)).lt; omega
  rw [hob] at hO ⊢
  clear hob y0 y1 y2 y3 y4 y5 y6 hX hZ hs2 hs3 HF1 HF hs1
  have y0 := hX3.cell (i := 0) rfl
  have y1 := hX3.cell (i := 1) rfl
  have y2 := hX3.cell (i := 2) rfl
  have y3 := hX3.cell (i := 3) rfl
  have y4 := hX3.cell (i := 4) rfl
  have y5 := hX3.cell (i := 5) rfl
  have y6 := hX3.cell (i := 6) rfl
  go_wp2_with (refine wpList_store_blk rfl 60 (.tmp 8) (.tmp 19) rfl hZ3 rfl (vs := [.int .i64 c0, .int .i64 c1, .int .i64 c2, .int .i64 c3, .slice A n cA, .slice B m cB, .int .i64 ep]) rfl (by kernel_rfl) rfl (cell7 _ _ _ _ _ _ _ _ _ _ _) ?_; intro w9 hZ9 hs9)
  try simp only [Exit.inBlock, Exit.then]
  refine post_cell_tmp (cs := [.int .i64 c0, .int .i64 c1, .int .i64 c2, .int .i64 c3, .slice A n cA, .slice B m cB, .int .i64 ep]) rfl rfl hZ9 Try.underlying60 rfl (by kernel_rfl) rfl rfl ?_
  exact ⟨rfl, hst3.trans hs9 (fun j hj e => by have := HXB.out; omega)⟩


set_option maxRecDepth 100000 in
set_option maxHeartbeats 4000000 in
theorem dres_none {w : World} {A B : Option Addr} {n cA m cB : Nat} {l : List Oe} (hA : ORd w A n l) (hn : n ≤ 10000) (c : Cf) (ep : Int) (s : ByteArray) (good : Bool) (now : Int) (hx0 : getO l s = none) :
    Calls Try.prog 46 #[.agg #[.int .i64 c.every, .int .i64 c.wait, .int .i64 c.rise, .int .i64 c.fall, .slice A n cA, .slice B m cB, .int .i64 ep], .string s, .bool good, .int .i64 now] w fun e w' => e = .returned (.tuple #[.agg #[.int .i64 c.every, .int .i64 c.wait, .int .i64 c.rise, .int .i64 c.fall, .slice A n cA, .slice B m cB, .int .i64 ep], .slice none 0 0, .int .i64 6]) ∧ Step (fun _ => False) w w' := by
  have HF := Lib.hid (fun w1 (hs : Step (fun _ => False) w w1) => find_calls (B := B) (cA := cA) (m := m) (cB := cB) c ep (hA.same hs) (by omega) s)
  rw [hx0] at HF
  have hwt : True := trivial
  obtain ⟨c0, c1, c2, c3⟩ := c
  have hx1 : zOe = ⟨⟨#[]⟩, ⟨false, 0, 0, 0⟩, false⟩ := rfl
  simp only [onc, Option.getD_none, Option.getD_some, Option.isSome_none, Option.isSome_some, zOe] at HF hwt ⊢
  try subst hwt
  clear hA hx0
  go_enter Try.func46, Try.ntmps46
  go_upto_region 1 with (fail)
  refine alloc_next2 (cs := [.int .i64 c0, .int .i64 c1, .int .i64 c2, .int .i64 c3, .slice A n cA, .slice B m cB, .int .i64 ep]) (ds := [.int .i64 0, .int .i64 0, .int .i64 0, .int .i64 0, .slice none 0 0, .slice none 0 0, .int .i64 0]) ?_
  intro w1 hX hZ hs1 hl1
  obtain ⟨xb, hxb⟩ : ∃ xb, w.heap.size = xb := ⟨_, rfl⟩
  rw [hxb] at hX hZ hl1 ⊢
  have HXB := Lib.hid hxb
  clear hxb
  have y0 := hX.cell (i := 0) rfl
  have y1 := hX.cell (i := 1) rfl
  have y2 := hX.cell (i := 2) rfl
  have y3 := hX.cell (i := 3) rfl
  have y4 := hX.cell (i := 4) rfl
  have y5 := hX.cell (i := 5) rfl
  have y6 := hX.cell (i := 6) rfl
  have HF1 := Lib.hid (HF.out w1 hs1)
  go_upto_region 2 with (go_at_call 57; refine HF1.out.mono ?_; rintro e2 w2 ⟨rfl, hs2⟩)
  refine alloc_next (cs := [.string ⟨#[]⟩, .bool false, .int .i64 0, .int .i64 0, .int .i64 0, .bool false]) ?_
  intro w3 hO hs3
  have hst3 := (hs1.same hs2).same hs3
  have hX3 := (hX.keep hs2 (fun h => h)).keep hs3 (fun h => h)
  have hZ3 := (hZ.keep hs2 (fun h => h)).keep hs3 (fun h => h)
  obtain ⟨ob, hob⟩ : ∃ ob, w2.heap.size = ob := ⟨_, rfl⟩
  have hobx : xb + 1 < ob := by have := (hZ.keep hs2 (fun h => h)).lt; omega
  rw [hob] at hO ⊢
  clear hob y0 y1 y2 y3 y4 y5 y6 hX hZ hs2 hs3 HF1 HF hs1
  have y0 := hX3.cell (i := 0) rfl
  have y1 := hX3.cell (i := 1) rfl
  have y2 := hX3.cell (i := 2) rfl
  have y3 := hX3.cell (i := 3) rfl
  have y4 := hX3.cell (i := 4) rfl
  have y5 := hX3.cell (i := 5) rfl
  have y6 := hX3.cell (i := 6) rfl
  have z5 := hO.cell (i := 5) rfl
  go_wp2_with (refine wpList_store_blk rfl 60 (.tmp 8) (.tmp 23) rfl hZ3 rfl (vs := [.int .i64 c0, .int .i64 c1, .int .i64 c2, .int .i64 c3, .slice A n cA, .slice B m cB, .int .i64 ep]) rfl (by kernel_rfl) rfl (cell7 _ _ _ _ _ _ _ _ _ _ _) ?_; intro w9 hZ9 hs9)
  try simp only [Exit.inBlock, Exit.then]
  refine post_ctt (cs := [.int .i64 c0, .int .i64 c1, .int .i64 c2, .int .i64 c3, .slice A n cA, .slice B m cB, .int .i64 ep]) rfl rfl hZ9 Try.underlying60 rfl (by kernel_rfl) rfl rfl rfl ?_
  exact ⟨rfl, hst3.trans hs9 (fun j hj e => by have := HXB.out; omega)⟩


set_option maxRecDepth 100000 in
set_option maxHeartbeats 4000000 in
theorem dres_idle {w : World} {A B : Option Addr} {n cA m cB : Nat} {l : List Oe} (hA : ORd w A n l) (hn : n ≤ 10000) (c : Cf) (ep : Int) (s : ByteArray) (good : Bool) (now : Int) {x : Oe} (hx0 : getO l s = some x) (hwt : x.waits = false) :
    Calls Try.prog 46 #[.agg #[.int .i64 c.every, .int .i64 c.wait, .int .i64 c.rise, .int .i64 c.fall, .slice A n cA, .slice B m cB, .int .i64 ep], .string s, .bool good, .int .i64 now] w fun e w' => e = .returned (.tuple #[.agg #[.int .i64 c.every, .int .i64 c.wait, .int .i64 c.rise, .int .i64 c.fall, .slice A n cA, .slice B m cB, .int .i64 ep], .slice none 0 0, .int .i64 9]) ∧ Step (fun _ => False) w w' := by
  have HF := Lib.hid (fun w1 (hs : Step (fun _ => False) w w1) => find_calls (B := B) (cA := cA) (m := m) (cB := cB) c ep (hA.same hs) (by omega) s)
  rw [hx0] at HF
  obtain ⟨c0, c1, c2, c3⟩ := c
  obtain ⟨x0, ⟨x1, x2, x3, x4⟩, x5⟩ := x
  simp only [onc, Option.getD_none, Option.getD_some, Option.isSome_none, Option.isSome_some, zOe] at HF hwt ⊢
  try subst hwt
  clear hA hx0
  go_enter Try.func46, Try.ntmps46
  go_upto_region 1 with (fail)
  refine alloc_next2 (cs := [.int .i64 c0, .int .i64 c1, .int .i64 c2, .int .i64 c3, .slice A n cA, .slice B m cB, .int .i64 ep]) (ds := [.int .i64 0, .int .i64 0, .int .i64 0, .int .i64 0, .slice none 0 0, .slice none 0 0, .int .i64 0]) ?_
  intro w1 hX hZ hs1 hl1
  obtain ⟨xb, hxb⟩ : ∃ xb, w.heap.size = xb := ⟨_, rfl⟩
  rw [hxb] at hX hZ hl1 ⊢
  have HXB := Lib.hid hxb
  clear hxb
  have y0 := hX.cell (i := 0) rfl
  have y1 := hX.cell (i := 1) rfl
  have y2 := hX.cell (i := 2) rfl
  have y3 := hX.cell (i := 3) rfl
  have y4 := hX.cell (i := 4) rfl
  have y5 := hX.cell (i := 5) rfl
  have y6 := hX.cell (i := 6) rfl
  have HF1 := Lib.hid (HF.out w1 hs1)
  go_upto_region 2 with (go_at_call 57; refine HF1.out.mono ?_; rintro e2 w2 ⟨rfl, hs2⟩)
  refine alloc_next (cs := [.string x0, .bool x1, .int .i64 x2, .int .i64 x3, .int .i64 x4, .bool false]) ?_
  intro w3 hO hs3
  have hst3 := (hs1.same hs2).same hs3
  have hX3 := (hX.keep hs2 (fun h => h)).keep hs3 (fun h => h)
  have hZ3 := (hZ.keep hs2 (fun h => h)).keep hs3 (fun h => h)
  obtain ⟨ob, hob⟩ : ∃ ob, w2.heap.size = ob := ⟨_, rfl⟩
  have hobx : xb + 1 < ob := by have := (hZ.keep hs2 (fun h => h)).lt; omega
  rw [hob] at hO ⊢
  clear hob y0 y1 y2 y3 y4 y5 y6 hX hZ hs2 hs3 HF1 HF hs1
  have y0 := hX3.cell (i := 0) rfl
  have y1 := hX3.cell (i := 1) rfl
  have y2 := hX3.cell (i := 2) rfl
  have y3 := hX3.cell (i := 3) rfl
  have y4 := hX3.cell (i := 4) rfl
  have y5 := hX3.cell (i := 5) rfl
  have y6 := hX3.cell (i := 6) rfl
  have z5 := hO.cell (i := 5) rfl
  go_wp2_with (refine wpList_store_blk rfl 60 (.tmp 8) (.tmp 27) rfl hZ3 rfl (vs := [.int .i64 c0, .int .i64 c1, .int .i64 c2, .int .i64 c3, .slice A n cA, .slice B m cB, .int .i64 ep]) rfl (by kernel_rfl) rfl (cell7 _ _ _ _ _ _ _ _ _ _ _) ?_; intro w9 hZ9 hs9)
  try simp only [Exit.inBlock, Exit.then]
  refine post_ctt (cs := [.int .i64 c0, .int .i64 c1, .int .i64 c2, .int .i64 c3, .slice A n cA, .slice B m cB, .int .i64 ep]) rfl rfl hZ9 Try.underlying60 rfl (by kernel_rfl) rfl rfl rfl ?_
  exact ⟨rfl, hst3.trans hs9 (fun j hj e => by have := HXB.out; omega)⟩


set_option maxRecDepth 100000 in
set_option maxHeartbeats 4000000 in
theorem dres_waits {w : World} {A B : Option Addr} {n cA m cB : Nat} {l : List Oe} {ts : List It} (hA : ORd w A n l) (hB : IRd w B m ts) (hn : n ≤ 10000) (hm : m ≤ 10000) {c : Cf} (hc : CfOk c) {ep : Int} (hep : 0 ≤ ep ∧ ep ≤ 1000000000) (s : ByteArray) (good : Bool) (now : Int) {x : Oe} (hx0 : getO l s = some x) (hwt : x.waits = true) (hpk : PbOk x.pb) :
    Calls Try.prog 46 #[.agg #[.int .i64 c.every, .int .i64 c.wait, .int .i64 c.rise, .int .i64 c.fall, .slice A n cA, .slice B m cB, .int .i64 ep], .string s, .bool good, .int .i64 now] w fun e w' => ∃ A' cA' B' cB' E cE,
      e = .returned (.tuple #[.agg #[.int .i64 c.every, .int .i64 c.wait, .int .i64 c.rise, .int .i64 c.fall, .slice A' (putO l ⟨s, (resP x.pb c good (AgStr.clipT now)).1, false⟩).length cA', .slice B' (timI ts s (AgStr.clipT now + c.every)).length cB', .int .i64 (if (resP x.pb c good (AgStr.clipT now)).2 then ep + 1 else ep)], .slice E (resE (resP x.pb c good (AgStr.clipT now)) s (AgStr.clipT now)).length cE, .int .i64 0]) ∧
      OW w' A' (putO l ⟨s, (resP x.pb c good (AgStr.clipT now)).1, false⟩).length cA' (putO l ⟨s, (resP x.pb c good (AgStr.clipT now)).1, false⟩) ∧ IW w' B' (timI ts s (AgStr.clipT now + c.every)).length cB' (timI ts s (AgStr.clipT now + c.every)) ∧ DSeg w' E (resE (resP x.pb c good (AgStr.clipT now)) s (AgStr.clipT now)).length cE (resE (resP x.pb c good (AgStr.clipT now)) s (AgStr.clipT now)) ∧
      (∀ k, blockOf A' = some k → w.heap.size ≤ k) ∧ (∀ k, blockOf B' = some k → w.heap.size ≤ k) ∧ (∀ k, blockOf E = some k → w.heap.size ≤ k) ∧ Step (fun _ => False) w w' := by
  have htk : 0 ≤ AgStr.clipT now ∧ AgStr.clipT now ≤ 1099511627776 := by unfold AgStr.clipT; omega
  have HT := Lib.hid (fun w1 => dtick_calls now w1)
  have HR := Lib.hid (fun w1 (hs : Step (fun _ => False) w w1) => dresult_calls (cA := cA) (cB := cB) (hA.same hs) (hB.same hs) hn hm hc hep s good htk (x := x) (by rw [hx0]; rfl) hpk)
  have HF := Lib.hid (fun w1 (hs : Step (fun _ => False) w w1) => find_calls (B := B) (cA := cA) (m := m) (cB := cB) c ep (hA.same hs) (by omega) s)
  rw [hx0] at HF
  generalize AgStr.clipT now = tk at *
  generalize putO l ⟨s, (resP x.pb c good tk).1, false⟩ = l2 at *
  generalize timI ts s (tk + c.every) = t2 at *
  generalize (if (resP x.pb c good tk).2 then ep + 1 else ep) = ep2 at *
  generalize resE (resP x.pb c good tk) s tk = ev at *
  clear hpk hc
  obtain ⟨c0, c1, c2, c3⟩ := c
  obtain ⟨x0, ⟨x1, x2, x3, x4⟩, x5⟩ := x
  simp only [onc, Option.getD_none, Option.getD_some, Option.isSome_none, Option.isSome_some, zOe] at HF HR hwt ⊢
  try subst hwt
  clear hA hB hx0
  go_enter Try.func46, Try.ntmps46
  go_upto_region 1 with (fail)
  refine alloc_next2 (cs := [.int .i64 c0, .int .i64 c1, .int .i64 c2, .int .i64 c3, .slice A n cA, .slice B m cB, .int .i64 ep]) (ds := [.int .i64 0, .int .i64 0, .int .i64 0, .int .i64 0, .slice none 0 0, .slice none 0 0, .int .i64 0]) ?_
  intro w1 hX hZ hs1 hl1
  obtain ⟨xb, hxb⟩ : ∃ xb, w.heap.size = xb := ⟨_, rfl⟩
  rw [hxb] at hX hZ hl1 ⊢
  have HXB := Lib.hid hxb
  clear hxb
  have y0 := hX.cell (i := 0) rfl
  have y1 := hX.cell (i := 1) rfl
  have y2 := hX.cell (i := 2) rfl
  have y3 := hX.cell (i := 3) rfl
  have y4 := hX.cell (i := 4) rfl
  have y5 := hX.cell (i := 5) rfl
  have y6 := hX.cell (i := 6) rfl
  have HF1 := Lib.hid (HF.out w1 hs1)
  go_upto_region 2 with (go_at_call 57; refine HF1.out.mono ?_; rintro e2 w2 ⟨rfl, hs2⟩)
  refine alloc_next (cs := [.string x0, .bool x1, .int .i64 x2, .int .i64 x3, .int .i64 x4, .bool true]) ?_
  intro w3 hO hs3
  have hst3 := (hs1.same hs2).same hs3
  have hX3 := (hX.keep hs2 (fun h => h)).keep hs3 (fun h => h)
  have hZ3 := (hZ.keep hs2 (fun h => h)).keep hs3 (fun h => h)
  obtain ⟨ob, hob⟩ : ∃ ob, w2.heap.size = ob := ⟨_, rfl⟩
  have hobx : xb + 1 < ob := by have := (hZ.keep hs2 (fun h => h)).lt; omega
  rw [hob] at hO ⊢
  clear hob y0 y1 y2 y3 y4 y5 y6 hX hZ hs2 hs3 HF1 HF hs1
  have z5 := hO.cell (i := 5) rfl
  go_upto_region 6 with (fail)
  have hq4 : Step (fun _ => False) w3 w3.drew := (Step.refl _ _).drew
  have HRX := Lib.hid (fun w' (hs : Step (fun _ => False) w3 w') => HR.out w' (hst3.same hs))
  have HZ3 := Lib.hid hZ3
  have HX3 := Lib.hid hX3
  have hzl := hZ3.lt
  have y0 := hX3.cell (i := 0) rfl
  have y1 := hX3.cell (i := 1) rfl
  have y2 := hX3.cell (i := 2) rfl
  have y3 := hX3.cell (i := 3) rfl
  have y4 := hX3.cell (i := 4) rfl
  have y5 := hX3.cell (i := 5) rfl
  have y6 := hX3.cell (i := 6) rfl
  clear z5 hO hX3 hZ3 HR
  have hqa : Step (fun _ => False) w3 (w3.alloc (.cells #[.int .i64 0, .int .i64 0, .int .i64 0, .int .i64 0, .slice none 0 0, .slice none 0 0, .int .i64 0] 60)).drew := ((Step.refl _ _).alloc _).drew
  have hba := (blk_new w3 [.int .i64 0, .int .i64 0, .int .i64 0, .int .i64 0, .slice none 0 0, .slice none 0 0, .int .i64 0] 60).drew
  have hza : (w3.alloc (.cells #[.int .i64 0, .int .i64 0, .int .i64 0, .int .i64 0, .slice none 0 0, .slice none 0 0, .int .i64 0] 60)).drew.heap.size = w3.heap.size + 1 := by show (w3.heap.push _).size = _; simp
  have hXa := HX3.out.keep (w' := w3.alloc (.cells #[.int .i64 0, .int .i64 0, .int .i64 0, .int .i64 0, .slice none 0 0, .slice none 0 0, .int .i64 0] 60)) ((Step.refl (fun _ => False) _).alloc _) (fun h => h)
  have ya0 := hXa.cell (i := 0) rfl
  have ya1 := hXa.cell (i := 1) rfl
  have ya2 := hXa.cell (i := 2) rfl
  have ya3 := hXa.cell (i := 3) rfl
  have ya4 := hXa.cell (i := 4) rfl
  have ya5 := hXa.cell (i := 5) rfl
  have ya6 := hXa.cell (i := 6) rfl
  clear hXa
  have HBA := Lib.hid hba
  have HZA := Lib.hid hza
  clear hba hza
  go_region_with (first | (go_at_call 59; refine (HT.out _).mono ?_; rintro e4 w4 ⟨rfl, rfl⟩) | (go_at_call 63; refine (HRX.out _ hq4).mono ?_; rintro e6 w6 ⟨A6, cA6, B6, cB6, E6, cE6, rfl, hA6, hB6, hE6, hAf6, hBf6, hEf6, hs6⟩; have hq6 : Step (fun _ => False) w3 w6 := hq4.same hs6) | (go_at_call 63; refine (HRX.out _ hqa).mono ?_; rintro e6 w6 ⟨A6, cA6, B6, cB6, E6, cE6, rfl, hA6, hB6, hE6, hAf6, hBf6, hEf6, hs6⟩; have hq6 : Step (fun _ => False) w3 w6 := hqa.same hs6; have hG6 := HBA.out.keep hs6 (fun h => h); have r0 := hG6.cell (i := 0) rfl; have k0 := hG6.free 0; have r1 := hG6.cell (i := 1) rfl; have k1 := hG6.free 1; have r2 := hG6.cell (i := 2) rfl; have k2 := hG6.free 2; have r3 := hG6.cell (i := 3) rfl; have k3 := hG6.free 3; have r4 := hG6.cell (i := 4) rfl; have k4 := hG6.free 4; have r5 := hG6.cell (i := 5) rfl; have k5 := hG6.free 5; have r6 := hG6.cell (i := 6) rfl; have k6 := hG6.free 6))
  all_goals
    clear y0 y1 y2 y3 y4 y5 y6 ya0 ya1 ya2 ya3 ya4 ya5 ya6
    have hz3 := hst3.size
    have hz6 := hq6.size
    have hxw := HXB.out
    have hAf : ∀ k, blockOf A6 = some k → w3.heap.size ≤ k := fun k hk => by have := hAf6 k hk; have h2 : w3.drew.heap.size = w3.heap.size := rfl; have := HZA.out; omega
    have hBf : ∀ k, blockOf B6 = some k → w3.heap.size ≤ k := fun k hk => by have := hBf6 k hk; have h2 : w3.drew.heap.size = w3.heap.size := rfl; have := HZA.out; omega
    have hEf : ∀ k, blockOf E6 = some k → w3.heap.size ≤ k := fun k hk => by have := hEf6 k hk; have h2 : w3.drew.heap.size = w3.heap.size := rfl; have := HZA.out; omega
    first
      | (have hGG := (((((((hG6.set 0 (.int .i64 c0)).set 1 (.int .i64 c1)).set 2 (.int .i64 c2)).set 3 (.int .i64 c3)).set 4 (.slice A6 l2.length cA6)).set 5 (.slice B6 t2.length cB6)).set 6 (.int .i64 ep2)); have HGG := Lib.hid hGG; have HSG := Lib.hid ((((((((Step.refl (· = w3.heap.size) w6).setCell (p := ⟨w3.heap.size, 0, none⟩) (fun _ => rfl) (.int .i64 c0)).setCell (p := ⟨w3.heap.size, 1, none⟩) (fun _ => rfl) (.int .i64 c1)).setCell (p := ⟨w3.heap.size, 2, none⟩) (fun _ => rfl) (.int .i64 c2)).setCell (p := ⟨w3.heap.size, 3, none⟩) (fun _ => rfl) (.int .i64 c3)).setCell (p := ⟨w3.heap.size, 4, none⟩) (fun _ => rfl) (.slice A6 l2.length cA6)).setCell (p := ⟨w3.heap.size, 5, none⟩) (fun _ => rfl) (.slice B6 t2.length cB6)).setCell (p := ⟨w3.heap.size, 6, none⟩) (fun _ => rfl) (.int .i64 ep2)); clear hGG hG6 r0 r1 r2 r3 r4 r5 r6 k0 k1 k2 k3 k4 k5 k6; go_upto_region 7 with (fail); first | (refine hide_blk HGG.out HSG.out ?_) | (refine hide_blk HGG.out.drew HSG.out.drew ?_)
         intro w7 hG hs7
         have hza := HZA.out
         have hst7 : Step (fun _ => False) w w7 := (hst3.same hq6).trans hs7 (fun j hj e => by omega)
         have hZ7 := (HZ3.out.keep hq6 (fun h => h)).keep hs7 (fun e => by omega)
         have hA7 := hA6.keep hs7 (fun k hk e => by have := hAf6 k hk; omega)
         have hB7 := hB6.keep hs7 (fun k hk e => by have := hBf6 k hk; omega)
         have hE7 := hE6.keep hs7 (fun k hk e => by have := hEf6 k hk; omega)
         clear hA6 hB6 hE6
         have y0 := hG.cell (i := 0) rfl
         have y1 := hG.cell (i := 1) rfl
         have y2 := hG.cell (i := 2) rfl
         have y3 := hG.cell (i := 3) rfl
         have y4 := hG.cell (i := 4) rfl
         have y5 := hG.cell (i := 5) rfl
         have y6 := hG.cell (i := 6) rfl
         go_wp2_with (refine wpList_store_blk rfl 60 (.tmp 8) (.tmp 37) rfl hZ7 rfl (vs := [.int .i64 c0, .int .i64 c1, .int .i64 c2, .int .i64 c3, .slice A6 l2.length cA6, .slice B6 t2.length cB6, .int .i64 ep2]) rfl (by kernel_rfl) rfl (cell7 _ _ _ _ _ _ _ _ _ _ _) ?_; intro w9 hZ9 hs9)
         try simp only [Exit.inBlock, Exit.then]
         refine post_ctt (cs := [.int .i64 c0, .int .i64 c1, .int .i64 c2, .int .i64 c3, .slice A6 l2.length cA6, .slice B6 t2.length cB6, .int .i64 ep2]) rfl rfl hZ9 Try.underlying60 rfl (by kernel_rfl) rfl rfl rfl ?_
         exact ⟨A6, cA6, B6, cB6, E6, cE6, rfl, hA7.keep hs9 (fun k hk e => by have := hAf k hk; omega), hB7.keep hs9 (fun k hk e => by have := hBf k hk; omega), hE7.keep hs9 (fun k hk e => by have := hEf k hk; omega), fun k hk => by have := hAf k hk; omega, fun k hk => by have := hBf k hk; omega, fun k hk => by have := hEf k hk; omega, hst7.trans hs9 (fun j hj e => by omega)⟩)
      | (go_upto_region 7 with (fail)
         refine alloc_next (cs := [.int .i64 c0, .int .i64 c1, .int .i64 c2, .int .i64 c3, .slice A6 l2.length cA6, .slice B6 t2.length cB6, .int .i64 ep2]) ?_
         intro w7 hG hs7
         have hst7 := (hst3.same hq6).same hs7
         have hZ7 := (HZ3.out.keep hq6 (fun h => h)).keep hs7 (fun h => h)
         have hA7 := hA6.keep hs7 (fun _ _ h => h)
         have hB7 := hB6.keep hs7 (fun _ _ h => h)
         have hE7 := hE6.keep hs7 (fun _ _ h => h)
         generalize w6.heap.size = gb at *
         clear hA6 hB6 hE6
         have y0 := hG.cell (i := 0) rfl
         have y1 := hG.cell (i := 1) rfl
         have y2 := hG.cell (i := 2) rfl
         have y3 := hG.cell (i := 3) rfl
         have y4 := hG.cell (i := 4) rfl
         have y5 := hG.cell (i := 5) rfl
         have y6 := hG.cell (i := 6) rfl
         go_wp2_with (refine wpList_store_blk rfl 60 (.tmp 8) (.tmp 37) rfl hZ7 rfl (vs := [.int .i64 c0, .int .i64 c1, .int .i64 c2, .int .i64 c3, .slice A6 l2.length cA6, .slice B6 t2.length cB6, .int .i64 ep2]) rfl (by kernel_rfl) rfl (cell7 _ _ _ _ _ _ _ _ _ _ _) ?_; intro w9 hZ9 hs9)
         try simp only [Exit.inBlock, Exit.then]
         refine post_ctt (cs := [.int .i64 c0, .int .i64 c1, .int .i64 c2, .int .i64 c3, .slice A6 l2.length cA6, .slice B6 t2.length cB6, .int .i64 ep2]) rfl rfl hZ9 Try.underlying60 rfl (by kernel_rfl) rfl rfl rfl ?_
         exact ⟨A6, cA6, B6, cB6, E6, cE6, rfl, hA7.keep hs9 (fun k hk e => by have := hAf k hk; omega), hB7.keep hs9 (fun k hk e => by have := hBf k hk; omega), hE7.keep hs9 (fun k hk e => by have := hEf k hk; omega), fun k hk => by have := hAf k hk; omega, fun k hk => by have := hBf k hk; omega, fun k hk => by have := hEf k hk; omega, hst7.trans hs9 (fun j hj e => by omega)⟩)
end Go.Proofs.Ytghiklaeenhljaa.HeD
