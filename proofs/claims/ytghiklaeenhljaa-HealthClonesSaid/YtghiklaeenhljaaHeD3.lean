/- the document's health: set, result. Own work of this seat; no condition but on lengths and numbers. -/
import Derived.Test.YtghiklaeenhljaaHeD2
namespace Go.Proofs.Ytghiklaeenhljaa.HeD
open Go.RowKit Go.Proofs.Ytghiklaeenhljaa.Kit Go.Proofs.Ytghiklaeenhljaa.It Go.Proofs.Ytghiklaeenhljaa.Hea Go.Proofs.YtghiklaeenhljaaW.PrintWords Go.Proofs.Ytghiklaeenhljaa
set_option linter.unusedVariables false
set_option linter.unusedSimpArgs false

def timI (ts : List It) (s : ByteArray) (v : Int) : List It := if v ≤ 1099511627776 then itSet ts s v else itDrop ts s
theorem itSet_len (ts : List It) (s : ByteArray) (v : Int) : (itSet ts s v).length ≤ ts.length + 1 := by
  unfold itSet
  rw [itIns_len]
  have := itDrop_le ts s
  omega
theorem timI_len (ts : List It) (s : ByteArray) (v : Int) : (timI ts s v).length ≤ ts.length + 1 := by
  unfold timI
  split
  · exact itSet_len _ _ _
  · have := itDrop_le ts s
    omega
theorem putO_len (l : List Oe) (o : Oe) : (putO l o).length ≤ 2 * l.length + 1 := by
  have := outP_len l o
  unfold putO
  split <;> simp <;> omega

set_option maxRecDepth 100000 in
set_option maxHeartbeats 4000000 in
theorem dset_calls {w : World} {B : Option Addr} {m cB : Nat} {ts : List It} (h : IRd w B m ts) (hm : m ≤ 100000) (c : Cf) (A : Option Addr) (n cA : Nat) (ep : Int) (s : ByteArray) (v : Int) :
    Calls Try.prog 60 #[.agg #[.int .i64 c.every, .int .i64 c.wait, .int .i64 c.rise, .int .i64 c.fall, .slice A n cA, .slice B m cB, .int .i64 ep], .string s, .int .i64 v] w fun e w' => ∃ B' cB', e = .returned (.agg #[.int .i64 c.every, .int .i64 c.wait, .int .i64 c.rise, .int .i64 c.fall, .slice A n cA, .slice B' (timI ts s v).length cB', .int .i64 ep]) ∧ IW w' B' (timI ts s v).length cB' (timI ts s v) ∧ (∀ k, blockOf B' = some k → w.heap.size ≤ k) ∧ Step (fun _ => False) w w' := by
  obtain ⟨c0, c1, c2, c3⟩ := c
  simp only
  unfold timI
  by_cases hv : v ≤ 1099511627776
  · rw [if_pos hv]
    have hgt : ¬ (v > 1099511627776) := by omega
    have HS := Lib.hid (fun w1 (hs : Step (fun _ => False) w w1) => It.set_calls (c := cB) (h.same hs) hm s v)
    generalize itSet ts s v = r at *
    clear h hv
    go_enter Try.func60, Try.ntmps60
    go_upto_region 1 with (fail)
    refine alloc_next2 (cs := [.int .i64 c0, .int .i64 c1, .int .i64 c2, .int .i64 c3, .slice A n cA, .slice B m cB, .int .i64 ep]) (ds := [.int .i64 0, .int .i64 0, .int .i64 0, .int .i64 0, .slice none 0 0, .slice none 0 0, .int .i64 0]) ?_
    intro w1 hX hR hs1 hl1
    obtain ⟨xb, hxb⟩ : ∃ xb, w.heap.size = xb := ⟨_, rfl⟩
    rw [hxb] at hX hR hl1 ⊢
    have HXB := Lib.hid hxb
    clear hxb
    have x5 := hX.cell (i := 5) rfl
    have HS1 := Lib.hid (HS.out w1 hs1)
    clear HS
    go_upto_region 5 with (go_at_call 73; refine HS1.out.mono ?_; rintro e2 w2 ⟨B2, c2', rfl, hB2, hBf2, hs2⟩; have hX2 := hX.keep hs2 (fun h => h); have f5 := hX2.free 5; have y5 := hX2.cell (i := 5) rfl)
    refine put_plain hX2 ?_
    intro w3 hX3 hs3
    have hR3 := (hR.keep hs2 (fun h => h)).keep hs3 (fun e => by omega)
    have hB3 := hB2.keep hs3 (fun k hk e => by have := hBf2 k hk; omega)
    have hst3 : Step (fun _ => False) w w3 := (hs1.same hs2).trans hs3 (fun j hj e => by have := HXB.out; omega)
    clear f5 y5 hX2 x5
    have x0 := hX3.cell (i := 0) rfl
    have x1 := hX3.cell (i := 1) rfl
    have x2 := hX3.cell (i := 2) rfl
    have x3 := hX3.cell (i := 3) rfl
    have x4 := hX3.cell (i := 4) rfl
    have x5 := hX3.cell (i := 5) rfl
    have x6 := hX3.cell (i := 6) rfl
    go_wp2_with (refine wpList_store_blk rfl 60 (.tmp 6) (.tmp 24) rfl hR3 rfl (vs := [.int .i64 c0, .int .i64 c1, .int .i64 c2, .int .i64 c3, .slice A n cA, .slice B2 r.length c2', .int .i64 ep]) rfl (by kernel_rfl) rfl (cell7 _ _ _ _ _ _ _ _ _ _ _) ?_; intro w9 hZ9 hs9)
    try simp only [Exit.inBlock, Exit.then]
    refine post_c (cs := [.int .i64 c0, .int .i64 c1, .int .i64 c2, .int .i64 c3, .slice A n cA, .slice B2 r.length c2', .int .i64 ep]) rfl rfl hZ9 Try.underlying60 rfl (by kernel_rfl) rfl ?_
    exact ⟨B2, c2', rfl, hB3.keep hs9 (fun k hk e => by have := hBf2 k hk; omega), fun k hk => by have := hBf2 k hk; have := hs1.size; omega, hst3.trans hs9 (fun j hj e => by have := HXB.out; omega)⟩
  · rw [if_neg hv]
    have hgt : (v > 1099511627776) := by omega
    have HS := Lib.hid (fun w1 (hs : Step (fun _ => False) w w1) => It.drop_calls (c := cB) (h.same hs) hm s)
    generalize itDrop ts s = r at *
    clear h hv
    go_enter Try.func60, Try.ntmps60
    go_upto_region 1 with (fail)
    refine alloc_next2 (cs := [.int .i64 c0, .int .i64 c1, .int .i64 c2, .int .i64 c3, .slice A n cA, .slice B m cB, .int .i64 ep]) (ds := [.int .i64 0, .int .i64 0, .int .i64 0, .int .i64 0, .slice none 0 0, .slice none 0 0, .int .i64 0]) ?_
    intro w1 hX hR hs1 hl1
    obtain ⟨xb, hxb⟩ : ∃ xb, w.heap.size = xb := ⟨_, rfl⟩
    rw [hxb] at hX hR hl1 ⊢
    have HXB := Lib.hid hxb
    clear hxb
    have x5 := hX.cell (i := 5) rfl
    have HS1 := Lib.hid (HS.out w1 hs1)
    clear HS
    go_upto_region 3 with (go_at_call 61; refine HS1.out.mono ?_; rintro e2 w2 ⟨B2, c2', rfl, hB2, hBf2, hs2⟩; have hX2 := hX.keep hs2 (fun h => h); have f5 := hX2.free 5; have y5 := hX2.cell (i := 5) rfl)
    refine put_plain hX2 ?_
    intro w3 hX3 hs3
    have hR3 := (hR.keep hs2 (fun h => h)).keep hs3 (fun e => by omega)
    have hB3 := hB2.keep hs3 (fun k hk e => by have := hBf2 k hk; omega)
    have hst3 : Step (fun _ => False) w w3 := (hs1.same hs2).trans hs3 (fun j hj e => by have := HXB.out; omega)
    clear f5 y5 hX2 x5
    have x0 := hX3.cell (i := 0) rfl
    have x1 := hX3.cell (i := 1) rfl
    have x2 := hX3.cell (i := 2) rfl
    have x3 := hX3.cell (i := 3) rfl
    have x4 := hX3.cell (i := 4) rfl
    have x5 := hX3.cell (i := 5) rfl
    have x6 := hX3.cell (i := 6) rfl
    go_wp2_with (refine wpList_store_blk rfl 60 (.tmp 6) (.tmp 17) rfl hR3 rfl (vs := [.int .i64 c0, .int .i64 c1, .int .i64 c2, .int .i64 c3, .slice A n cA, .slice B2 r.length c2', .int .i64 ep]) rfl (by kernel_rfl) rfl (cell7 _ _ _ _ _ _ _ _ _ _ _) ?_; intro w9 hZ9 hs9)
    try simp only [Exit.inBlock, Exit.then]
    refine post_c (cs := [.int .i64 c0, .int .i64 c1, .int .i64 c2, .int .i64 c3, .slice A n cA, .slice B2 r.length c2', .int .i64 ep]) rfl rfl hZ9 Try.underlying60 rfl (by kernel_rfl) rfl ?_
    exact ⟨B2, c2', rfl, hB3.keep hs9 (fun k hk e => by have := hBf2 k hk; omega), fun k hk => by have := hBf2 k hk; have := hs1.size; omega, hst3.trans hs9 (fun j hj e => by have := HXB.out; omega)⟩

def DSeg (w : World) (A : Option Addr) (n c : Nat) (l : List Evn) : Prop := FSeg w 135 3 A n c (evcs l)
theorem DSeg.len {w : World} {A : Option Addr} {n c : Nat} {l : List Evn} (h : DSeg w A n c l) : l.length = n := by
  have := h.1
  rw [evcs_length] at this
  omega
theorem DSeg.keep {w w' : World} {A : Option Addr} {n c : Nat} {l : List Evn} {F : Nat → Prop} (h : DSeg w A n c l) (hs : Step F w w') (hF : ∀ j, blockOf A = some j → ¬ F j) : DSeg w' A n c l := FSeg.keep h hs hF
theorem dseg_nil (w : World) : DSeg w none 0 0 [] := fseg_nil _ _ _
end Go.Proofs.Ytghiklaeenhljaa.HeD
