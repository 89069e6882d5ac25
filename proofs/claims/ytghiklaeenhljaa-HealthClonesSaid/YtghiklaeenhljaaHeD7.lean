/- the document's health: Remove. Own work of this seat; no condition but on lengths and numbers. -/
import Derived.Test.YtghiklaeenhljaaHeD4
namespace Go.Proofs.Ytghiklaeenhljaa.HeD
open Go.RowKit Go.Proofs.Ytghiklaeenhljaa.Kit Go.Proofs.Ytghiklaeenhljaa.It Go.Proofs.Ytghiklaeenhljaa.Hea Go.Proofs.YtghiklaeenhljaaW.PrintWords Go.Proofs.Ytghiklaeenhljaa
set_option linter.unusedVariables false
set_option linter.unusedSimpArgs false

def remO (l : List Oe) (s : ByteArray) : List Oe := l.filter (fun x => decide (x.nm ≠ s))
theorem remO_take {l : List Oe} {s : ByteArray} {i : Nat} {x : Oe} (h : l[i]? = some x) : remO (l.take (i + 1)) s = remO (l.take i) s ++ (if x.nm = s then [] else [x]) := by
  unfold remO
  rw [List.take_add_one, h, List.filter_append]
  by_cases e : x.nm = s <;> simp [e]
theorem remO_none {l : List Oe} {s : ByteArray} (h : getO l s = none) : remO l s = l := by
  unfold remO
  unfold getO at h
  rw [List.find?_eq_none] at h
  rw [List.filter_eq_self]
  intro x hx
  have := h x hx
  simpa using this
theorem remO_some {l : List Oe} {s : ByteArray} {x : Oe} (h : getO l s = some x) : (remO l s).length < l.length := by
  unfold getO at h
  have h1 := List.mem_of_find?_eq_some h
  have h2 := List.find?_some h
  have h3 := List.length_filter_le (fun y : Oe => decide (y.nm ≠ s)) l
  rcases Nat.lt_or_ge (remO l s).length l.length with hl | hl
  · exact hl
  · have h4 : (l.filter (fun y : Oe => decide (y.nm ≠ s))).length = l.length := by unfold remO at hl; omega
    have h5 := (List.length_filter_eq_length_iff.1 h4) x h1
    simp at h2 h5
    exact absurd h2 h5

set_option maxRecDepth 100000 in
set_option maxHeartbeats 4000000 in
theorem drem_calls {w : World} {A B : Option Addr} {n cA m cB : Nat} {l : List Oe} {ts : List It} (hA : ORd w A n l) (hB : IRd w B m ts) (hn : n ≤ 10000) (hm : m ≤ 10000) (c : Cf) {ep : Int} (hep : 0 ≤ ep ∧ ep ≤ 1000000000) (s : ByteArray) :
    Calls Try.prog 43 #[.agg #[.int .i64 c.every, .int .i64 c.wait, .int .i64 c.rise, .int .i64 c.fall, .slice A n cA, .slice B m cB, .int .i64 ep], .string s] w fun e w' =>
      (getO l s = none ∧ e = .returned (.tuple #[.agg #[.int .i64 c.every, .int .i64 c.wait, .int .i64 c.rise, .int .i64 c.fall, .slice A n cA, .slice B m cB, .int .i64 ep], .bool false]) ∧ Step (fun _ => False) w w') ∨
      ((getO l s).isSome = true ∧ ∃ A' cA' B' cB', e = .returned (.tuple #[.agg #[.int .i64 c.every, .int .i64 c.wait, .int .i64 c.rise, .int .i64 c.fall, .slice A' (remO l s).length cA', .slice B' (itDrop ts s).length cB', .int .i64 (ep + 1)], .bool true]) ∧
        OW w' A' (remO l s).length cA' (remO l s) ∧ IW w' B' (itDrop ts s).length cB' (itDrop ts s) ∧ (∀ k, blockOf A' = some k → w.heap.size ≤ k) ∧ (∀ k, blockOf B' = some k → w.heap.size ≤ k) ∧ Step (fun _ => False) w w') := by
  have hlen := hA.len
  have HD := Lib.hid (fun w1 (hs : Step (fun _ => False) w w1) => It.drop_calls (c := cB) (hB.same hs) (by omega) s)
  have HH := Lib.hid hA
  have HLN := Lib.hid hlen
  clear hA hB hlen
  obtain ⟨c0, c1, c2, c3⟩ := c
  simp only
  obtain ⟨l2, hl2⟩ : ∃ l2, remO l s = l2 := ⟨_, rfl⟩
  rw [hl2]
  have HL2 := Lib.hid hl2
  clear hl2
  generalize itDrop ts s = t2 at *
  have hw2 : IntKind.i64.wrap (ep + 1) = ep + 1 := by rw [IntKind.wrap_i64]; omega
  go_enter Try.func43, Try.ntmps43
  go_upto_region 1 with (fail)
  refine alloc_next2 (cs := [.int .i64 c0, .int .i64 c1, .int .i64 c2, .int .i64 c3, .slice A n cA, .slice B m cB, .int .i64 ep]) (ds := [.int .i64 0, .int .i64 0, .int .i64 0, .int .i64 0, .slice none 0 0, .slice none 0 0, .int .i64 0]) ?_
  intro w1 hX hZ hs1 hl1
  obtain ⟨xb, hxb⟩ : ∃ xb, w.heap.size = xb := ⟨_, rfl⟩
  rw [hxb] at hX hZ hl1 ⊢
  have HXB := Lib.hid hxb
  clear hxb
  go_upto_region 2 with (fail)
  have hB0 : OW (w1.alloc (.cells #[] 107)) (some ⟨w1.heap.size, 0, none⟩) 0 0 [] := ⟨rfl, .inr ⟨w1.heap.size, #[], rfl, by show (w1.heap.push _)[w1.heap.size]? = _; simp, Nat.le_refl _, Nat.le_refl _, fun j v hj => by simp [oncs] at hj⟩⟩
  have hs0 : Step (fun _ => False) w1 (w1.alloc (.cells #[] 107)) := (Step.refl _ _).alloc _
  have hX0 := hX.keep hs0 (fun h => h)
  have hZ0 := hZ.keep hs0 (fun h => h)
  have hst0 : Step (fun _ => False) w (w1.alloc (.cells #[] 107)) := hs1.same hs0
  have hf0 : ∀ k, blockOf (some (⟨w1.heap.size, 0, none⟩ : Addr)) = some k → xb + 1 < k := fun k hk => by
    obtain rfl : w1.heap.size = k := Option.some.inj hk
    exact hl1
  generalize hw0 : w1.alloc (.cells #[] 107) = w0 at *
  clear hw0
  generalize (some (⟨w1.heap.size, 0, none⟩ : Addr)) = A0 at *
  clear hs1 hX hZ hl1
  have x4 := hX0.cell (i := 4) rfl
  go_upto_region 3 with (fail)
  clear x4
  go_loopw [6, 13] (fun v6 v13 wr => ∃ (i q : Nat) (R : Option Addr) (cR : Nat), v13 = .int .i64 (i : Int) ∧ v6 = .slice R q cR ∧ i ≤ n ∧ q = (remO (l.take i) s).length ∧ q ≤ i ∧ OW wr R q cR (remO (l.take i) s) ∧ (∀ k, blockOf R = some k → xb + 1 < k) ∧ Blk wr xb 60 [.int .i64 c0, .int .i64 c1, .int .i64 c2, .int .i64 c3, .slice A n cA, .slice B m cB, .int .i64 ep] ∧ Blk wr (xb + 1) 60 [.int .i64 0, .int .i64 0, .int .i64 0, .int .i64 0, .slice none 0 0, .slice none 0 0, .int .i64 0] ∧ Step (fun _ => False) w wr) (fun _ v _ => n - (intOf v).toNat)
  case atStart => exact ⟨0, 0, A0, 0, rfl, rfl, Nat.zero_le _, rfl, Nat.le_refl _, hB0, hf0, hX0, hZ0, hst0⟩
  case round =>
    clear hB0 hf0 hs0 hX0 hZ0 hst0
    obtain ⟨i, q, R, cR, rfl, rfl, hi, hq, hqi, hR, hRf, hX, hZ, hst⟩ := hrel
    by_cases hin : i < n
    · have hin' : ((i : Int) < (n : Int)) := by omega
      have hA := HH.out.same hst
      obtain ⟨g, o, rfl⟩ := RSeg.isSome hA (by omega) (by omega)
      obtain ⟨x, hx⟩ : ∃ x, l[i]? = some x := ⟨_, List.getElem?_eq_getElem (by rw [HLN.out]; exact hin)⟩
      obtain ⟨a0, a1, a2, a3, a4, a5⟩ := hA.cells hx
      have HTK := Lib.hid (remO_take (s := s) hx)
      obtain ⟨x0, ⟨x1, x2, x3, x4⟩, x5⟩ := x
      simp only at a0 a1 a2 a3 a4 a5 HTK
      have HM := Lib.hid hq
      clear hA hx hq
      go_upto_region 5 with (fail)
      refine alloc_next (cs := [.string x0, .bool x1, .int .i64 x2, .int .i64 x3, .int .i64 x4, .bool x5]) ?_
      intro w2 hO hs2
      have hst2 := hst.same hs2
      have hR2 := hR.keep hs2 (fun _ _ h => h)
      have hX2 := hX.keep hs2 (fun h => h)
      have hZ2 := hZ.keep hs2 (fun h => h)
      have z0 := hO.cell (i := 0) rfl
      have z1 := hO.cell (i := 1) rfl
      have z2 := hO.cell (i := 2) rfl
      have z3 := hO.cell (i := 3) rfl
      have z4 := hO.cell (i := 4) rfl
      have z5 := hO.cell (i := 5) rfl
      clear a0 a1 a2 a3 a4 a5 hR hX hZ
      generalize wr.heap.size = ob at *
      by_cases hk : x0 = s
      · have hsa : (x0.toList == s.toList) = true := by rw [hk]; exact bytes_same s
        have HT : Hid (remO (l.take (i + 1)) s = remO (l.take i) s) := Lib.hid (by rw [HTK.out, if_pos hk, List.append_nil])
        have HR2 := Lib.hid hR2
        have HX2 := Lib.hid hX2
        have HZ2 := Lib.hid hZ2
        clear hk hR2 HTK hX2 hZ2
        go_wp2
        go_roundw
        case rel => exact ⟨i + 1, q, R, cR, by go_num, rfl, by omega, by rw [HT.out]; exact HM.out, by omega, by rw [HT.out]; exact HR2.out, hRf, HX2.out, HZ2.out, hst2⟩
        case measure => simp [intOf]; omega
      · have hsa : (x0.toList == s.toList) = false := bytes_ne hk
        have HT : Hid (remO (l.take (i + 1)) s = remO (l.take i) s ++ [⟨x0, ⟨x1, x2, x3, x4⟩, x5⟩]) := Lib.hid (by rw [HTK.out, if_neg hk])
        clear hk HTK
        go_upto_region 6 with (fail)
        obtain ⟨B5, c5, w5, hap, hB5, hB5f, hst5, hks5⟩ := app_one_step hst2 hR2 (fun k hk => by have := hRf k hk; have := HXB.out; omega) (by omega) ⟨x0, ⟨x1, x2, x3, x4⟩, x5⟩
        have hX5 := hX2.keep hks5 (fun h => by have := hRf _ h; omega)
        have hZ5 := hZ2.keep hks5 (fun h => by have := hRf _ h; omega)
        have hzl := hZ2.lt
        have hB5g : ∀ k, blockOf B5 = some k → xb + 1 < k := fun k hk => (hB5f k hk).elim (hRf k) (fun h => by omega)
        have HB5 := Lib.hid hB5
        have HX5 := Lib.hid hX5
        have HZ5 := Lib.hid hZ5
        clear hB5 hks5 hB5f hR2 hX2 hZ2 hX5 hZ5
        go_wp2_with (at_builtin; refine wpList_app1 (by rfl) (.tmp 21) (.tmp 23) 57 (by rfl) (by rfl) (by rfl) hap ?_)
        go_roundw
        case rel => exact ⟨i + 1, q + 1, B5, c5, by go_num, rfl, by omega, by rw [HT.out, List.length_append, ← HM.out]; rfl, by omega, by rw [HT.out]; exact HB5.out, hB5g, HX5.out, HZ5.out, hst5⟩
        case measure => simp [intOf]; omega
    · obtain rfl : i = n := by omega
      have hin' : ¬ ((i : Int) < (i : Int)) := by omega
      rw [List.take_of_length_le (by rw [HLN.out]; exact Nat.le_refl _), HL2.out] at hR hq
      have hxw := HXB.out
      cases hg : getO l s with
      | none =>
        have hqn : q = i := by rw [hq, ← HL2.out, remO_none hg, HLN.out]
        subst hqn
        have HG := Lib.hid hg
        clear hg hq hR
        have y0 := hX.cell (i := 0) rfl
        have y1 := hX.cell (i := 1) rfl
        have y2 := hX.cell (i := 2) rfl
        have y3 := hX.cell (i := 3) rfl
        have y4 := hX.cell (i := 4) rfl
        have y5 := hX.cell (i := 5) rfl
        have y6 := hX.cell (i := 6) rfl
        go_wp2_with (refine wpList_store_blk rfl 60 (.tmp 4) (.tmp 32) rfl hZ rfl (vs := [.int .i64 c0, .int .i64 c1, .int .i64 c2, .int .i64 c3, .slice A q cA, .slice B m cB, .int .i64 ep]) rfl (by kernel_rfl) rfl (cell7 _ _ _ _ _ _ _ _ _ _ _) ?_; intro w9 hZ9 hs9)
        try simp only [Exit.inBlock, Exit.then]
        refine post_cell_tmp (cs := [.int .i64 c0, .int .i64 c1, .int .i64 c2, .int .i64 c3, .slice A q cA, .slice B m cB, .int .i64 ep]) rfl rfl hZ9 Try.underlying60 rfl (by kernel_rfl) rfl rfl ?_
        exact .inl ⟨HG.out, rfl, hst.trans hs9 (fun j hj e => by omega)⟩
      | some x =>
        have hqn : q < i := by rw [hq, ← HLN.out, ← HL2.out]; exact remO_some hg
        have hqe : (((q : Int) == (i : Int))) = false := by simp; omega
        have HG := Lib.hid hg
        have HQ := Lib.hid hq
        clear hg hq
        have y4 := hX.cell (i := 4) rfl
        have f4 := hX.free 4
        go_upto_region 11 with (fail)
        refine put_plain hX ?_
        intro w3 hX3 hs3
        have hst3 : Step (fun _ => False) w w3 := hst.trans hs3 (fun j hj e => by omega)
        have hR3 := hR.keep hs3 (fun k hk e => by have := hRf k hk; omega)
        have hZ3 := hZ.keep hs3 (fun e => by omega)
        have HD3 := Lib.hid (HD.out w3 hst3)
        clear y4 f4 hX hR hZ hs3 HD hqe
        have y5 := hX3.cell (i := 5) rfl
        go_upto_region 12 with (go_at_call 61; refine HD3.out.mono ?_; rintro e4 w4 ⟨B4, c4, rfl, hB4, hBf4, hs4⟩; have hX4 := hX3.keep hs4 (fun h => h); have y54 := hX4.cell (i := 5) rfl; have f5 := hX4.free 5)
        refine put_plain hX4 ?_
        intro w5 hX5 hs5
        have hz3 := hst3.size
        have hz4 := hs4.size
        have hzl := hZ3.lt
        have hst5 : Step (fun _ => False) w w5 := (hst3.same hs4).trans hs5 (fun j hj e => by omega)
        have hB5 := hB4.keep hs5 (fun k hk e => by have := hBf4 k hk; omega)
        have hR5 := (hR3.keep hs4 (fun _ _ h => h)).keep hs5 (fun k hk e => by have := hRf k hk; omega)
        have hZ5 := (hZ3.keep hs4 (fun h => h)).keep hs5 (fun e => by omega)
        have hBf5 : ∀ k, blockOf B4 = some k → xb + 1 < k := fun k hk => by have := hBf4 k hk; omega
        clear y5 y54 f5 hX3 hX4 hB4 hR3 hZ3 hs4 hs5 hst3 HD3 hBf4
        have y6 := hX5.cell (i := 6) rfl
        have f6 := hX5.free 6
        go_upto_region 13 with (fail)
        refine put_plain hX5 ?_
        intro w7 hX7 hs7
        have hst7 : Step (fun _ => False) w w7 := hst5.trans hs7 (fun j hj e => by omega)
        have hB7 := hB5.keep hs7 (fun k hk e => by have := hBf5 k hk; omega)
        have hR7 := hR5.keep hs7 (fun k hk e => by have := hRf k hk; omega)
        have hZ7 := hZ5.keep hs7 (fun e => by omega)
        clear y6 f6 hX5 hB5 hR5 hZ5 hs7 hst5
        have y0 := hX7.cell (i := 0) rfl
        have y1 := hX7.cell (i := 1) rfl
        have y2 := hX7.cell (i := 2) rfl
        have y3 := hX7.cell (i := 3) rfl
        have y4 := hX7.cell (i := 4) rfl
        have y5 := hX7.cell (i := 5) rfl
        have y6 := hX7.cell (i := 6) rfl
        go_wp2_with (refine wpList_store_blk rfl 60 (.tmp 4) (.tmp 47) rfl hZ7 rfl (vs := [.int .i64 c0, .int .i64 c1, .int .i64 c2, .int .i64 c3, .slice R q cR, .slice B4 t2.length c4, .int .i64 (ep + 1)]) rfl (by kernel_rfl) rfl (cell7 _ _ _ _ _ _ _ _ _ _ _) ?_; intro w9 hZ9 hs9)
        try simp only [Exit.inBlock, Exit.then]
        refine post_cell_tmp (cs := [.int .i64 c0, .int .i64 c1, .int .i64 c2, .int .i64 c3, .slice R q cR, .slice B4 t2.length c4, .int .i64 (ep + 1)]) rfl rfl hZ9 Try.underlying60 rfl (by kernel_rfl) rfl rfl ?_
        exact .inr ⟨by rw [HG.out]; rfl, R, cR, B4, c4, by rw [← HQ.out]; rfl, by rw [← HQ.out]; exact hR7.keep hs9 (fun k hk e => by have := hRf k hk; omega), hB7.keep hs9 (fun k hk e => by have := hBf5 k hk; omega), fun k hk => by have := hRf k hk; omega, fun k hk => by have := hBf5 k hk; omega, hst7.trans hs9 (fun j hj e => by omega)⟩
end Go.Proofs.Ytghiklaeenhljaa.HeD
