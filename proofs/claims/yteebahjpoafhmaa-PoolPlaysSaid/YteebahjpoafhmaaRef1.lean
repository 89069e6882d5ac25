/- the document's answer for the pool: rows of its backends; Find. Own work of this seat. -/
import Derived.Test.YteebahjpoafhmaaPoolD
namespace Go.Proofs.Yteebahjpoafhmaa.Pool
open Go.RowKit Go.Proofs.Yteebahjpoafhmaa.Kit Go.Proofs.Yteebahjpoafhmaa.PPoolPlays Go.Proofs.YteebahjpoafhmaaW.PrintWords Go.Proofs.YteebahjpoafhmaaW.PrintLast Go.Proofs.YteebahjpoafhmaaW.PrintMore
set_option linter.unusedVariables false
set_option linter.unusedSimpArgs false

/-- A row of the document's backends. -/
def RRow (w : World) (A : Option Addr) (n c : Nat) (l : List S38) : Prop := FSeg w 67 5 A n c (bcells l)
section
variable {w w' : World} {A : Option Addr} {n c : Nat} {l : List S38} {F : Nat → Prop}
theorem RRow.len (h : RRow w A n c l) : l.length = n := by have := h.1; rw [bcells_length] at this; omega
theorem RRow.keep (h : RRow w A n c l) (hs : Step F w w') (hF : ∀ j, blockOf A = some j → ¬ F j) : RRow w' A n c l := FSeg.keep h hs hF
theorem RRow.lt (h : RRow w A n c l) {j : Nat} (hj : blockOf A = some j) : j < w.heap.size := FSeg.lt h hj
theorem RRow.cells {g : Nat} (h : RRow w (some ⟨g, 0, none⟩) n c l) {i : Nat} {x : S38} (hi : l[i]? = some x) :
    w.cell? ⟨g, i * 5, none⟩ = some (.string x.f0) ∧ w.cell? ⟨g, i * 5 + 1, none⟩ = some (.int .i64 x.f1) ∧ w.cell? ⟨g, i * 5 + 2, none⟩ = some (.int .i64 x.f2) ∧ w.cell? ⟨g, i * 5 + 3, none⟩ = some (.int .i64 x.f3) ∧ w.cell? ⟨g, i * 5 + 4, none⟩ = some (.int .i64 x.f4) :=
  ⟨FSeg.cell h (bcells_get l i x hi 0 _ rfl), FSeg.cell h (bcells_get l i x hi 1 _ rfl), FSeg.cell h (bcells_get l i x hi 2 _ rfl), FSeg.cell h (bcells_get l i x hi 3 _ rfl), FSeg.cell h (bcells_get l i x hi 4 _ rfl)⟩
theorem RRow.one (h : RRow w A n c l) {i : Nat} (hi : i < n) : ∃ g, A = some ⟨g, 0, none⟩ := FSeg.isSome h (by omega)
end

theorem getB_hit {l : List S38} {s : ByteArray} {i : Nat} (hi : i < l.length) (h : (l[i]).f0 = s) (hno : ∀ j (hj : j < l.length), j < i → (l[j]).f0 ≠ s) : getB l s = (l[i], true) := by
  have : l.find? (named s) = some l[i] := by
    rw [List.find?_eq_some_iff_getElem]
    exact ⟨by simp [named, h], i, hi, rfl, fun j hj => by simp [named, hno j (by omega) hj]⟩
  unfold getB
  rw [this]
theorem getB_miss {l : List S38} {s : ByteArray} (hno : ∀ j (hj : j < l.length), (l[j]).f0 ≠ s) : getB l s = (⟨⟨#[]⟩, 0, 0, 0, 0⟩, false) := by
  have : l.find? (named s) = none := List.find?_eq_none.2 (fun x hx => by
    obtain ⟨j, hj, rfl⟩ := List.mem_iff_getElem.1 hx
    simp [named, hno j hj])
  unfold getB
  rw [this]

set_option maxRecDepth 100000 in
set_option maxHeartbeats 1000000 in
theorem find_calls {w : World} {A : Option Addr} {n c : Nat} {l : List S38} (h : RRow w A n c l) (hmax : n ≤ 1000000) (s : ByteArray) :
    Calls Try.prog 46 #[.slice A n c, .string s] w fun e w' => e = .returned (.tuple #[.agg (bc (getB l s).1).toArray, .bool (getB l s).2]) ∧ Step (fun _ => False) w w' := by
  have hn := h.len
  obtain ⟨r, hr0⟩ : ∃ r, getB l s = r := ⟨_, rfl⟩
  rw [hr0]
  have hr := Lib.hid hr0
  clear hr0
  go_enter Try.func46, Try.ntmps46
  go_upto_region 1 with (fail)
  refine alloc_next (cs := [.string ⟨#[]⟩, .int .i64 0, .int .i64 0, .int .i64 0, .int .i64 0]) ?_
  intro w1 hR1 hs1
  have hbs := hR1.lt
  generalize hrb : w.heap.size = rb at *
  go_wp2
  go_loopw [10] (fun v10 wr => ∃ (i : Nat), i ≤ n ∧ v10 = .int .i64 (i : Int) ∧ (∀ j (hj : j < l.length), j < i → (l[j]).f0 ≠ s) ∧ Step (fun _ => False) w1 wr) (fun v _ => n - (intOf v).toNat)
  case atStart => exact ⟨0, by omega, rfl, fun j hj h => by omega, Step.refl _ _⟩
  case round =>
    obtain ⟨i, hi, rfl, hno0, hS⟩ := hrel
    have hno := Lib.hid hno0
    clear hno0
    have hRr := hR1.keep hS (fun h => h)
    by_cases hlt : i < n
    · have hlt' : (i : Int) < (n : Int) := by omega
      have hil : i < l.length := by omega
      have hq := h.keep (hs1.same hS) (fun _ _ h => h)
      obtain ⟨g, rfl⟩ := hq.one hlt
      obtain ⟨c0, c1, c2, c3, c4⟩ := hq.cells (List.getElem?_eq_getElem hil)
      have hhit : (l[i]).f0 = s → r = (l[i], true) := fun e => hr.out.symm.trans (getB_hit hil e hno.out)
      have hmiss : (l[i]).f0 ≠ s → ∀ j (hj : j < l.length), j < i + 1 → (l[j]).f0 ≠ s := fun hp j hj hji => by
        by_cases e : j = i
        · subst e; exact hp
        · exact hno.out j hj (by omega)
      have hhit := Lib.hid hhit
      have hmiss := Lib.hid hmiss
      generalize l[i] = x at *
      obtain ⟨x0, x1, x2, x3, x4⟩ := x
      have hst := bytes_eqv x0 s
      clear hq hr hno
      go_upto_region 4 with (fail)
      refine alloc_next (cs := [.string x0, .int .i64 x1, .int .i64 x2, .int .i64 x3, .int .i64 x4]) ?_
      intro w2 hE hs2
      have hR2 := hRr.keep hs2 (fun h => h)
      have hne : rb ≠ wr.heap.size := by have := hRr.lt; omega
      clear c0 c1 c2 c3 c4 hRr
      generalize wr.heap.size = eb at *
      have e0 := hE.cell (i := 0) rfl
      by_cases hxs : x0 = s
      · subst hxs
        have hrr : r = (⟨x0, x1, x2, x3, x4⟩, true) := hhit.out rfl
        subst hrr
        clear hhit hmiss
        have e1 := hE.cell (i := 1) rfl
        have e2 := hE.cell (i := 2) rfl
        have e3 := hE.cell (i := 3) rfl
        have e4 := hE.cell (i := 4) rfl
        have f0 := hR2.free 0
        have f1 := hR2.free 1
        have f2 := hR2.free 2
        have f3 := hR2.free 3
        have f4 := hR2.free 4
        have d0 := hR2.cell (i := 0) rfl
        have d1 := hR2.cell (i := 1) rfl
        have d2 := hR2.cell (i := 2) rfl
        have d3 := hR2.cell (i := 3) rfl
        have d4 := hR2.cell (i := 4) rfl
        go_wp2
        have hst3 : Step (· = rb) w2 (((((w2.setCell ⟨rb, 0, none⟩ (.string x0)).setCell ⟨rb, 1, none⟩ (.int .i64 x1)).setCell ⟨rb, 2, none⟩ (.int .i64 x2)).setCell ⟨rb, 3, none⟩ (.int .i64 x3)).setCell ⟨rb, 4, none⟩ (.int .i64 x4)) :=
          ((((step_put w2 rb 0 _).same (step_put _ rb 1 _)).same (step_put _ rb 2 _)).same (step_put _ rb 3 _)).same (step_put _ rb 4 _)
        have hR3 := ((((hR2.set 0 (.string x0)).set 1 (.int .i64 x1)).set 2 (.int .i64 x2)).set 3 (.int .i64 x3)).set 4 (.int .i64 x4)
        exact post_cell_tmp (cs := bc ⟨x0, x1, x2, x3, x4⟩) (v := .bool true) rfl rfl hR3 Try.underlying67 rfl (by kernel_rfl) rfl rfl ⟨rfl, ((hs1.same hS).same hs2).trans hst3 (fun j hj e => by omega)⟩
      · have hstf : (x0.toList == s.toList) = false := by rw [hst]; exact decide_eq_false hxs
        clear hst
        have hm := hmiss.out hxs
        have hm := Lib.hid hm
        clear hhit hmiss
        go_wp2
        exact ⟨⟨i + 1, by omega, by go_num, hm.out, hS.same hs2⟩, by simp [intOf]; omega⟩
    · obtain rfl : i = n := by omega
      have hrr : r = (⟨⟨#[]⟩, 0, 0, 0, 0⟩, false) := hr.out.symm.trans (getB_miss (fun j hj => hno.out j hj (by omega)))
      subst hrr
      clear hr hno
      go_wp2_with (first | (refine wpList_store_blk rfl 67 (.tmp 4) (.tmp 20) rfl hRr (vs := bc ⟨⟨#[]⟩, 0, 0, 0, 0⟩) rfl rfl (by kernel_rfl) rfl (fun v hv => bcells_one [⟨⟨#[]⟩, 0, 0, 0, 0⟩] v (by simpa [bcells] using hv)) ?_; intro w3 hR3 hs3))
      exact post_cell_tmp (cs := bc ⟨⟨#[]⟩, 0, 0, 0, 0⟩) (v := .bool false) rfl rfl hR3 Try.underlying67 rfl (by kernel_rfl) rfl rfl ⟨rfl, (hs1.same hS).trans hs3 (fun j hj e => by omega)⟩

def keepP (x : S38) : Bool := decide (x.f3 ≠ 2) || decide (0 < x.f4)
def putR (l : List S38) (y : S38) : List S38 := (l.map fun x => if x.f0 = y.f0 then y else x).filter keepP
theorem putR_take (l : List S38) (y : S38) (i : Nat) (x : S38) (h : l[i]? = some x) : putR (l.take (i + 1)) y = putR (l.take i) y ++ (if keepP (if x.f0 = y.f0 then y else x) = true then [if x.f0 = y.f0 then y else x] else []) := by
  unfold putR
  rw [List.take_add_one, h, List.map_append, List.filter_append]
  simp only [Option.toList_some, List.map_cons, List.map_nil, List.filter_cons, List.filter_nil]
theorem putR_length (l : List S38) (y : S38) : (putR l y).length ≤ l.length := by
  unfold putR
  exact Nat.le_trans (List.length_filter_le ..) (by rw [List.length_map]; exact Nat.le_refl _)
theorem rrow_nil (w : World) : RRow w none 0 0 [] := fseg_nil _ _ _

set_option maxRecDepth 100000 in
set_option maxHeartbeats 1000000 in
theorem put_calls {w : World} {A : Option Addr} {n c : Nat} {l : List S38} (h : RRow w A n c l) (hmax : n ≤ 500000) (y0 : ByteArray) (y1 y2 y3 y4 : Int) :
    Calls Try.prog 47 #[.slice A n c, .agg #[.string y0, .int .i64 y1, .int .i64 y2, .int .i64 y3, .int .i64 y4]] w fun e w' => ∃ A' c', e = .returned (.slice A' (putR l ⟨y0, y1, y2, y3, y4⟩).length c') ∧ RRow w' A' (putR l ⟨y0, y1, y2, y3, y4⟩).length c' (putR l ⟨y0, y1, y2, y3, y4⟩) ∧ (∀ k, blockOf A' = some k → w.heap.size ≤ k) ∧ Step (fun _ => False) w w' := by
  obtain ⟨i0, hi0, hp⟩ : ∃ i, Try.prog.info? 67 = some i ∧ (i.zero, i.size, i.bytes) = (some (.agg #[.string ⟨#[]⟩, .int .i64 0, .int .i64 0, .int .i64 0, .int .i64 0]), 5, 48) := by
    exact Option.map_eq_some_iff.1 (by kernel_rfl : (Try.prog.info? 67).map (fun i => (i.zero, i.size, i.bytes)) = some (some (.agg #[.string ⟨#[]⟩, .int .i64 0, .int .i64 0, .int .i64 0, .int .i64 0]), 5, 48))
  simp only [Prod.mk.injEq] at hp
  obtain ⟨hz0, hs0, hy0⟩ := hp
  have hn := h.len
  go_enter Try.func47, Try.ntmps47
  go_upto_region 1 with (fail)
  refine alloc_next (cs := [.string y0, .int .i64 y1, .int .i64 y2, .int .i64 y3, .int .i64 y4]) ?_
  intro w1 hY1 hs1
  generalize hyb : w.heap.size = yb at *
  go_upto_region 2 with (fail)
  have hst2 : Step (fun _ => False) w1 (w1.alloc (.cells #[] 67)) := (Step.refl _ _).alloc _
  have hB2 : RRow (w1.alloc (.cells #[] 67)) (some ⟨w1.heap.size, 0, none⟩) 0 0 (putR (l.take 0) ⟨y0, y1, y2, y3, y4⟩) := ⟨rfl, .inr ⟨w1.heap.size, #[], rfl, heap_alloc_new w1 _, by omega, by simp, fun j v hj => by simp [putR, bcells] at hj⟩⟩
  have hY2 := hY1.keep hst2 (fun h => h)
  have hs2 := hs1.same hst2
  have hfar2 : ∀ k, blockOf (some (⟨w1.heap.size, 0, none⟩ : Addr)) = some k → w.heap.size < k := fun k hk => by
    obtain rfl : w1.heap.size = k := Option.some.inj hk
    have := hY1.lt
    omega
  have hl0 : h = h := rfl
  have hy0' := hy0
  clear hst2 hs1 hY1 hl0
  generalize w1.alloc (.cells #[] 67) = w2 at *
  generalize w1.heap.size = ob at *
  go_wp2
  go_loopw [5, 11] (fun v5 v11 wr => ∃ (i : Nat) (B : Option Addr) (m cB : Nat), i ≤ n ∧ v11 = .int .i64 (i : Int) ∧ v5 = .slice B m cB ∧ m ≤ i ∧ RRow wr B m cB (putR (l.take i) ⟨y0, y1, y2, y3, y4⟩) ∧ (∀ k, blockOf B = some k → w.heap.size < k) ∧ Blk wr yb 67 [.string y0, .int .i64 y1, .int .i64 y2, .int .i64 y3, .int .i64 y4] ∧ Step (fun _ => False) w wr) (fun _ v _ => n - (intOf v).toNat)
  case atStart => exact ⟨0, _, 0, 0, by omega, rfl, rfl, by omega, hB2, hfar2, hY2, hs2⟩
  case round =>
    clear hB2 hfar2 hY2 hs2
    obtain ⟨i, B, m, cB, hi, rfl, rfl, hm, hB, hfar0, hY, hS⟩ := hrel
    have hfar := Lib.hid hfar0
    clear hfar0
    by_cases hlt : i < n
    · have hlt' : (i : Int) < (n : Int) := by omega
      have hil : i < l.length := by omega
      have hq := h.keep hS (fun _ _ h => h)
      obtain ⟨g, rfl⟩ := hq.one hlt
      obtain ⟨c0, c1, c2, c3, c4⟩ := hq.cells (List.getElem?_eq_getElem hil)
      have hnx0 := putR_take l ⟨y0, y1, y2, y3, y4⟩ i l[i] (List.getElem?_eq_getElem hil)
      generalize l[i] = x at *
      obtain ⟨x0, x1, x2, x3, x4⟩ := x
      have hst := bytes_eqv x0 y0
      clear hq
      go_upto_region 5 with (fail)
      refine alloc_next (cs := [.string x0, .int .i64 x1, .int .i64 x2, .int .i64 x3, .int .i64 x4]) ?_
      intro w3 hE3 hs3
      have hY3 := hY.keep hs3 (fun h => h)
      have hB3 := hB.keep hs3 (fun _ _ h => h)
      have hS3 := hS.same hs3
      have hne : yb ≠ wr.heap.size := by have := hY.lt; omega
      have hfar := hfar.out
      have hebB : ∀ k, blockOf B = some k → k ≠ wr.heap.size := fun k hk => by have := hB.lt hk; omega
      have hebw : w.heap.size ≤ wr.heap.size := hS.size
      clear c0 c1 c2 c3 c4 hY hB hS
      generalize wr.heap.size = eb at *
      have e0 := hE3.cell (i := 0) rfl
      have f0 := hY3.cell (i := 0) rfl
      by_cases hxy : x0 = y0
      · subst hxy
        have hnx : Hid (putR (l.take (i + 1)) ⟨x0, y1, y2, y3, y4⟩ = putR (l.take i) ⟨x0, y1, y2, y3, y4⟩ ++ (if keepP ⟨x0, y1, y2, y3, y4⟩ = true then [⟨x0, y1, y2, y3, y4⟩] else [])) := Lib.hid (by rw [hnx0]; simp)
        clear hnx0
        have f1 := hY3.cell (i := 1) rfl
        have f2 := hY3.cell (i := 2) rfl
        have f3 := hY3.cell (i := 3) rfl
        have f4 := hY3.cell (i := 4) rfl
        have e1 := hE3.cell (i := 1) rfl
        have e2 := hE3.cell (i := 2) rfl
        have e3 := hE3.cell (i := 3) rfl
        have e4 := hE3.cell (i := 4) rfl
        have r0 := hE3.free 0
        have r1 := hE3.free 1
        have r2 := hE3.free 2
        have r3 := hE3.free 3
        have r4 := hE3.free 4
        go_upto_region 7 with (fail)
        have hst4 : Step (· = eb) w3 (((((w3.setCell ⟨eb, 0, none⟩ (.string x0)).setCell ⟨eb, 1, none⟩ (.int .i64 y1)).setCell ⟨eb, 2, none⟩ (.int .i64 y2)).setCell ⟨eb, 3, none⟩ (.int .i64 y3)).setCell ⟨eb, 4, none⟩ (.int .i64 y4)) :=
          ((((step_put w3 eb 0 _).same (step_put _ eb 1 _)).same (step_put _ eb 2 _)).same (step_put _ eb 3 _)).same (step_put _ eb 4 _)
        have hE4 : Blk (((((w3.setCell ⟨eb, 0, none⟩ (.string x0)).setCell ⟨eb, 1, none⟩ (.int .i64 y1)).setCell ⟨eb, 2, none⟩ (.int .i64 y2)).setCell ⟨eb, 3, none⟩ (.int .i64 y3)).setCell ⟨eb, 4, none⟩ (.int .i64 y4)) eb 67 [.string x0, .int .i64 y1, .int .i64 y2, .int .i64 y3, .int .i64 y4] := ((((hE3.set 0 (.string x0)).set 1 (.int .i64 y1)).set 2 (.int .i64 y2)).set 3 (.int .i64 y3)).set 4 (.int .i64 y4)
        have hY4 := hY3.keep hst4 hne
        have hB4 := hB3.keep hst4 (fun k hk e => hebB k hk e)
        have hS4 := hS3.trans hst4 (fun j hj e => by omega)
        clear e0 e1 e2 e3 e4 f0 f1 f2 f3 f4 r0 r1 r2 r3 r4 hst4 hE3 hY3 hB3 hS3 hs3 hst
        generalize (((((w3.setCell ⟨eb, 0, none⟩ (.string x0)).setCell ⟨eb, 1, none⟩ (.int .i64 y1)).setCell ⟨eb, 2, none⟩ (.int .i64 y2)).setCell ⟨eb, 3, none⟩ (.int .i64 y3)).setCell ⟨eb, 4, none⟩ (.int .i64 y4)) = w4 at *
        obtain ⟨w3, rfl⟩ : ∃ w3, w3 = w4 := ⟨_, rfl⟩
        have hE3 := hE4
        have hY3 := hY4
        have hB3 := hB4
        have hS3 := hS4
        clear hE4 hY4 hB4 hS4
        have g3 := hE3.cell (i := 3) rfl
        have g4 := hE3.cell (i := 4) rfl
        by_cases k3 : y3 = 2
        · have k3' : (y3 == 2) = true := by simp [k3]
          have k3'' : (y3 != 2) = false := by simp [k3]
          by_cases k4 : 0 < y4
          · have k4' : (y4 > 0) = True := eq_true k4
            have hkp := Lib.hid (show keepP ⟨x0, y1, y2, y3, y4⟩ = true by simp [keepP, k4])
            clear k3
            have hB3 : RRow w3 B m cB (putR (l.take i) ⟨x0, y1, y2, y3, y4⟩) := hB3
            have g0 := hE3.cell (i := 0) rfl
            have g1 := hE3.cell (i := 1) rfl
            have g2 := hE3.cell (i := 2) rfl
            go_upto_region 8 with (fail)
            have hst5 : Step (fun _ => False) w3 (w3.alloc (.cells #[.string x0, .int .i64 y1, .int .i64 y2, .int .i64 y3, .int .i64 y4] 67)) := (Step.refl _ _).alloc _
            have hB5 := hB3.keep hst5 (fun _ _ h => h)
            have hb5 : Blk (w3.alloc (.cells #[.string x0, .int .i64 y1, .int .i64 y2, .int .i64 y3, .int .i64 y4] 67)) w3.heap.size 67 (bc ⟨x0, y1, y2, y3, y4⟩) := blk_new _ _ _
            go_wp2_with (at_builtin; refine wpList_append_flat _ rfl (.tmp 29) (.tmp 31) 47 rfl 67 i0 _ 5 48 Try.underlying47 hi0 hz0 rfl hs0 hy0' (by omega) rfl hB5 rfl (m := 1) (r := bc ⟨x0, y1, y2, y3, y4⟩) rfl (fun _ => by omega) (fun v hv => bcells_one [⟨x0, y1, y2, y3, y4⟩] v (by simpa [bcells] using hv)) (fun j v hj => by rw [addr_add', Nat.zero_add]; exact hb5.cell hj) (by omega) ?_; intro B6 c6 w6 hB6 hs6 hat6)
            have hfar6 : ∀ k, blockOf B6 = some k → w.heap.size < k := fun k hk => by
              rcases hat6 with e | ⟨j, hj, hjl⟩
              · exact hfar k (e ▸ hk)
              · obtain rfl : j = k := Option.some.inj (hj.symm.trans hk)
                have := hst5.size
                have := hY3.lt
                omega
            have hs60 : Step (fun _ => False) w w6 := (hS3.same hst5).trans hs6 (fun j hj e => by have := hfar j e; omega)
            have hY6 := (hY3.keep hst5 (fun h => h)).keep hs6 (fun e => by have := hfar _ e; omega)
            exact ⟨⟨i + 1, B6, m + 1, c6, by omega, by go_num, rfl, by omega, by rw [hnx.out, if_pos hkp.out]; unfold RRow; rw [bcells_append, show bcells [(⟨x0, y1, y2, y3, y4⟩ : S38)] = bc ⟨x0, y1, y2, y3, y4⟩ by simp [bcells]]; exact hB6, hfar6, hY6, hs60⟩, by simp [intOf]; omega⟩
          · have k4' : (y4 > 0) = False := eq_false k4
            have hkp := Lib.hid (show ¬ keepP ⟨x0, y1, y2, y3, y4⟩ = true by simp [keepP, k3]; omega)
            clear k3
            go_wp2
            exact ⟨⟨i + 1, B, m, cB, by omega, by go_num, rfl, by omega, by rw [hnx.out, if_neg hkp.out, List.append_nil]; exact hB3, hfar, hY3, hS3⟩, by simp [intOf]; omega⟩
        · have k3' : (y3 == 2) = false := by simp [k3]
          have k3'' : (y3 != 2) = true := by simp [k3]
          have hkp := Lib.hid (show keepP ⟨x0, y1, y2, y3, y4⟩ = true by simp [keepP, k3])
          have hB3 : RRow w3 B m cB (putR (l.take i) ⟨x0, y1, y2, y3, y4⟩) := hB3
          have g0 := hE3.cell (i := 0) rfl
          have g1 := hE3.cell (i := 1) rfl
          have g2 := hE3.cell (i := 2) rfl
          go_upto_region 8 with (fail)
          have hst5 : Step (fun _ => False) w3 (w3.alloc (.cells #[.string x0, .int .i64 y1, .int .i64 y2, .int .i64 y3, .int .i64 y4] 67)) := (Step.refl _ _).alloc _
          have hB5 := hB3.keep hst5 (fun _ _ h => h)
          have hb5 : Blk (w3.alloc (.cells #[.string x0, .int .i64 y1, .int .i64 y2, .int .i64 y3, .int .i64 y4] 67)) w3.heap.size 67 (bc ⟨x0, y1, y2, y3, y4⟩) := blk_new _ _ _
          go_wp2_with (at_builtin; refine wpList_append_flat _ rfl (.tmp 29) (.tmp 31) 47 rfl 67 i0 _ 5 48 Try.underlying47 hi0 hz0 rfl hs0 hy0' (by omega) rfl hB5 rfl (m := 1) (r := bc ⟨x0, y1, y2, y3, y4⟩) rfl (fun _ => by omega) (fun v hv => bcells_one [⟨x0, y1, y2, y3, y4⟩] v (by simpa [bcells] using hv)) (fun j v hj => by rw [addr_add', Nat.zero_add]; exact hb5.cell hj) (by omega) ?_; intro B6 c6 w6 hB6 hs6 hat6)
          have hfar6 : ∀ k, blockOf B6 = some k → w.heap.size < k := fun k hk => by
            rcases hat6 with e | ⟨j, hj, hjl⟩
            · exact hfar k (e ▸ hk)
            · obtain rfl : j = k := Option.some.inj (hj.symm.trans hk)
              have := hst5.size
              have := hY3.lt
              omega
          have hs60 : Step (fun _ => False) w w6 := (hS3.same hst5).trans hs6 (fun j hj e => by have := hfar j e; omega)
          have hY6 := (hY3.keep hst5 (fun h => h)).keep hs6 (fun e => by have := hfar _ e; omega)
          exact ⟨⟨i + 1, B6, m + 1, c6, by omega, by go_num, rfl, by omega, by rw [hnx.out, if_pos hkp.out]; unfold RRow; rw [bcells_append, show bcells [(⟨x0, y1, y2, y3, y4⟩ : S38)] = bc ⟨x0, y1, y2, y3, y4⟩ by simp [bcells]]; exact hB6, hfar6, hY6, hs60⟩, by simp [intOf]; omega⟩
      · have hstf : (x0.toList == y0.toList) = false := by rw [hst]; exact decide_eq_false hxy
        have hnx : Hid (putR (l.take (i + 1)) ⟨y0, y1, y2, y3, y4⟩ = putR (l.take i) ⟨y0, y1, y2, y3, y4⟩ ++ (if keepP ⟨x0, x1, x2, x3, x4⟩ = true then [⟨x0, x1, x2, x3, x4⟩] else [])) := Lib.hid (by rw [hnx0]; simp [hxy])
        clear hnx0 hst
        have g3 := hE3.cell (i := 3) rfl
        have g4 := hE3.cell (i := 4) rfl
        by_cases k3 : x3 = 2
        · have k3' : (x3 == 2) = true := by simp [k3]
          have k3'' : (x3 != 2) = false := by simp [k3]
          by_cases k4 : 0 < x4
          · have k4' : (x4 > 0) = True := eq_true k4
            have hkp := Lib.hid (show keepP ⟨x0, x1, x2, x3, x4⟩ = true by simp [keepP, k4])
            clear k3
            have hB3 : RRow w3 B m cB (putR (l.take i) ⟨y0, y1, y2, y3, y4⟩) := hB3
            have g0 := hE3.cell (i := 0) rfl
            have g1 := hE3.cell (i := 1) rfl
            have g2 := hE3.cell (i := 2) rfl
            go_upto_region 8 with (fail)
            have hst5 : Step (fun _ => False) w3 (w3.alloc (.cells #[.string x0, .int .i64 x1, .int .i64 x2, .int .i64 x3, .int .i64 x4] 67)) := (Step.refl _ _).alloc _
            have hB5 := hB3.keep hst5 (fun _ _ h => h)
            have hb5 : Blk (w3.alloc (.cells #[.string x0, .int .i64 x1, .int .i64 x2, .int .i64 x3, .int .i64 x4] 67)) w3.heap.size 67 (bc ⟨x0, x1, x2, x3, x4⟩) := blk_new _ _ _
            go_wp2_with (at_builtin; refine wpList_append_flat _ rfl (.tmp 29) (.tmp 31) 47 rfl 67 i0 _ 5 48 Try.underlying47 hi0 hz0 rfl hs0 hy0' (by omega) rfl hB5 rfl (m := 1) (r := bc ⟨x0, x1, x2, x3, x4⟩) rfl (fun _ => by omega) (fun v hv => bcells_one [⟨x0, x1, x2, x3, x4⟩] v (by simpa [bcells] using hv)) (fun j v hj => by rw [addr_add', Nat.zero_add]; exact hb5.cell hj) (by omega) ?_; intro B6 c6 w6 hB6 hs6 hat6)
            have hfar6 : ∀ k, blockOf B6 = some k → w.heap.size < k := fun k hk => by
              rcases hat6 with e | ⟨j, hj, hjl⟩
              · exact hfar k (e ▸ hk)
              · obtain rfl : j = k := Option.some.inj (hj.symm.trans hk)
                have := hst5.size
                have := hY3.lt
                omega
            have hs60 : Step (fun _ => False) w w6 := (hS3.same hst5).trans hs6 (fun j hj e => by have := hfar j e; omega)
            have hY6 := (hY3.keep hst5 (fun h => h)).keep hs6 (fun e => by have := hfar _ e; omega)
            exact ⟨⟨i + 1, B6, m + 1, c6, by omega, by go_num, rfl, by omega, by rw [hnx.out, if_pos hkp.out]; unfold RRow; rw [bcells_append, show bcells [(⟨x0, x1, x2, x3, x4⟩ : S38)] = bc ⟨x0, x1, x2, x3, x4⟩ by simp [bcells]]; exact hB6, hfar6, hY6, hs60⟩, by simp [intOf]; omega⟩
          · have k4' : (x4 > 0) = False := eq_false k4
            have hkp := Lib.hid (show ¬ keepP ⟨x0, x1, x2, x3, x4⟩ = true by simp [keepP, k3]; omega)
            clear k3
            go_wp2
            exact ⟨⟨i + 1, B, m, cB, by omega, by go_num, rfl, by omega, by rw [hnx.out, if_neg hkp.out, List.append_nil]; exact hB3, hfar, hY3, hS3⟩, by simp [intOf]; omega⟩
        · have k3' : (x3 == 2) = false := by simp [k3]
          have k3'' : (x3 != 2) = true := by simp [k3]
          have hkp := Lib.hid (show keepP ⟨x0, x1, x2, x3, x4⟩ = true by simp [keepP, k3])
          have hB3 : RRow w3 B m cB (putR (l.take i) ⟨y0, y1, y2, y3, y4⟩) := hB3
          have g0 := hE3.cell (i := 0) rfl
          have g1 := hE3.cell (i := 1) rfl
          have g2 := hE3.cell (i := 2) rfl
          go_upto_region 8 with (fail)
          have hst5 : Step (fun _ => False) w3 (w3.alloc (.cells #[.string x0, .int .i64 x1, .int .i64 x2, .int .i64 x3, .int .i64 x4] 67)) := (Step.refl _ _).alloc _
          have hB5 := hB3.keep hst5 (fun _ _ h => h)
          have hb5 : Blk (w3.alloc (.cells #[.string x0, .int .i64 x1, .int .i64 x2, .int .i64 x3, .int .i64 x4] 67)) w3.heap.size 67 (bc ⟨x0, x1, x2, x3, x4⟩) := blk_new _ _ _
          go_wp2_with (at_builtin; refine wpList_append_flat _ rfl (.tmp 29) (.tmp 31) 47 rfl 67 i0 _ 5 48 Try.underlying47 hi0 hz0 rfl hs0 hy0' (by omega) rfl hB5 rfl (m := 1) (r := bc ⟨x0, x1, x2, x3, x4⟩) rfl (fun _ => by omega) (fun v hv => bcells_one [⟨x0, x1, x2, x3, x4⟩] v (by simpa [bcells] using hv)) (fun j v hj => by rw [addr_add', Nat.zero_add]; exact hb5.cell hj) (by omega) ?_; intro B6 c6 w6 hB6 hs6 hat6)
          have hfar6 : ∀ k, blockOf B6 = some k → w.heap.size < k := fun k hk => by
            rcases hat6 with e | ⟨j, hj, hjl⟩
            · exact hfar k (e ▸ hk)
            · obtain rfl : j = k := Option.some.inj (hj.symm.trans hk)
              have := hst5.size
              have := hY3.lt
              omega
          have hs60 : Step (fun _ => False) w w6 := (hS3.same hst5).trans hs6 (fun j hj e => by have := hfar j e; omega)
          have hY6 := (hY3.keep hst5 (fun h => h)).keep hs6 (fun e => by have := hfar _ e; omega)
          exact ⟨⟨i + 1, B6, m + 1, c6, by omega, by go_num, rfl, by omega, by rw [hnx.out, if_pos hkp.out]; unfold RRow; rw [bcells_append, show bcells [(⟨x0, x1, x2, x3, x4⟩ : S38)] = bc ⟨x0, x1, x2, x3, x4⟩ by simp [bcells]]; exact hB6, hfar6, hY6, hs60⟩, by simp [intOf]; omega⟩
    · obtain rfl : i = n := by omega
      have hft : l.take i = l := List.take_of_length_le (by omega)
      rw [hft] at hB
      have hlen := Lib.hid hB.len
      clear hft
      go_wp2
      go_ret
      exact ⟨B, cB, by rw [hlen.out]; rfl, by rw [hlen.out]; exact hB, fun k hk => Nat.le_of_lt (hfar.out k hk), hS⟩
end Go.Proofs.Yteebahjpoafhmaa.Pool
