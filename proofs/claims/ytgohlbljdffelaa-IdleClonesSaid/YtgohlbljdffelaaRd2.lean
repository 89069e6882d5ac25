/- the document's idle: First, Take, New. Own work of this seat; no condition but on lengths. -/
import Derived.Test.YtgohlbljdffelaaRd1
import Derived.BigRegion
namespace Go.Proofs.Ytgohlbljdffelaa.Rd
open Go.RowKit Go.Proofs.Ytgohlbljdffelaa.Kit Go.Proofs.Ytgohlbljdffelaa.IntS Go.Proofs.Ytgohlbljdffelaa
set_option linter.unusedVariables false
set_option linter.unusedSimpArgs false

theorem ic3 (most life : Int) (A : Option Addr) (n c : Nat) : ∀ v ∈ [Value.int .i64 most, .int .i64 life, .slice A n c], v.oneCell' = true := by
  intro v hv
  simp only [List.mem_cons, List.not_mem_nil, or_false] at hv
  rcases hv with rfl | rfl | rfl <;> rfl
def z3 : O3 := ⟨⟨#[]⟩, 0, 0⟩
def bstep (b o : O3) : O3 := if o.tm < b.tm then o else b
def bestD : List O3 → O3
  | [] => z3
  | x :: r => r.foldl bstep x
theorem bestD_take {l : List O3} {i : Nat} {x : O3} (h : l[i]? = some x) : bestD (l.take (i + 1)) = if i = 0 then x else bstep (bestD (l.take i)) x := by
  cases l with
  | nil => simp at h
  | cons y r =>
    cases i with
    | zero => simp at h; subst h; rfl
    | succ j =>
      rw [if_neg (by omega), List.take_succ_cons, List.take_succ_cons]
      rw [List.getElem?_cons_succ] at h
      unfold bestD
      simp only
      rw [List.take_add_one, h, List.foldl_append]
      rfl

set_option maxRecDepth 100000 in
set_option maxHeartbeats 2000000 in
theorem first_calls {w : World} {A : Option Addr} {n cA : Nat} {l : List O3} (most life : Int) (h : DW w A n cA l) (hmax : n ≤ 100000) :
    Calls Try.prog 56 #[.agg #[.int .i64 most, .int .i64 life, .slice A n cA]] w fun e w' => e = .returned (.tuple #[.agg #[.string (bestD l).nm, .int .i64 (bestD l).conn, .int .i64 (bestD l).tm], .bool (decide (0 < n))]) ∧ Step (fun _ => False) w w' := by
  have hlen := h.len
  have HH := Lib.hid h
  have HLN := Lib.hid hlen
  clear h hlen
  obtain ⟨R, hR⟩ : ∃ R, bestD l = R := ⟨_, rfl⟩
  rw [hR]
  have HR := Lib.hid hR
  clear hR
  go_enter Try.func56, Try.ntmps56
  go_upto_region 1 with (fail)
  refine alloc_next2 (cs := [.int .i64 most, .int .i64 life, .slice A n cA]) (ds := [.string ⟨#[]⟩, .int .i64 0, .int .i64 0]) ?_
  intro w1 hX hR1 hs1 hl1
  obtain ⟨xb, hxb⟩ : ∃ xb, w.heap.size = xb := ⟨_, rfl⟩
  rw [hxb] at hX hR1 hl1 ⊢
  have HXB := Lib.hid hxb
  go_upto_region 2 with (fail)
  refine alloc_next (cs := [.string ⟨#[]⟩, .int .i64 0, .int .i64 0]) ?_
  intro w2 hE hs2
  obtain ⟨eb, heb⟩ : ∃ eb, w1.heap.size = eb := ⟨_, rfl⟩
  rw [heb] at hE hl1 ⊢
  have hH2 := HH.out.same (hs1.same hs2)
  have HH2 := Lib.hid hH2
  have hX2 := hX.keep hs2 (fun h => h)
  have hR2 := hR1.keep hs2 (fun h => h)
  have x2 := hX2.cell (i := 2) rfl
  have hz2 := hs2.size
  have hS12 := Lib.hid (hs1.same hs2)
  clear hxb heb hH2 hX hR1 hs1
  go_wp2
  go_loopw [5, 11] (fun v5 v11 wr => ∃ (i : Nat), v11 = .int .i64 (i : Int) ∧ i ≤ n ∧ Blk wr eb 114 [.string (bestD (l.take i)).nm, .int .i64 (bestD (l.take i)).conn, .int .i64 (bestD (l.take i)).tm] ∧ Step (fun k => k = eb) w2 wr) (fun _ v _ => n - (intOf v).toNat)
  case atStart => exact ⟨0, rfl, Nat.zero_le _, hE, Step.refl _ _⟩
  case round =>
    clear hE x2 hs2
    obtain ⟨i, rfl, hi, hE, hst⟩ := hrel
    by_cases hin : i < n
    · have hin' : ((i : Int) < (n : Int)) := by omega
      have hR := HH2.out.keep hst (fun k hk e => by have := HH.out.lt hk; have := HXB.out; omega)
      obtain ⟨g, rfl⟩ := FSeg.isSome hR (by omega)
      obtain ⟨x, hx⟩ : ∃ x, l[i]? = some x := ⟨_, List.getElem?_eq_getElem (by rw [HLN.out]; exact hin)⟩
      obtain ⟨a0, a1, a2⟩ := hR.cells hx
      have HTK := Lib.hid (bestD_take hx)
      obtain ⟨xk, xc, xt⟩ := x
      simp only at a0 a1 a2 HTK
      clear hR hx
      generalize bestD (l.take i) = b at *
      obtain ⟨bk, bc, bt⟩ := b
      simp only at hE
      go_upto_region 5 with (fail)
      refine alloc_next (cs := [.string xk, .int .i64 xc, .int .i64 xt]) ?_
      intro w3 hO hs3
      have hst1 : Step (fun k => k = eb) w2 w3 := hst.same (hs3.mono (fun _ _ h => h.elim))
      have hE3 := hE.keep hs3 (fun h => h)
      have hzr := hst.size
      have hlt := hE.lt
      obtain ⟨ob, hob⟩ : ∃ ob, wr.heap.size = ob := ⟨_, rfl⟩
      rw [hob] at hO hlt ⊢
      have HOB := Lib.hid hob
      clear hob a0 a1 a2 hE hs3
      have o2 := hO.cell (i := 2) rfl
      have e2 := hE3.cell (i := 2) rfl
      by_cases hk : i = 0 ∨ xt < bt
      · have HT : Hid (bestD (l.take (i + 1)) = ⟨xk, xc, xt⟩) := Lib.hid (by
          rw [HTK.out]
          by_cases h0 : i = 0
          · rw [if_pos h0]
          · rw [if_neg h0]
            unfold bstep
            rw [if_pos (hk.resolve_left h0)])
        have o0 := hO.cell (i := 0) rfl
        have o1 := hO.cell (i := 1) rfl
        by_cases h0 : i = 0
        · have hi0 : ((i : Int) == 0) = true := by simp [h0]
          clear hk HTK
          go_upto_region 7 with (refine wpList_store_blk rfl 114 (.tmp 4) (.tmp 25) rfl hE3 rfl (vs := [.string xk, .int .i64 xc, .int .i64 xt]) rfl (by kernel_rfl) rfl (oc_cell ⟨xk, xc, xt⟩) ?_; intro w4 hE4 hs4)
          go_wp2
          go_roundw
          case rel => exact ⟨i + 1, by go_num, by omega, by rw [HT.out]; exact hE4, hst1.same hs4⟩
          case measure => simp [intOf]; omega
        · have hi0 : ((i : Int) == 0) = false := by simp [h0]
          have hlt2 : xt < bt := hk.resolve_left h0
          clear hk HTK
          go_upto_region 7 with (refine wpList_store_blk rfl 114 (.tmp 4) (.tmp 25) rfl hE3 rfl (vs := [.string xk, .int .i64 xc, .int .i64 xt]) rfl (by kernel_rfl) rfl (oc_cell ⟨xk, xc, xt⟩) ?_; intro w4 hE4 hs4)
          go_wp2
          go_roundw
          case rel => exact ⟨i + 1, by go_num, by omega, by rw [HT.out]; exact hE4, hst1.same hs4⟩
          case measure => simp [intOf]; omega
      · have h0 : ¬ i = 0 := fun e => hk (.inl e)
        have hlt2 : ¬ xt < bt := fun e => hk (.inr e)
        have HT : Hid (bestD (l.take (i + 1)) = ⟨bk, bc, bt⟩) := Lib.hid (by
          rw [HTK.out, if_neg h0]
          unfold bstep
          rw [if_neg hlt2])
        have hi0 : ((i : Int) == 0) = false := by simp [h0]
        clear hk HTK
        go_wp2
        go_roundw
        case rel => exact ⟨i + 1, by go_num, by omega, by rw [HT.out]; exact hE3, hst1⟩
        case measure => simp [intOf]; omega
    · obtain rfl : i = n := by omega
      have hin' : ¬ ((i : Int) < (i : Int)) := by omega
      rw [List.take_of_length_le (by rw [HLN.out]; exact Nat.le_refl _), HR.out] at hE
      have hXr := hX2.keep hst (fun h => by omega)
      have hRr := hR2.keep hst (fun h => by omega)
      have hw := HXB.out
      have hlast : Step (fun _ => False) w wr := hS12.out.trans hst (fun j hj e => by omega)
      have HLAST := Lib.hid hlast
      have x2 := hXr.cell (i := 2) rfl
      have e0 := hE.cell (i := 0) rfl
      have e1 := hE.cell (i := 1) rfl
      have e2 := hE.cell (i := 2) rfl
      have hdec : decide ((i : Int) > 0) = decide (0 < i) := by simp
      clear hst hE hlast hX2 hR2 hXr
      obtain ⟨Rk, Rc, Rt⟩ := R
      simp only at e0 e1 e2 ⊢
      go_upto_region 8 with (fail)
      have f0 := hRr.free 0
      have f1 := hRr.free 1
      have f2 := hRr.free 2
      have r0 := hRr.cell (i := 0) rfl
      have r1 := hRr.cell (i := 1) rfl
      have r2 := hRr.cell (i := 2) rfl
      have hZ9 := ((hRr.set 0 (.string Rk)).set 1 (.int .i64 Rc)).set 2 (.int .i64 Rt)
      have hs9 : Step (· = xb + 1) wr (((wr.setCell ⟨xb + 1, 0, none⟩ (.string Rk)).setCell ⟨xb + 1, 1, none⟩ (.int .i64 Rc)).setCell ⟨xb + 1, 2, none⟩ (.int .i64 Rt)) :=
        ((step_put wr (xb + 1) 0 _).same (step_put _ (xb + 1) 1 _)).same (step_put _ (xb + 1) 2 _)
      have HZ9 := Lib.hid hZ9
      have HS9 := Lib.hid (HLAST.out.trans hs9 (fun j hj e => by omega))
      clear hZ9 hs9 hRr
      go_region
      all_goals
        go_wp2
        try simp only [Exit.inBlock, Exit.then]
        refine post_ct (cs := [.string Rk, .int .i64 Rc, .int .i64 Rt]) rfl rfl HZ9.out.drew Try.underlying114 rfl (by kernel_rfl) rfl rfl ?_
        exact ⟨by simp, HS9.out.drew⟩

def takeD (l : List O3) (s : ByteArray) : List O3 × Int × Bool := match (ofD l s).getLast? with | none => (l, 0, false) | some c => (dropD l c, c, true)
set_option maxRecDepth 100000 in
set_option maxHeartbeats 2000000 in
theorem take_calls {w : World} {A : Option Addr} {n cA : Nat} {l : List O3} (most life : Int) (h : DW w A n cA l) (hmax : n ≤ 100000) (s : ByteArray) :
    Calls Try.prog 49 #[.agg #[.int .i64 most, .int .i64 life, .slice A n cA], .string s] w fun e w' => ∃ B cB, e = .returned (.tuple #[.agg #[.int .i64 most, .int .i64 life, .slice B (takeD l s).1.length cB], .int .i64 (takeD l s).2.1, .bool (takeD l s).2.2]) ∧ DW w' B (takeD l s).1.length cB (takeD l s).1 ∧ (∀ k, blockOf B = some k → blockOf A = some k ∨ w.heap.size ≤ k) ∧ Step (fun _ => False) w w' := by
  have hlen := h.len
  have hol := ofD_le l s
  have HO := Lib.hid (fun w1 (hs : Step (fun _ => False) w w1) => of_calls most life (h.same hs) hmax s)
  have HD := Lib.hid (fun w1 (hs : Step (fun _ => False) w w1) c => drop_calls most life (h.same hs) hmax c)
  have HH := Lib.hid h
  unfold takeD
  cases hg : (ofD l s).getLast? with
  | none =>
    have he : ofD l s = [] := List.getLast?_eq_none_iff.1 hg
    simp only
    rw [he] at HO
    simp only [List.length_nil] at HO
    rw [hlen]
    clear hg he h hlen hol HD
    go_enter Try.func49, Try.ntmps49
    go_upto_region 1 with (fail)
    refine alloc_next2 (cs := [.int .i64 most, .int .i64 life, .slice A n cA]) (ds := [.int .i64 0, .int .i64 0, .slice none 0 0]) ?_
    intro w1 hX hR1 hs1 hl1
    obtain ⟨xb, hxb⟩ : ∃ xb, w.heap.size = xb := ⟨_, rfl⟩
    rw [hxb] at hX hR1 hl1 ⊢
    have HXB := Lib.hid hxb
    have HO1 := Lib.hid (HO.out w1 hs1)
    have x0 := hX.cell (i := 0) rfl
    have x1 := hX.cell (i := 1) rfl
    have x2 := hX.cell (i := 2) rfl
    clear hxb HO
    go_upto_region 2 with (go_at_call 51; refine HO1.out.mono ?_; rintro e2 w2 ⟨B, cB, rfl, hB, hBf, hs2⟩)
    have hX2 := hX.keep hs2 (fun h => h)
    have hR2 := hR1.keep hs2 (fun h => h)
    clear x0 x1 x2
    have x0 := hX2.cell (i := 0) rfl
    have x1 := hX2.cell (i := 1) rfl
    have x2 := hX2.cell (i := 2) rfl
    go_wp2_with (refine wpList_store_blk rfl 57 (.tmp 4) (.tmp 17) rfl hR2 rfl (vs := [.int .i64 most, .int .i64 life, .slice A n cA]) rfl (by kernel_rfl) rfl (ic3 _ _ _ _ _) ?_; intro w9 hZ9 hs9)
    try simp only [Exit.inBlock, Exit.then]
    refine post_ctt (cs := [.int .i64 most, .int .i64 life, .slice A n cA]) rfl rfl hZ9 Try.underlying57 rfl (by kernel_rfl) rfl rfl rfl ?_
    have hw := HXB.out
    have hst := (hs1.same hs2).trans hs9 (fun j hj e => by omega)
    exact ⟨A, cA, rfl, HH.out.same hst, fun k hk => .inl hk, hst⟩
  | some c =>
    simp only
    obtain ⟨q, hq⟩ : ∃ q, (ofD l s).length = q + 1 := ⟨(ofD l s).length - 1, by
      have : ofD l s ≠ [] := fun e => by rw [e] at hg; simp at hg
      have := List.length_pos_iff.2 this
      omega⟩
    have hcq : (ofD l s)[q]? = some c := by rw [List.getLast?_eq_getElem?, hq] at hg; simpa using hg
    rw [hq] at HO hol
    have HCQ := Lib.hid hcq
    clear hg h hcq hq
    go_enter Try.func49, Try.ntmps49
    go_upto_region 1 with (fail)
    refine alloc_next2 (cs := [.int .i64 most, .int .i64 life, .slice A n cA]) (ds := [.int .i64 0, .int .i64 0, .slice none 0 0]) ?_
    intro w1 hX hR1 hs1 hl1
    obtain ⟨xb, hxb⟩ : ∃ xb, w.heap.size = xb := ⟨_, rfl⟩
    rw [hxb] at hX hR1 hl1 ⊢
    have HXB := Lib.hid hxb
    have HO1 := Lib.hid (HO.out w1 hs1)
    have x0 := hX.cell (i := 0) rfl
    have x1 := hX.cell (i := 1) rfl
    have x2 := hX.cell (i := 2) rfl
    clear hxb HO
    go_upto_region 2 with (go_at_call 51; refine HO1.out.mono ?_; rintro e2 w2 ⟨B, cB, rfl, hB, hBf, hs2⟩)
    have hX2 := hX.keep hs2 (fun h => h)
    have hR2 := hR1.keep hs2 (fun h => h)
    clear x0 x1 x2
    have x0 := hX2.cell (i := 0) rfl
    have x1 := hX2.cell (i := 1) rfl
    have x2 := hX2.cell (i := 2) rfl
    obtain ⟨g, rfl⟩ := hB.one (i := 0) (by omega)
    have d0 := hB.cell HCQ.out
    have hcap := hB.le
    have HD2 := Lib.hid (HD.out w2 (hs1.same hs2) c)
    have hS2 := Lib.hid (hs1.same hs2)
    clear hB HD
    go_upto_region 6 with (go_at_call 50; refine HD2.out.mono ?_; rintro e3 w3 ⟨B3, c3, rfl, hB3, hBf3, hs3⟩)
    refine alloc_next (cs := [.int .i64 most, .int .i64 life, .slice B3 (dropD l c).length c3]) ?_
    intro w4 hY hs4
    have hR4 := (hR2.keep hs3 (fun h => h)).keep hs4 (fun h => h)
    clear x0 x1 x2 d0 HD2 HO1
    obtain ⟨yb, hyb⟩ : ∃ yb, w3.heap.size = yb := ⟨_, rfl⟩
    rw [hyb] at hY ⊢
    have x0 := hY.cell (i := 0) rfl
    have x1 := hY.cell (i := 1) rfl
    have x2 := hY.cell (i := 2) rfl
    have HYB := Lib.hid hyb
    clear hyb
    go_wp2_with (refine wpList_store_blk rfl 57 (.tmp 4) (.tmp 30) rfl hR4 rfl (vs := [.int .i64 most, .int .i64 life, .slice B3 (dropD l c).length c3]) rfl (by kernel_rfl) rfl (ic3 _ _ _ _ _) ?_; intro w9 hZ9 hs9)
    try simp only [Exit.inBlock, Exit.then]
    refine post_ctt (cs := [.int .i64 most, .int .i64 life, .slice B3 (dropD l c).length c3]) rfl rfl hZ9 Try.underlying57 rfl (by kernel_rfl) rfl rfl rfl ?_
    have hw := HXB.out
    have hz2 := hs2.size
    have hst := ((hS2.out.same hs3).same hs4).trans hs9 (fun j hj e => by omega)
    exact ⟨B3, c3, rfl, (hB3.same hs4).keep hs9 (fun k hk e => by have := hBf3 k hk; omega), fun k hk => .inr (by have := hBf3 k hk; omega), hst⟩

set_option maxRecDepth 100000 in
set_option maxHeartbeats 1000000 in
theorem new_calls (w : World) (most life : Int) :
    Calls Try.prog 25 #[.int .i64 most, .int .i64 life] w fun e w' => e = .returned (.agg #[.int .i64 (Idl.clip1 most 0 1024), .int .i64 (Idl.clip1 life 1 1048576), .slice none 0 0]) ∧ Step (fun _ => False) w w' := by
  have h1 := Idl.clip1_if most 0 1024 (by omega)
  have h2 := Idl.clip1_if life 1 1048576 (by omega)
  generalize Idl.clip1 most 0 1024 = m1 at *
  generalize Idl.clip1 life 1 1048576 = l1 at *
  obtain ⟨mq, hmq⟩ : ∃ mq, (if (1024 : Int) < most then 1024 else most) = mq := ⟨_, rfl⟩
  obtain ⟨lq, hlq⟩ : ∃ lq, (if (1048576 : Int) < life then 1048576 else life) = lq := ⟨_, rfl⟩
  rw [hmq] at h1
  rw [hlq] at h2
  go_enter Try.func25, Try.ntmps25
  go_upto_region 1 with (fail)
  refine alloc_next (cs := [.int .i64 0, .int .i64 0, .slice none 0 0]) ?_
  intro w1 hR hs1
  obtain ⟨rb, hrb⟩ : ∃ rb, w.heap.size = rb := ⟨_, rfl⟩
  rw [hrb] at hR ⊢
  have HRB := Lib.hid hrb
  clear hrb
  go_wp2_with (refine wpList_store_blk rfl 57 (.tmp 4) (.tmp 11) rfl hR rfl (vs := [.int .i64 m1, .int .i64 l1, .slice none 0 0]) rfl (by kernel_rfl) rfl (ic3 _ _ _ _ _) ?_; intro w9 hZ9 hs9)
  try simp only [Exit.inBlock, Exit.then]
  refine post_c (cs := [.int .i64 m1, .int .i64 l1, .slice none 0 0]) rfl rfl hZ9 Try.underlying57 rfl (by kernel_rfl) rfl ?_
  exact ⟨rfl, hs1.trans hs9 (fun j hj e => by have := HRB.out; omega)⟩
end Go.Proofs.Ytgohlbljdffelaa.Rd
