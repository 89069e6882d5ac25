/- The walk of stewardtop.StewardFramed. Own work of this seat. -/
import Derived.Test.YtdglbpjgadjnjaaDoorFrm5
import Derived.Test.YtdglbpjgadjnjaaDoorBase
import Derived.Deep.CutRange
import Derived.Deep.CutBlock
namespace Go.Proofs.YtdglbpjgadjnjaaDoor.Fie
open Go.RowKit Go.Proofs.YtdglbpjgadjnjaaDoor.Kit Go.Proofs.YtdglbpjgadjnjaaDoor.Oct Go.Proofs.YtdglbpjgadjnjaaDoor.Cut Go.Proofs.YtdglbpjgadjnjaaDoorW.PrintWords Go.Proofs.YtdglbpjgadjnjaaDoor
set_option linter.unusedVariables false
set_option linter.unusedSimpArgs false

def l3 : List Fd := [⟨⟨#[99, 111, 110, 116, 101, 110, 116, 45, 108, 101, 110, 103, 116, 104]⟩, ⟨#[51]⟩⟩]
theorem of3 : ofR (allF l3 bTE) (allF l3 bCL) 5 0 = (1, 3, 0) := by kernel_rfl
theorem some_iff (A : List ByteArray) : someB A = true ↔ A ≠ [] := by cases A <;> simp [someB]
set_option maxRecDepth 100000 in
set_option maxHeartbeats 16000000 in
theorem framed_law (A0 : Option Addr) (c0 : Nat) (l : List Fd) (most : Int) (up : Bool) (w : World) (h0 : Kd.C kFd w A0 l.length l) (hc0 : l.length ≤ c0) (hg0 : ∀ x ∈ l, x.nm.size ≤ 9223372036854775807 ∧ x.vl.size ≤ 9223372036854775807) :
    Calls Tryd.prog 3 #[.slice A0 l.length c0, .int .i64 most, .bool up] w fun e w' => e = .returned (.bool true) ∧ Below w.heap.size w w' := by
  have hf0 : ∀ w', Below w.heap.size w w' → Calls Tryd.prog 5 #[.slice A0 l.length c0, .int .i64 8] w' (fun e w'' => ∃ A' m c', e = .returned (.slice A' m c') ∧ m ≤ 8 ∧ FW w'' 31 A' m c' (fewF l 8) ∧ Step (fun _ => False) w' w'' ∧ (∀ j, blockOf A' = some j → w'.heap.size ≤ j)) := fun w' hb => few_calls (k := 8) (ard_of h0) hb hc0 (by omega) hg0
  have HF0 := Lib.hid hf0
  have HBN := Lib.hid (fewF_bnd l 8)
  clear h0 hg0 hf0
  generalize fewF l 8 = z at *
  generalize l.length = n0 at *
  have hal : Step (fun _ => False) w (w.alloc (.cells #[.string ⟨#[99, 111, 110, 116, 101, 110, 116, 45, 108, 101, 110, 103, 116, 104]⟩, .string ⟨#[51]⟩] 27)) := (Step.refl _ _).alloc _
  have hw3 : FW (w.alloc (.cells #[.string ⟨#[99, 111, 110, 116, 101, 110, 116, 45, 108, 101, 110, 103, 116, 104]⟩, .string ⟨#[51]⟩] 27)) 27 (some ⟨w.heap.size, 0, none⟩) 1 1 l3 := ⟨rfl, .inr ⟨w.heap.size, _, rfl, blk_new w _ 27, Nat.le_refl _, by decide, fun j v hj => by simpa using (show ([Value.string ⟨#[99, 111, 110, 116, 101, 110, 116, 45, 108, 101, 110, 103, 116, 104]⟩, Value.string ⟨#[51]⟩] : List Value)[j]? = some v from hj)⟩⟩
  have hr3 : Calls Tryd.prog 4 #[.slice (some ⟨w.heap.size, 0, none⟩) 1 1, .int .i64 5] (w.alloc (.cells #[.string ⟨#[99, 111, 110, 116, 101, 110, 116, 45, 108, 101, 110, 103, 116, 104]⟩, .string ⟨#[51]⟩] 27)) (fun e w' => e = .returned (.tuple #[.int .i64 1, .int .i64 3, .int .i64 0]) ∧ Step (fun _ => False) (w.alloc (.cells #[.string ⟨#[99, 111, 110, 116, 101, 110, 116, 45, 108, 101, 110, 103, 116, 104]⟩, .string ⟨#[51]⟩] 27)) w') := by
    have h := request_calls (c := 1) hw3.rd (fun k hk => FSeg.lt hw3 hk) (by omega) (fun x hx => by rw [List.mem_singleton.1 hx]; decide) (fun x hx => by rw [List.mem_singleton.1 hx]; decide) 5
    rw [of3] at h
    exact h
  have HR3 := Lib.hid hr3
  have HAL := Lib.hid hal
  clear hr3 hw3 hal
  go_enter Tryd.func3, Tryd.ntmps3
  go_wp2_with (first
    | (go_at_call 4; refine HR3.out.mono ?_; rintro e0 w1 ⟨rfl, hs1⟩)
    | (go_at_call 5; with_reducible refine (HF0.out _ ((HAL.out.same hs1).below (Nat.le_refl _) (fun _ h => h.elim))).mono ?_; rintro e2 w2 ⟨Z, m, cZ, rfl, hm8, hZ, hs2, hfZ⟩))
  have hst2 := (HAL.out.same hs1).same hs2
  have hzl := hZ.len
  have HZ := Lib.hid hZ.rd
  have HST2 := Lib.hid hst2
  clear hZ hs1 hs2 hfZ HF0 HR3 HAL hst2
  go_loopw [10, 11, 48] (fun v10 v11 v48 wr => ∃ (i k : Nat) (P Q : Option Addr) (cP cQ : Nat), v48 = .int .i64 (i : Int) ∧ v10 = .slice P k cP ∧ v11 = .slice Q k cQ ∧ i ≤ m ∧ k ≤ i ∧ Rw w2 wr P Q k cP cQ (fldL (z.take i) up)) (fun _ _ v _ => m - (intOf v).toNat)
  case atStart => exact ⟨0, 0, none, none, 0, 0, rfl, rfl, rfl, Nat.zero_le _, Nat.le_refl _, ⟨fseg_nil _ _ _, fseg_nil _ _ _, Step.refl _ _, (fun j hj => by cases hj), (fun j hj => by cases hj), (fun j hj => by cases hj)⟩⟩
  case round =>
    obtain ⟨i, k, P, Q, cP, cQ, rfl, rfl, rfl, hi, hki, hRw⟩ := hrel
    by_cases hin : i < m
    · have hin' : ((i : Int) < (m : Int)) := by omega
      have hR := HZ.out.same hRw.st
      obtain ⟨g, o, rfl⟩ := RSeg.isSome hR (by omega) (by omega)
      have hget : z[i]? = some z[i] := List.getElem?_eq_getElem (by omega)
      obtain ⟨a0, a1⟩ := FRd.cells hR hget
      have HTK := Lib.hid (fldL_take (up := up) hget)
      have hbn := HBN.out z[i] (List.getElem_mem (by omega))
      generalize z[i] = x at *
      have hlo : lineOf up x = (if up = true then upS x.nm else x.nm) ++ ⟨#[58]⟩ ++ x.vl := rfl
      obtain ⟨nm, vl⟩ := x
      simp only at a0 a1 hbn hlo
      have HRW := Lib.hid hRw
      have hzr := hRw.st.size
      clear hR hget hRw HBN
      go_upto_region 9 with (fail)
      refine alloc_next (cs := [.string nm, .string vl]) ?_
      intro w3 hE hs3
      obtain ⟨gf, hgf⟩ : ∃ gf, wr.heap.size = gf := ⟨_, rfl⟩
      rw [hgf] at hE ⊢
      have HGF := Lib.hid hgf
      clear a0 a1 hgf
      have hsh : ∃ nm' : ByteArray, (if up = true then upS nm else nm) = nm' ∧ nm'.size ≤ 20 := ⟨_, rfl, by cases up <;> simp [upS_size] <;> omega⟩
      obtain ⟨nm', hnm, hns⟩ := hsh
      rw [hnm] at hlo
      obtain ⟨t, ht⟩ : ∃ t, lineOf up ⟨nm, vl⟩ = t := ⟨_, rfl⟩
      have hone : oneF up ⟨nm, vl⟩ = match parseF t with | none => [] | some p => [⟨p.1, p.2⟩] := by rw [← ht]; rfl
      rw [ht] at hlo
      have HONE := Lib.hid hone
      have hts : t.size ≤ 61 := by rw [hlo, cat_size, cat_size]; show nm'.size + 1 + vl.size ≤ _; omega
      have hns2 : (nm' ++ ⟨#[58]⟩ : ByteArray).size ≤ 21 := by rw [cat_size]; show nm'.size + 1 ≤ _; omega
      have hlo2 := hlo.symm
      have HP := Lib.hid (fun w => parse_calls t (by omega) w)
      have HRP := Lib.hid (fun w => rparse_calls t (by omega) w)
      clear ht hone hlo
      have hcut : up = false ∨ up = true := by cases up <;> simp
      rcases hcut with rfl | rfl
      · obtain rfl : nm = nm' := hnm
        go_upto_region 11 with (fail)
        obtain ⟨wB, hwB⟩ : ∃ wB, w3 = wB := ⟨_, rfl⟩
        rw [hwB] at hE hs3 ⊢
        have hEB := hE
        have hsB := hs3
        clear hwB hE hs3
        have hRB := HRW.out.keep hsB
        have x0 := hEB.cell (i := 0) rfl
        have x1 := hEB.cell (i := 1) rfl
        have hgfl := hEB.lt
        cases hp : parseF t with
        | none =>
          rw [hp] at HP HRP HONE
          simp only [pfN, pfV, pfE] at HP HRP HONE
          clear hp
          go_upto_region 12 with (go_at_call 7; refine (HP.out _).mono ?_; rintro e5 w5 ⟨rfl, hs5⟩)
          refine alloc_next (cs := [.string ⟨#[]⟩, .string ⟨#[]⟩]) ?_
          intro w6 hG hs6
          have hE6 := (hEB.keep hs5 (fun h => h)).keep hs6 (fun h => h)
          clear x0 x1
          have x0 := hE6.cell (i := 0) rfl
          have x1 := hE6.cell (i := 1) rfl
          generalize w5.heap.size = ga at *
          go_upto_region 13 with (go_at_call 8; refine (HRP.out _).mono ?_; rintro e7 w7 ⟨rfl, hs7⟩)
          refine alloc_next (cs := [.string ⟨#[]⟩, .string ⟨#[]⟩]) ?_
          intro w8 hH hs8
          have hR8 := (((hRB.keep hs5).keep hs6).keep hs7).keep hs8
          generalize w7.heap.size = gb at *
          have HR8 := Lib.hid hR8
          clear hR8 hRB x0 x1
          go_wp2
          go_roundw
          case rel => exact ⟨i + 1, k, P, Q, cP, cQ, by go_num, rfl, rfl, by omega, by omega, by rw [HTK.out, HONE.out, List.append_nil]; exact HR8.out⟩
          case measure => simp [intOf]; omega
        | some p =>
          obtain ⟨n, v⟩ := p
          rw [hp] at HP HRP HONE
          simp only [pfN, pfV, pfE] at HP HRP HONE
          clear hp
          go_upto_region 12 with (go_at_call 7; refine (HP.out _).mono ?_; rintro e5 w5 ⟨rfl, hs5⟩)
          refine alloc_next (cs := [.string n, .string v]) ?_
          intro w6 hG hs6
          have hE6 := (hEB.keep hs5 (fun h => h)).keep hs6 (fun h => h)
          clear x0 x1
          have x0 := hE6.cell (i := 0) rfl
          have x1 := hE6.cell (i := 1) rfl
          obtain ⟨ga, hga⟩ : ∃ ga, w5.heap.size = ga := ⟨_, rfl⟩
          rw [hga] at hG ⊢
          go_upto_region 13 with (go_at_call 8; refine (HRP.out _).mono ?_; rintro e7 w7 ⟨rfl, hs7⟩)
          refine alloc_next (cs := [.string n, .string v]) ?_
          intro w8 hH hs8
          have hR8 := (((hRB.keep hs5).keep hs6).keep hs7).keep hs8
          have hG8 := (hG.keep hs7 (fun h => h)).keep hs8 (fun h => h)
          obtain ⟨gb, hgb⟩ : ∃ gb, w7.heap.size = gb := ⟨_, rfl⟩
          rw [hgb] at hH ⊢
          have hzB := hsB.size
          have hz5 := hs5.size
          have hz6 := hs6.size
          have hz7 := hs7.size
          have hPl : ∀ j, blockOf P = some j → j < wr.heap.size := fun j hj => FSeg.lt HRW.out.p hj
          have hQl : ∀ j, blockOf Q = some j → j < wr.heap.size := fun j hj => FSeg.lt HRW.out.q hj
          have hPl8 : ∀ j, blockOf P = some j → j < w8.heap.size := fun j hj => FSeg.lt hR8.p hj
          have hna : ¬ (blockOf P = some ga ∨ blockOf Q = some ga) := fun h => h.elim (fun h => by have := hPl _ h; omega) (fun h => by have := hQl _ h; omega)
          have hnb : ¬ (blockOf P = some gb ∨ blockOf Q = some gb) := fun h => h.elim (fun h => by have := hPl _ h; omega) (fun h => by have := hQl _ h; omega)
          have HSX := Lib.hid (fun w' (hs' : Step (fun j => blockOf P = some j ∨ blockOf Q = some j) w8 w') => (And.intro ((hG8.keep hs' hna).cell (i := 0) rfl) (And.intro ((hG8.keep hs' hna).cell (i := 1) rfl) (And.intro ((hH.keep hs' hnb).cell (i := 0) rfl) ((hH.keep hs' hnb).cell (i := 1) rfl))) : w'.cell? ⟨ga, 0, none⟩ = some (.string n) ∧ w'.cell? ⟨ga, 1, none⟩ = some (.string v) ∧ w'.cell? ⟨gb, 0, none⟩ = some (.string n) ∧ w'.cell? ⟨gb, 1, none⟩ = some (.string v)))
          clear x0 x1
          go_upto_region 16 with (fail)
          have hza : (w8.alloc (.cells #[.string n, .string v] 27)).heap.size = w8.heap.size + 1 := World.size_alloc _ _
          have hzb : (w8.alloc (.cells #[.string n, .string v] 31)).heap.size = w8.heap.size + 1 := World.size_alloc _ _
          obtain ⟨P1, p1, v1, hap1, hH1, ht1⟩ := rw_first hR8 (((Step.refl (fun _ => False) w8).alloc (.cells #[.string n, .string v] 27)).drew) (by omega) ⟨n, v⟩ ((blk_new w8 [.string n, .string v] 27).drew)
          obtain ⟨Q1, q1, u1, hap1b, hU1, hk1⟩ := rw_second hH1 ((Step.refl (fun _ => False) v1).alloc (.cells #[.string n, .string v] 31)) (by omega) (blk_new v1 [.string n, .string v] 31)
          obtain ⟨P2, p2, v2, hap2, hH2, ht2⟩ := rw_first hR8 ((((Step.refl (fun _ => False) w8).alloc (.cells #[.string n, .string v] 27)).alloc (.cells #[.string n, .string v] 31)).drew) (by omega) ⟨n, v⟩ (((blk_new w8 [.string n, .string v] 27).alloc (.cells #[.string n, .string v] 31)).drew)
          have hb2 : Blk v2 (w8.heap.size + 1) 31 [.string n, .string v] := by
            have h := (blk_new (w8.alloc (.cells #[.string n, .string v] 27)) [.string n, .string v] 31).drew
            rw [hza] at h
            exact h.keep ht2 (fun e => by have := hPl8 _ e; omega)
          obtain ⟨Q2, q2, u2, hap2b, hU2, hk2⟩ := rw_second hH2 (Step.refl _ _) (by omega) hb2
          have he3 : Blk ((w8.alloc (.cells #[.string n, .string v] 31)).alloc (.cells #[.string n, .string v] 27)).drew (w8.heap.size + 1) 27 [.string n, .string v] := by
            have h := (blk_new (w8.alloc (.cells #[.string n, .string v] 31)) [.string n, .string v] 27).drew
            rw [hzb] at h
            exact h
          obtain ⟨P3, p3, v3, hap3, hH3, ht3⟩ := rw_first hR8 ((((Step.refl (fun _ => False) w8).alloc (.cells #[.string n, .string v] 31)).alloc (.cells #[.string n, .string v] 27)).drew) (by omega) ⟨n, v⟩ he3
          have hb3 : Blk v3 w8.heap.size 31 [.string n, .string v] := ((blk_new w8 [.string n, .string v] 31).alloc (.cells #[.string n, .string v] 27)).drew.keep ht3 (fun e => by have := hPl8 _ e; omega)
          obtain ⟨Q3, q3, u3, hap3b, hU3, hk3⟩ := rw_second hH3 (Step.refl _ _) (by omega) hb3
          have hr8 : Step (fun j => blockOf P = some j ∨ blockOf Q = some j) w8 w8 := Step.refl _ _
          have hx1 : Step (fun j => blockOf P = some j ∨ blockOf Q = some j) w8 v1 := ((((Step.refl _ w8).alloc (.cells #[.string n, .string v] 27)).drew : Step (fun _ => False) w8 _).mono (fun _ _ h => h.elim)).same (ht1.mono (fun _ _ h => .inl h))
          have hx2 : Step (fun j => blockOf P = some j ∨ blockOf Q = some j) w8 v2 := (((((Step.refl _ w8).alloc (.cells #[.string n, .string v] 27)).alloc (.cells #[.string n, .string v] 31)).drew : Step (fun _ => False) w8 _).mono (fun _ _ h => h.elim)).same (ht2.mono (fun _ _ h => .inl h))
          have hx3 : Step (fun j => blockOf P = some j ∨ blockOf Q = some j) w8 v3 := (((((Step.refl _ w8).alloc (.cells #[.string n, .string v] 31)).alloc (.cells #[.string n, .string v] 27)).drew : Step (fun _ => False) w8 _).mono (fun _ _ h => h.elim)).same (ht3.mono (fun _ _ h => .inl h))
          have hy1 : Step (fun j => blockOf P = some j ∨ blockOf Q = some j) w8 u1 := (hx1.alloc _).same (hk1.mono (fun _ _ h => .inr h))
          have hy2 : Step (fun j => blockOf P = some j ∨ blockOf Q = some j) w8 u2 := hx2.same (hk2.mono (fun _ _ h => .inr h))
          have hy3 : Step (fun j => blockOf P = some j ∨ blockOf Q = some j) w8 u3 := hx3.same (hk3.mono (fun _ _ h => .inr h))
          have HU1 := Lib.hid hU1
          have HU2 := Lib.hid hU2
          have HU3 := Lib.hid hU3
          clear hU1 hU2 hU3 hH1 hH2 hH3 ht1 ht2 ht3 hb2 hb3 he3 hG hG8 hH hE6 hEB hR8 hRB hPl hQl hPl8 hza hzb hna hnb hk1 hk2 hk3
          go_region_held3 (fun w' => w'.cell? ⟨ga, 0, none⟩ = some (.string n) ∧ w'.cell? ⟨ga, 1, none⟩ = some (.string v) ∧ w'.cell? ⟨gb, 0, none⟩ = some (.string n) ∧ w'.cell? ⟨gb, 1, none⟩ = some (.string v)) (with_reducible refine HSX.out _ ?_; with_reducible first
              | exact hr8
              | exact hr8.drew
              | exact hx1
              | exact hx1.alloc _
              | exact hx2
              | exact hx3
              | exact hy1
              | exact hy2
              | exact hy3
              | exact (hr8.alloc _).drew
              | exact ((hr8.alloc _).alloc _).drew)
            (first
              | (refine step_app8 (vs := .slice P k cP) (vx := .slice (some ⟨w8.heap.size, 0, none⟩) 1 1) (by rfl) (.tmp 82) (.tmp 84) 29 (by rfl) (by rfl) (by rfl) (by with_reducible first | exact hap1 | exact hap2) ?_)
              | (refine step_app8 (vs := .slice P k cP) (vx := .slice (some ⟨w8.heap.size + 1, 0, none⟩) 1 1) (by rfl) (.tmp 82) (.tmp 84) 29 (by rfl) (by rfl) (by rfl) (by with_reducible exact hap3) ?_)
              | (refine step_app8 (vs := .slice Q k cQ) (vx := .slice (some ⟨v1.heap.size, 0, none⟩) 1 1) (by rfl) (.tmp 86) (.tmp 88) 22 (by rfl) (by rfl) (by rfl) (by with_reducible exact hap1b) ?_)
              | (refine step_app8 (vs := .slice Q k cQ) (vx := .slice (some ⟨w8.heap.size + 1, 0, none⟩) 1 1) (by rfl) (.tmp 86) (.tmp 88) 22 (by rfl) (by rfl) (by rfl) (by with_reducible exact hap2b) ?_)
              | (refine step_app8 (vs := .slice Q k cQ) (vx := .slice (some ⟨w8.heap.size, 0, none⟩) 1 1) (by rfl) (.tmp 86) (.tmp 88) 22 (by rfl) (by rfl) (by rfl) (by with_reducible exact hap3b) ?_))
          all_goals
            go_wp2
            go_roundw
            case rel =>
              first
                | exact ⟨i + 1, k + 1, P1, Q1, p1, q1, by go_num, rfl, rfl, by omega, by omega, by rw [HTK.out, HONE.out]; exact HU1.out⟩
                | exact ⟨i + 1, k + 1, P2, Q2, p2, q2, by go_num, rfl, rfl, by omega, by omega, by rw [HTK.out, HONE.out]; exact HU2.out⟩
                | exact ⟨i + 1, k + 1, P3, Q3, p3, q3, by go_num, rfl, rfl, by omega, by omega, by rw [HTK.out, HONE.out]; exact HU3.out⟩
            case measure => simp [intOf]; omega
      · have hnm : upS nm = nm' := hnm
        have HSH := Lib.hid (fun w => shout_calls nm (by omega) w)
        rw [hnm] at HSH
        have e0 := hE.cell (i := 0) rfl
        go_upto_region 11 with (go_at_call 6; refine (HSH.out _).mono ?_; rintro e4 w4 ⟨rfl, hs4⟩; have hE4 := hE.keep hs4 (fun h => h); have c4 := hE4.cell (i := 0) rfl; have f4 := hE4.free 0)
        obtain ⟨wB, hwB⟩ : ∃ wB, w4.setCell ⟨gf, 0, none⟩ (.string nm') = wB := ⟨_, rfl⟩
        rw [hwB]
        have hEB : Blk wB gf 31 [.string nm', .string vl] := by rw [← hwB]; exact hE4.set 0 (.string nm')
        have hsB : Step (fun _ => False) wr wB := by
          rw [← hwB]
          exact (hs3.same hs4).trans (Step.setCell (F := fun j => j = gf) (Step.refl _ w4) (p := ⟨gf, 0, none⟩) (fun _ => rfl) _) (fun j hj e => by have := HGF.out; have : j = gf := e; omega)
        clear hwB hE hs3 hE4 c4 f4 hs4 e0 hnm HSH
        have hRB := HRW.out.keep hsB
        have x0 := hEB.cell (i := 0) rfl
        have x1 := hEB.cell (i := 1) rfl
        have hgfl := hEB.lt
        cases hp : parseF t with
        | none =>
          rw [hp] at HP HRP HONE
          simp only [pfN, pfV, pfE] at HP HRP HONE
          clear hp
          go_upto_region 12 with (go_at_call 7; refine (HP.out _).mono ?_; rintro e5 w5 ⟨rfl, hs5⟩)
          refine alloc_next (cs := [.string ⟨#[]⟩, .string ⟨#[]⟩]) ?_
          intro w6 hG hs6
          have hE6 := (hEB.keep hs5 (fun h => h)).keep hs6 (fun h => h)
          clear x0 x1
          have x0 := hE6.cell (i := 0) rfl
          have x1 := hE6.cell (i := 1) rfl
          generalize w5.heap.size = ga at *
          go_upto_region 13 with (go_at_call 8; refine (HRP.out _).mono ?_; rintro e7 w7 ⟨rfl, hs7⟩)
          refine alloc_next (cs := [.string ⟨#[]⟩, .string ⟨#[]⟩]) ?_
          intro w8 hH hs8
          have hR8 := (((hRB.keep hs5).keep hs6).keep hs7).keep hs8
          generalize w7.heap.size = gb at *
          have HR8 := Lib.hid hR8
          clear hR8 hRB x0 x1
          go_wp2
          go_roundw
          case rel => exact ⟨i + 1, k, P, Q, cP, cQ, by go_num, rfl, rfl, by omega, by omega, by rw [HTK.out, HONE.out, List.append_nil]; exact HR8.out⟩
          case measure => simp [intOf]; omega
        | some p =>
          obtain ⟨n, v⟩ := p
          rw [hp] at HP HRP HONE
          simp only [pfN, pfV, pfE] at HP HRP HONE
          clear hp
          go_upto_region 12 with (go_at_call 7; refine (HP.out _).mono ?_; rintro e5 w5 ⟨rfl, hs5⟩)
          refine alloc_next (cs := [.string n, .string v]) ?_
          intro w6 hG hs6
          have hE6 := (hEB.keep hs5 (fun h => h)).keep hs6 (fun h => h)
          clear x0 x1
          have x0 := hE6.cell (i := 0) rfl
          have x1 := hE6.cell (i := 1) rfl
          obtain ⟨ga, hga⟩ : ∃ ga, w5.heap.size = ga := ⟨_, rfl⟩
          rw [hga] at hG ⊢
          go_upto_region 13 with (go_at_call 8; refine (HRP.out _).mono ?_; rintro e7 w7 ⟨rfl, hs7⟩)
          refine alloc_next (cs := [.string n, .string v]) ?_
          intro w8 hH hs8
          have hR8 := (((hRB.keep hs5).keep hs6).keep hs7).keep hs8
          have hG8 := (hG.keep hs7 (fun h => h)).keep hs8 (fun h => h)
          obtain ⟨gb, hgb⟩ : ∃ gb, w7.heap.size = gb := ⟨_, rfl⟩
          rw [hgb] at hH ⊢
          have hzB := hsB.size
          have hz5 := hs5.size
          have hz6 := hs6.size
          have hz7 := hs7.size
          have hPl : ∀ j, blockOf P = some j → j < wr.heap.size := fun j hj => FSeg.lt HRW.out.p hj
          have hQl : ∀ j, blockOf Q = some j → j < wr.heap.size := fun j hj => FSeg.lt HRW.out.q hj
          have hPl8 : ∀ j, blockOf P = some j → j < w8.heap.size := fun j hj => FSeg.lt hR8.p hj
          have hna : ¬ (blockOf P = some ga ∨ blockOf Q = some ga) := fun h => h.elim (fun h => by have := hPl _ h; omega) (fun h => by have := hQl _ h; omega)
          have hnb : ¬ (blockOf P = some gb ∨ blockOf Q = some gb) := fun h => h.elim (fun h => by have := hPl _ h; omega) (fun h => by have := hQl _ h; omega)
          have HSX := Lib.hid (fun w' (hs' : Step (fun j => blockOf P = some j ∨ blockOf Q = some j) w8 w') => (And.intro ((hG8.keep hs' hna).cell (i := 0) rfl) (And.intro ((hG8.keep hs' hna).cell (i := 1) rfl) (And.intro ((hH.keep hs' hnb).cell (i := 0) rfl) ((hH.keep hs' hnb).cell (i := 1) rfl))) : w'.cell? ⟨ga, 0, none⟩ = some (.string n) ∧ w'.cell? ⟨ga, 1, none⟩ = some (.string v) ∧ w'.cell? ⟨gb, 0, none⟩ = some (.string n) ∧ w'.cell? ⟨gb, 1, none⟩ = some (.string v)))
          clear x0 x1
          go_upto_region 16 with (fail)
          have hza : (w8.alloc (.cells #[.string n, .string v] 27)).heap.size = w8.heap.size + 1 := World.size_alloc _ _
          have hzb : (w8.alloc (.cells #[.string n, .string v] 31)).heap.size = w8.heap.size + 1 := World.size_alloc _ _
          obtain ⟨P1, p1, v1, hap1, hH1, ht1⟩ := rw_first hR8 (((Step.refl (fun _ => False) w8).alloc (.cells #[.string n, .string v] 27)).drew) (by omega) ⟨n, v⟩ ((blk_new w8 [.string n, .string v] 27).drew)
          obtain ⟨Q1, q1, u1, hap1b, hU1, hk1⟩ := rw_second hH1 ((Step.refl (fun _ => False) v1).alloc (.cells #[.string n, .string v] 31)) (by omega) (blk_new v1 [.string n, .string v] 31)
          obtain ⟨P2, p2, v2, hap2, hH2, ht2⟩ := rw_first hR8 ((((Step.refl (fun _ => False) w8).alloc (.cells #[.string n, .string v] 27)).alloc (.cells #[.string n, .string v] 31)).drew) (by omega) ⟨n, v⟩ (((blk_new w8 [.string n, .string v] 27).alloc (.cells #[.string n, .string v] 31)).drew)
          have hb2 : Blk v2 (w8.heap.size + 1) 31 [.string n, .string v] := by
            have h := (blk_new (w8.alloc (.cells #[.string n, .string v] 27)) [.string n, .string v] 31).drew
            rw [hza] at h
            exact h.keep ht2 (fun e => by have := hPl8 _ e; omega)
          obtain ⟨Q2, q2, u2, hap2b, hU2, hk2⟩ := rw_second hH2 (Step.refl _ _) (by omega) hb2
          have he3 : Blk ((w8.alloc (.cells #[.string n, .string v] 31)).alloc (.cells #[.string n, .string v] 27)).drew (w8.heap.size + 1) 27 [.string n, .string v] := by
            have h := (blk_new (w8.alloc (.cells #[.string n, .string v] 31)) [.string n, .string v] 27).drew
            rw [hzb] at h
            exact h
          obtain ⟨P3, p3, v3, hap3, hH3, ht3⟩ := rw_first hR8 ((((Step.refl (fun _ => False) w8).alloc (.cells #[.string n, .string v] 31)).alloc (.cells #[.string n, .string v] 27)).drew) (by omega) ⟨n, v⟩ he3
          have hb3 : Blk v3 w8.heap.size 31 [.string n, .string v] := ((blk_new w8 [.string n, .string v] 31).alloc (.cells #[.string n, .string v] 27)).drew.keep ht3 (fun e => by have := hPl8 _ e; omega)
          obtain ⟨Q3, q3, u3, hap3b, hU3, hk3⟩ := rw_second hH3 (Step.refl _ _) (by omega) hb3
          have hr8 : Step (fun j => blockOf P = some j ∨ blockOf Q = some j) w8 w8 := Step.refl _ _
          have hx1 : Step (fun j => blockOf P = some j ∨ blockOf Q = some j) w8 v1 := ((((Step.refl _ w8).alloc (.cells #[.string n, .string v] 27)).drew : Step (fun _ => False) w8 _).mono (fun _ _ h => h.elim)).same (ht1.mono (fun _ _ h => .inl h))
          have hx2 : Step (fun j => blockOf P = some j ∨ blockOf Q = some j) w8 v2 := (((((Step.refl _ w8).alloc (.cells #[.string n, .string v] 27)).alloc (.cells #[.string n, .string v] 31)).drew : Step (fun _ => False) w8 _).mono (fun _ _ h => h.elim)).same (ht2.mono (fun _ _ h => .inl h))
          have hx3 : Step (fun j => blockOf P = some j ∨ blockOf Q = some j) w8 v3 := (((((Step.refl _ w8).alloc (.cells #[.string n, .string v] 31)).alloc (.cells #[.string n, .string v] 27)).drew : Step (fun _ => False) w8 _).mono (fun _ _ h => h.elim)).same (ht3.mono (fun _ _ h => .inl h))
          have hy1 : Step (fun j => blockOf P = some j ∨ blockOf Q = some j) w8 u1 := (hx1.alloc _).same (hk1.mono (fun _ _ h => .inr h))
          have hy2 : Step (fun j => blockOf P = some j ∨ blockOf Q = some j) w8 u2 := hx2.same (hk2.mono (fun _ _ h => .inr h))
          have hy3 : Step (fun j => blockOf P = some j ∨ blockOf Q = some j) w8 u3 := hx3.same (hk3.mono (fun _ _ h => .inr h))
          have HU1 := Lib.hid hU1
          have HU2 := Lib.hid hU2
          have HU3 := Lib.hid hU3
          clear hU1 hU2 hU3 hH1 hH2 hH3 ht1 ht2 ht3 hb2 hb3 he3 hG hG8 hH hE6 hEB hR8 hRB hPl hQl hPl8 hza hzb hna hnb hk1 hk2 hk3
          go_region_held3 (fun w' => w'.cell? ⟨ga, 0, none⟩ = some (.string n) ∧ w'.cell? ⟨ga, 1, none⟩ = some (.string v) ∧ w'.cell? ⟨gb, 0, none⟩ = some (.string n) ∧ w'.cell? ⟨gb, 1, none⟩ = some (.string v)) (with_reducible refine HSX.out _ ?_; with_reducible first
              | exact hr8
              | exact hr8.drew
              | exact hx1
              | exact hx1.alloc _
              | exact hx2
              | exact hx3
              | exact hy1
              | exact hy2
              | exact hy3
              | exact (hr8.alloc _).drew
              | exact ((hr8.alloc _).alloc _).drew)
            (first
              | (refine step_app8 (vs := .slice P k cP) (vx := .slice (some ⟨w8.heap.size, 0, none⟩) 1 1) (by rfl) (.tmp 82) (.tmp 84) 29 (by rfl) (by rfl) (by rfl) (by with_reducible first | exact hap1 | exact hap2) ?_)
              | (refine step_app8 (vs := .slice P k cP) (vx := .slice (some ⟨w8.heap.size + 1, 0, none⟩) 1 1) (by rfl) (.tmp 82) (.tmp 84) 29 (by rfl) (by rfl) (by rfl) (by with_reducible exact hap3) ?_)
              | (refine step_app8 (vs := .slice Q k cQ) (vx := .slice (some ⟨v1.heap.size, 0, none⟩) 1 1) (by rfl) (.tmp 86) (.tmp 88) 22 (by rfl) (by rfl) (by rfl) (by with_reducible exact hap1b) ?_)
              | (refine step_app8 (vs := .slice Q k cQ) (vx := .slice (some ⟨w8.heap.size + 1, 0, none⟩) 1 1) (by rfl) (.tmp 86) (.tmp 88) 22 (by rfl) (by rfl) (by rfl) (by with_reducible exact hap2b) ?_)
              | (refine step_app8 (vs := .slice Q k cQ) (vx := .slice (some ⟨w8.heap.size, 0, none⟩) 1 1) (by rfl) (.tmp 86) (.tmp 88) 22 (by rfl) (by rfl) (by rfl) (by with_reducible exact hap3b) ?_))
          all_goals
            go_wp2
            go_roundw
            case rel =>
              first
                | exact ⟨i + 1, k + 1, P1, Q1, p1, q1, by go_num, rfl, rfl, by omega, by omega, by rw [HTK.out, HONE.out]; exact HU1.out⟩
                | exact ⟨i + 1, k + 1, P2, Q2, p2, q2, by go_num, rfl, rfl, by omega, by omega, by rw [HTK.out, HONE.out]; exact HU2.out⟩
                | exact ⟨i + 1, k + 1, P3, Q3, p3, q3, by go_num, rfl, rfl, by omega, by omega, by rw [HTK.out, HONE.out]; exact HU3.out⟩
            case measure => simp [intOf]; omega
    · have hin' : ¬ ((i : Int) < (m : Int)) := by omega
      obtain rfl : i = m := by omega
      rw [show z.take i = z by rw [← hzl, List.take_length]] at hRw
      have hbL := fldL_mem (up := up) (k := 60) (fun x hx => by have := HBN.out x hx; omega)
      obtain ⟨L, hL⟩ : ∃ L, fldL z up = L := ⟨_, rfl⟩
      rw [hL] at hRw hbL
      clear hL HBN HZ
      have hkL := hRw.p.len
      have hnL : ∀ y ∈ L, y.nm.size ≤ 900000 := fun y hy => by have := (hbL y hy).1; omega
      have hvL : ∀ y ∈ L, y.vl.size ≤ 900000 := fun y hy => by have := (hbL y hy).2; omega
      have HRQ := Lib.hid (fun w' (hs : Step (fun _ => False) wr w') => request_calls (c := cP) (hRw.p.keep hs (fun _ _ h => h)).rd (fun j hj => FSeg.lt (hRw.p.keep hs (fun _ _ h => h)) hj) (by omega) hnL hvL most)
      have HOF := Lib.hid (fun w' (hs : Step (fun _ => False) wr w') => rof_calls (c := cQ) (hRw.q.keep hs (fun _ _ h => h)).rd (fun j hj => FSeg.lt (hRw.q.keep hs (fun _ _ h => h)) hj) (by omega) hnL hvL most 0)
      have HHA := Lib.hid (fun w' (hs : Step (fun _ => False) wr w') => has_calls (c := cP) (hRw.p.keep hs (fun _ _ h => h)).rd (fun j hj => FSeg.lt (hRw.p.keep hs (fun _ _ h => h)) hj) (by omega) hnL bTE (by decide))
      have HTW := Lib.hid (fun (w' : World) (B c' : Nat) (hB : FW w' 27 (some ⟨B, 0, none⟩) (k + k) c' (L ++ L)) => request_calls (c := c') hB.rd (fun j hj => FSeg.lt hB hj) (by omega) (fun y hy => by rcases List.mem_append.1 hy with h | h <;> exact hnL y h) (fun y hy => by rcases List.mem_append.1 hy with h | h <;> exact hvL y h) most)
      simp only [allF_app] at HTW
      unfold bTE at HHA
      have eTE : allF L ⟨#[84, 114, 97, 110, 115, 102, 101, 114, 45, 69, 110, 99, 111, 100, 105, 110, 103]⟩ = allF L bTE := rfl
      rw [eTE] at HHA
      generalize allF L bTE = al at *
      generalize allF L bCL = cl at *
      have htw : (al = [] ∧ ofR (al ++ al) (cl ++ cl) most 0 = ofR al cl most 0 ∧ someB al = false) ∨ (ofR (al ++ al) (cl ++ cl) most 0 = (0, 0, 2) ∧ someB al = true) := by
        cases al with
        | nil => exact .inl ⟨rfl, twice_none cl most, rfl⟩
        | cons a r => exact .inr ⟨twice_some (by simp) cl most, rfl⟩
      generalize ofR (al ++ al) (cl ++ cl) most 0 = tw at *
      generalize someB al = bA at *
      obtain ⟨⟨p1, p2, p3⟩, hp⟩ : ∃ p, ofR al cl most 0 = p := ⟨_, rfl⟩
      rw [hp] at HRQ HOF htw
      obtain ⟨t1, t2, t3⟩ := tw
      simp only at HRQ HOF HTW
      have e1 : (p1 != p1) = false := by simp
      have e2 : (p2 != p2) = false := by simp
      have e3 : (p3 != p3) = false := by simp
      have HRW := Lib.hid hRw
      have HCUT := Lib.hid (fun (w10 : World) (hq10 : Step (fun _ => False) wr w10) => (show ∃ (B1 c1 : Nat) (v1 : World) (B2 c2 : Nat) (v2 : World), (Builtin.append_ #[29, 29] 29 #[.slice (some ⟨w10.heap.size, 0, none⟩) 0 0, .slice P k cP]).run Tryd.prog (w10.alloc (.cells #[] 27)) = .ok (.slice (some ⟨B1, 0, none⟩) k c1) v1 ∧ (Builtin.append_ #[29, 29] 29 #[.slice (some ⟨B1, 0, none⟩) k c1, .slice P k cP]).run Tryd.prog v1 = .ok (.slice (some ⟨B2, 0, none⟩) (k + k) c2) v2 ∧ FW v2 27 (some ⟨B2, 0, none⟩) (k + k) c2 (L ++ L) ∧ Step (fun _ => False) wr v2 by
        have hal : Step (fun _ => False) w10 (w10.alloc (.cells #[] 27)) := (Step.refl _ _).alloc _
        have hP := HRW.out.p.keep (hq10.same hal) (fun _ _ h => h)
        have hPl : ∀ j, blockOf P = some j → j < w10.heap.size := fun j hj => FSeg.lt (HRW.out.p.keep hq10 (fun _ _ h => h)) hj
        have hsz : (w10.alloc (.cells #[] 27)).heap.size = w10.heap.size + 1 := World.size_alloc _ _
        obtain ⟨B1, c1, v1, hap1, hB1, hn1, ht1⟩ := app_fd_row (fw_empty w10 27) hP (by omega) (by omega)
        rw [Nat.zero_add] at hap1 hB1
        rw [List.nil_append] at hB1
        have hP1 := hP.keep ht1 (fun j hj e => by have := hPl j hj; have : j = w10.heap.size := e; omega)
        obtain ⟨B2, c2, v2, hap2, hB2, hn2, ht2⟩ := app_fd_row hB1 hP1 (by omega) (by omega)
        refine ⟨B1, c1, v1, B2, c2, v2, hap1, hap2, hB2, ?_⟩
        have hz := hq10.size
        exact ((hq10.same hal).trans ht1 (fun j hj e => by have : j = w10.heap.size := e; omega)).trans ht2 (fun j hj e => by have : j = B1 := e; rcases hn1 with h | h <;> omega)))
      clear hRw hnL hvL hp hbL eTE
      rcases htw with ⟨_, ht, rfl⟩ | ⟨ht, rfl⟩
      · obtain ⟨rfl, rfl, rfl⟩ : t1 = p1 ∧ t2 = p2 ∧ t3 = p3 := by simpa using ht
        clear ht
        have e4 : (t2 == t2) = true := by simp
        have e5 : (t3 == t3) = true := by simp
        go_wp2_with (first
          | (go_at_call 4; (with_reducible refine (HRQ.out _ (Step.refl _ _)).mono ?_); clear HRQ; rintro e9 w9 ⟨rfl, hs9⟩)
          | (go_at_call 9; (with_reducible refine (HOF.out _ hs9).mono ?_); clear HOF; rintro e10 w10 ⟨rfl, hs10⟩; obtain ⟨B1, c1, v1, B2, c2, v2, hap1, hap2, hB2, hq2⟩ := HCUT.out w10 (hs9.same hs10))
          | (at_builtin; refine wpList_app1 (by rfl) (.tmp 118) (.tmp 119) 29 (by rfl) (by rfl) (by rfl) hap1 ?_)
          | (at_builtin; refine wpList_app1 (by rfl) (.tmp 120) (.tmp 121) 29 (by rfl) (by rfl) (by rfl) hap2 ?_)
          | (go_at_call 4; (with_reducible refine (HTW.out _ _ _ hB2).mono ?_); clear HTW; rintro e11 w11 ⟨rfl, hs11⟩)
          | (go_at_call 10; (with_reducible refine (HHA.out _ (hq2.same hs11)).mono ?_); rintro e12 w12 ⟨rfl, hs12⟩))
        go_ret
        exact ⟨rfl, (((HST2.out.same HRW.out.st).same hq2).same (hs11.same hs12)).below (Nat.le_refl _) (fun _ h => h.elim)⟩
      · obtain ⟨rfl, rfl, rfl⟩ : t1 = 0 ∧ t2 = 0 ∧ t3 = 2 := by simpa using ht
        clear ht
        go_wp2_with (first
          | (go_at_call 4; (with_reducible refine (HRQ.out _ (Step.refl _ _)).mono ?_); clear HRQ; rintro e9 w9 ⟨rfl, hs9⟩)
          | (go_at_call 9; (with_reducible refine (HOF.out _ hs9).mono ?_); clear HOF; rintro e10 w10 ⟨rfl, hs10⟩; obtain ⟨B1, c1, v1, B2, c2, v2, hap1, hap2, hB2, hq2⟩ := HCUT.out w10 (hs9.same hs10))
          | (at_builtin; refine wpList_app1 (by rfl) (.tmp 118) (.tmp 119) 29 (by rfl) (by rfl) (by rfl) hap1 ?_)
          | (at_builtin; refine wpList_app1 (by rfl) (.tmp 120) (.tmp 121) 29 (by rfl) (by rfl) (by rfl) hap2 ?_)
          | (go_at_call 4; (with_reducible refine (HTW.out _ _ _ hB2).mono ?_); clear HTW; rintro e11 w11 ⟨rfl, hs11⟩)
          | (go_at_call 10; (with_reducible refine (HHA.out _ (hq2.same hs11)).mono ?_); rintro e12 w12 ⟨rfl, hs12⟩))
        go_ret
        exact ⟨rfl, (((HST2.out.same HRW.out.st).same hq2).same (hs11.same hs12)).below (Nat.le_refl _) (fun _ h => h.elim)⟩
end Go.Proofs.YtdglbpjgadjnjaaDoor.Fie
