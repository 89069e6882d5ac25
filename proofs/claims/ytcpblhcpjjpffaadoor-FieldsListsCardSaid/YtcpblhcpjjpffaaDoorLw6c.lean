/- The walk of stewardlaw06.FieldsDrops. Own work of this seat. -/
import Derived.Test.YtcpblhcpjjpffaaDoorLw6b
import Derived.Test.YtcpblhcpjjpffaaDoorBase
namespace Go.Proofs.YtcpblhcpjjpffaaDoor.Fie
open Go.RowKit Go.Proofs.YtcpblhcpjjpffaaDoor.Kit Go.Proofs.YtcpblhcpjjpffaaDoor.Oct Go.Proofs.YtcpblhcpjjpffaaDoor.Cut Go.Proofs.YtcpblhcpjjpffaaDoorW.PrintWords Go.Proofs.YtcpblhcpjjpffaaDoor
set_option linter.unusedVariables false
set_option linter.unusedSimpArgs false

theorem asd_of {w : World} {A : Option Addr} {l : List ByteArray} (h : Kd.C Kd.string w A l.length l) : ASd w A l.length l := by
  refine ⟨rfl, fun i x hx => ?_⟩
  have hi := (List.getElem?_eq_some_iff.1 hx).1
  obtain ⟨ad, c, e, _, hK, hc0⟩ := Kd.C_get h ⟨#[]⟩ (i : Int) (by omega) (by omega)
  have hc : ∀ j u, c[j]? = some u → w.cell? (ad.add (i * 1 + j)) = some u := hc0
  have hx2 : l.getD i ⟨#[]⟩ = x := by rw [List.getD_eq_getElem?_getD, hx]; rfl
  have hK : c = [.string (l.getD i ⟨#[]⟩)] := hK
  subst hK
  rw [hx2] at hc
  refine ⟨ad, e, fun w' hb => cell_bel6 ?_ hb⟩
  have h := hc 0 _ rfl
  rw [Nat.mul_one, Nat.add_zero] at h
  exact h
theorem fold_drop : ∀ (ss : List ByteArray) (l : List Fd), ss.foldl rdropF l = dropF l ss
  | [], l => by
    show l = dropF l []
    unfold dropF
    exact (List.filter_eq_self.2 (fun x _ => rfl)).symm
  | s :: ss, l => by
    show ss.foldl rdropF (rdropF l s) = _
    rw [fold_drop ss]
    unfold dropF rdropF
    rw [List.filter_filter]
    congr 1
    funext x
    rw [List.any_cons]
    cases sameN x.nm s <;> cases ss.any (sameN x.nm) <;> rfl
theorem fold_step {x : List Fd} {ss : List ByteArray} {i : Nat} {s : ByteArray} (h : ss[i]? = some s) : (ss.take (i + 1)).foldl rdropF x = rdropF ((ss.take i).foldl rdropF x) s := by
  rw [List.take_add_one, h, List.foldl_append]
  rfl
theorem rdropF_len (l : List Fd) (s : ByteArray) : (rdropF l s).length ≤ l.length := List.length_filter_le _ _
theorem rdropF_mem {l : List Fd} {s : ByteArray} {x : Fd} (h : x ∈ rdropF l s) : x ∈ l := (List.mem_filter.1 h).1
theorem fold_len : ∀ (ss : List ByteArray) (l : List Fd), (ss.foldl rdropF l).length ≤ l.length
  | [], l => Nat.le_refl _
  | s :: ss, l => Nat.le_trans (fold_len ss _) (rdropF_len l s)
theorem fold_mem : ∀ (ss : List ByteArray) (l : List Fd) {x : Fd}, x ∈ ss.foldl rdropF l → x ∈ l
  | [], l, x, h => h
  | s :: ss, l, x, h => rdropF_mem (fold_mem ss _ h)
theorem fewF_sml (l : List Fd) (k : Nat) : Sml (fewF l k) := by
  intro x hx
  obtain ⟨y, _, rfl⟩ := List.mem_map.1 hx
  have h1 := cutB_size y.nm 20
  have h2 := cutB_size y.vl 40
  exact ⟨by show (cutB y.nm 20).size ≤ _; omega, by show (cutB y.vl 40).size ≤ _; omega⟩
theorem fewF_nm (l : List Fd) (k : Nat) : ∀ x ∈ fewF l k, x.nm.size ≤ 20 := by
  intro x hx
  obtain ⟨y, _, rfl⟩ := List.mem_map.1 hx
  exact cutB_size y.nm 20
theorem fewS_size (l : List ByteArray) (k m : Nat) : ∀ x ∈ fewS l k m, x.size ≤ m := by
  intro x hx
  obtain ⟨y, _, rfl⟩ := List.mem_map.1 hx
  exact cutB_size y m
set_option maxRecDepth 100000 in
set_option maxHeartbeats 4000000 in
theorem drops_law (A0 : Option Addr) (c0 : Nat) (l : List Fd) (A1 : Option Addr) (c1 : Nat) (r : List ByteArray) (w : World) (h0 : Kd.C kFd w A0 l.length l) (hc0 : l.length ≤ c0) (hg0 : ∀ x ∈ l, x.nm.size ≤ 9223372036854775807 ∧ x.vl.size ≤ 9223372036854775807) (h1 : Kd.C Kd.string w A1 r.length r) (hc1 : r.length ≤ c1) (hg1 : ∀ x ∈ r, x.size ≤ 9223372036854775807) :
    Calls Tryd.prog 4 #[.slice A0 l.length c0, .slice A1 r.length c1] w fun e w' => e = .returned (.bool true) ∧ Below w.heap.size w w' := by
  have hf0 : ∀ w', Below w.heap.size w w' → Calls Tryd.prog 15 #[.slice A0 l.length c0, .int .i64 12] w' (fun e w'' => ∃ A' m c', e = .returned (.slice A' m c') ∧ m ≤ 12 ∧ FW w'' 29 A' m c' (fewF l 12) ∧ Step (fun _ => False) w' w'' ∧ (∀ j, blockOf A' = some j → w'.heap.size ≤ j)) := fun w' hb => few_calls (k := 12) (ard_of h0) hb hc0 (by omega) hg0
  have HF0 := Lib.hid hf0
  have hf1 : ∀ w', Below w.heap.size w w' → Calls Tryd.prog 17 #[.slice A1 r.length c1, .int .i64 5, .int .i64 20] w' (fun e w'' => ∃ A' j c', e = .returned (.slice A' j c') ∧ j ≤ 5 ∧ SW w'' A' j c' (fewS r 5 20) ∧ Step (fun _ => False) w' w'' ∧ (∀ j, blockOf A' = some j → w'.heap.size ≤ j)) := fun w' hb => fews_calls (k := 5) (m := 20) (asd_of h1) hb hc1 (by omega) hg1
  have HF1 := Lib.hid hf1
  have HSM := Lib.hid (fewF_sml l 12)
  have HNM := Lib.hid (fewF_nm l 12)
  have HSZ := Lib.hid (fewS_size r 5 20)
  clear h0 h1 hg0 hg1 hf0 hf1
  generalize fewF l 12 = x at *
  generalize fewS r 5 20 = ss at *
  generalize l.length = n0 at *
  generalize r.length = n1 at *
  go_enter Tryd.func4, Tryd.ntmps4
  go_upto_region 7 with (first
    | (go_at_call 10; refine (awake_calls _).mono ?_; rintro e0 w1 ⟨rfl, hs1⟩)
    | (go_at_call 15; with_reducible refine (HF0.out _ (hs1.below (Nat.le_refl _) (fun _ h => h.elim))).mono ?_; rintro e2 w2 ⟨X, m, cX, rfl, hm8, hX, hs2, hfX⟩)
    | (go_at_call 16; refine (own_calls (c := cX) hX.rd (fun k hk => FSeg.lt hX hk) (by omega)).mono ?_; rintro e3 w3 ⟨Y, cY, rfl, hY, hs3, hfY⟩)
    | (go_at_call 17; with_reducible refine (HF1.out _ (((hs1.same hs2).same hs3).below (Nat.le_refl _) (fun _ h => h.elim))).mono ?_; rintro e4 w4 ⟨S, q, cS, rfl, hq5, hS, hs4, hfS⟩))
  have hst4 := ((hs1.same hs2).same hs3).same hs4
  have hX4 := ((hX.keep hs3 (fun _ _ h => h)).keep hs4 (fun _ _ h => h))
  have hXl : ∀ k, blockOf X = some k → k < w4.heap.size := fun k hk => FSeg.lt hX4 hk
  have hX4 := hX4.rd
  have hY4 := (hY.keep hs4 (fun _ _ h => h)).rd
  have hS4 : SRd w4 S q ss := FSeg.rseg hS
  have hxl := hX4.len
  have hyl := hY4.len
  have hsl := hS4.len
  have HX := Lib.hid hX4
  have HXL := Lib.hid hXl
  have HY := Lib.hid hY4
  have HS := Lib.hid hS4
  clear hX hY hS hX4 hY4 hS4 hXl hs1 hs2 hs3 hs4 hfX hfY hfS HF0 HF1
  go_wp2_with fail
  go_loopw [7, 21] (fun v7 v21 wr => ∃ (i m' : Nat) (B : Option Addr) (cB : Nat), v21 = .int .i64 (i : Int) ∧ v7 = .slice B m' cB ∧ i ≤ q ∧ m' ≤ 12 ∧ FRd wr B m' ((ss.take i).foldl rdropF x) ∧ (∀ k, blockOf B = some k → k < wr.heap.size) ∧ Step (fun _ => False) w4 wr) (fun _ v _ => q - (intOf v).toNat)
  case atStart => exact ⟨0, m, X, cX, rfl, rfl, Nat.zero_le _, hm8, HX.out, HXL.out, Step.refl _ _⟩
  case round =>
    obtain ⟨i, m', B, cB, rfl, rfl, hi, hm', hB, hBl, hst⟩ := hrel
    by_cases hin : i < q
    · have hin' : ((i : Int) < (q : Int)) := by omega
      have hS := HS.out.same hst
      obtain ⟨gS, oS, rfl⟩ := RSeg.isSome hS (by omega) (by omega)
      have hgs : ss[i]? = some ss[i] := List.getElem?_eq_getElem (by omega)
      have a0 := SRd.cells hS hgs
      have HSTEP := Lib.hid (fold_step (x := x) hgs)
      have hsz := HSZ.out ss[i] (List.getElem_mem (by omega))
      generalize ss[i] = s at *
      obtain ⟨y, hy⟩ : ∃ y, (ss.take i).foldl rdropF x = y := ⟨_, rfl⟩
      have hyn : ∀ u ∈ y, u.nm.size ≤ 900000 := fun u hu => by rw [← hy] at hu; have := HNM.out u (fold_mem _ _ hu); omega
      rw [hy] at hB HSTEP
      have hyl' := hB.len
      have hlen := rdropF_len y s
      have HD := Lib.hid (rdrop_calls (c := cB) hB hBl (by omega) hyn s (by omega))
      clear hS hgs hB hBl hy hyn
      go_wp2_with (go_at_call 18; with_reducible refine HD.out.mono ?_; rintro e5 w5 ⟨B5, c5, rfl, hB5, hs5, hf5⟩)
      go_roundw
      case rel =>
        exact ⟨i + 1, _, B5, c5, by go_num, rfl, by omega, by omega, by rw [HSTEP.out]; exact hB5.rd, fun k hk => FSeg.lt hB5 hk, hst.same hs5⟩
      case measure => simp [intOf]; omega
    · have hin' : ¬ ((i : Int) < (q : Int)) := by omega
      obtain rfl : i = q := by omega
      have hfin : (ss.take i).foldl rdropF x = dropF x ss := by rw [← hsl, List.take_length]; exact fold_drop ss x
      rw [hfin] at hB
      have hbt : beqL (dropF x ss) (dropF x ss) = true := (beqL_iff _ _).2 rfl
      have hbt2 : beqL x x = true := (beqL_iff _ _).2 rfl
      have HB := Lib.hid hB
      have hBn := hB.len
      have HD := Lib.hid (drop_calls (c := cY) (cN := cS) (HY.out.same hst) (by omega) (HS.out.same hst) (by omega) (fun s hs => by have := HSZ.out s hs; omega) HSM.out)
      have HBT := Lib.hid hbt
      have HBT2 := Lib.hid hbt2
      clear hbt hbt2 hB hfin hBl
      have hd5 : (dropF x ss).length ≤ 12 := by omega
      go_wp2_with (first
        | (go_at_call 20; with_reducible refine HD.out.mono ?_; rintro e5 w5 ⟨D5, k5, c5, rfl, hD5, hs5, _, _⟩; have hk5 := hD5.len; have hd5r := hD5.rd)
        | (go_at_call 19; with_reducible refine (lis_calls (c := c5) (cB := cB) hd5r (HB.out.same hs5) (by omega) (by omega)).mono ?_; rw [HBT.out]; rintro e6 w6 ⟨rfl, hs6⟩)
        | (go_at_call 19; with_reducible refine (lis_calls (c := cY) (cB := cX) (((HY.out.same hst).same hs5).same hs6) (((HX.out.same hst).same hs5).same hs6) (by omega) (by omega)).mono ?_; rw [HBT2.out]; rintro e7 w7 ⟨rfl, hs7⟩))
      go_ret
      exact ⟨rfl, ((((hst4.same hst).same hs5).same hs6).same hs7).below (Nat.le_refl _) (fun _ h => h.elim)⟩
end Go.Proofs.YtcpblhcpjjpffaaDoor.Fie
