/- The walk of stewardlaw06.FieldsParse. Own work of this seat. -/
import Derived.Test.YtcpblhcpjjpffaaDoorRf6p
import Derived.Test.YtcpblhcpjjpffaaDoorLw6b
import Derived.Test.YtcpblhcpjjpffaaDoorBase
namespace Go.Proofs.YtcpblhcpjjpffaaDoor.Fie
open Go.RowKit Go.Proofs.YtcpblhcpjjpffaaDoor.Kit Go.Proofs.YtcpblhcpjjpffaaDoor.Oct Go.Proofs.YtcpblhcpjjpffaaDoor.Cut Go.Proofs.YtcpblhcpjjpffaaDoorW.PrintWords Go.Proofs.YtcpblhcpjjpffaaDoor
set_option linter.unusedVariables false
set_option linter.unusedSimpArgs false

theorem bts_app (a b : ByteArray) : bts (a ++ b) = bts a ++ bts b := by
  unfold bts
  rw [ByteArray.data_append, Array.toList_append]
theorem bts_ext (s : ByteArray) (a b : Nat) : bts (s.extract a b) = ((bts s).drop a).take (b - a) := by
  unfold bts
  rw [ByteArray.data_extract, Array.toList_extract]
theorem bts_line (n v : ByteArray) : bts (lineB n v) = bts n ++ 58 :: 32 :: (bts v ++ [13, 10]) := by
  unfold lineB
  rw [bts_app, bts_app, bts_app]
  show bts n ++ [58, 32] ++ bts v ++ [13, 10] = _
  simp
theorem line_size (n v : ByteArray) : (lineB n v).size = n.size + v.size + 4 := by
  rw [← bts_len, bts_line, ← bts_len n, ← bts_len v]
  simp
  omega
theorem parse_some {s n v : ByteArray} (h : parseF s = some (n, v)) : token n = true ∧ value v = true ∧ n.size ≤ s.size ∧ v.size ≤ s.size := by
  unfold parseF at h
  cases hc : colon s with
  | none => rw [hc] at h; cases h
  | some i =>
    have hi := colon_lt hc
    rw [hc] at h
    simp only at h
    split at h
    · rename_i hk
      have h := Option.some.inj h
      have h1 := (Prod.mk.inj h).1
      have h2 := (Prod.mk.inj h).2
      rw [h1, h2] at hk
      refine ⟨hk.1, hk.2, ?_, ?_⟩
      · rw [← h1]; exact ext_size s _ _ (by omega)
      · rw [← h2]; exact Nat.le_trans (trim_size _) (ext_size s _ _ (by omega))
    · cases h
theorem tok_no {n : ByteArray} (h : token n = true) : ∀ (j : Nat) (y : UInt8), (bts n)[j]? = some y → (y == 58) = false := by
  intro j y hy
  unfold token at h
  rw [Bool.and_eq_true] at h
  have := List.all_eq_true.1 h.2 y (List.mem_of_getElem? hy)
  cases e : (y == 58) with
  | false => rfl
  | true =>
    rw [beq_iff_eq] at e
    subst e
    exact absurd this (by decide)
theorem value_trim {v : ByteArray} (h : value v = true) : trim v = v := by
  unfold value at h
  rw [Bool.and_eq_true] at h
  exact toList_eq_of _ _ h.2
theorem parse_line {n v : ByteArray} (ht : token n = true) (hv : value v = true) : parseF ((lineB n v).extract 0 ((lineB n v).size - 2)) = some (n, v) := by
  obtain ⟨u, hu⟩ : ∃ u, (lineB n v).extract 0 ((lineB n v).size - 2) = u := ⟨_, rfl⟩
  rw [hu]
  have hub : bts u = bts n ++ 58 :: 32 :: bts v := by
    rw [← hu, bts_ext, bts_line, line_size, List.drop_zero]
    have e : bts n ++ 58 :: 32 :: (bts v ++ [13, 10]) = (bts n ++ 58 :: 32 :: bts v) ++ [13, 10] := by simp
    rw [e]
    refine List.take_left' ?_
    rw [List.length_append, List.length_cons, List.length_cons, bts_len, bts_len]
    omega
  have hus : u.size = n.size + v.size + 2 := by rw [← bts_len, hub, List.length_append, List.length_cons, List.length_cons, bts_len, bts_len]; omega
  have hcol : colon u = some n.size := by
    refine find_hit (· == (58 : UInt8)) (x := 58) ?_ rfl ?_
    · rw [hub, List.getElem?_append_right (by rw [bts_len]; exact Nat.le_refl _), bts_len, Nat.sub_self]; rfl
    · intro j y hj hy
      rw [hub, List.getElem?_append_left (by rw [bts_len]; exact hj)] at hy
      exact tok_no ht j y hy
  have hn : u.extract 0 n.size = n := bts_inj (by
    rw [bts_ext, hub, List.drop_zero]
    exact List.take_left' (by rw [bts_len]; rfl))
  have hvv : trim (u.extract (n.size + 1) u.size) = v := by
    have hb : bts (u.extract (n.size + 1) u.size) = 32 :: bts v := by
      rw [bts_ext, hub, hus]
      have : (bts n ++ 58 :: 32 :: bts v).drop (n.size + 1) = 32 :: bts v := by
        have e : bts n ++ 58 :: 32 :: bts v = (bts n ++ [58]) ++ 32 :: bts v := by simp
        rw [e]
        exact List.drop_left' (by rw [List.length_append, bts_len]; rfl)
      rw [this]
      exact List.take_of_length_le (by rw [List.length_cons, bts_len]; omega)
    have h1 : trim (u.extract (n.size + 1) u.size) = trim v := by
      rw [trim_eq, trim_eq, hb, List.dropWhile_cons]
      rfl
    rw [h1]
    exact value_trim hv
  unfold parseF
  rw [hcol]
  simp only
  rw [hn, hvv, if_pos ⟨ht, hv⟩]
set_option maxRecDepth 100000 in
set_option maxHeartbeats 4000000 in
theorem parse_law (s : ByteArray) (w : World) (hs : s.size ≤ 9223372036854775807) :
    Calls Tryd.prog 3 #[.string s] w fun e w' => e = .returned (.bool true) ∧ Below w.heap.size w w' := by
  have HCUT := Lib.hid (fun w => cut_calls s 100 hs w)
  have hks := cutB_size s 100
  generalize cutB s 100 = k at *
  have HP := Lib.hid (fun w => parse_calls k (by omega) w)
  have HRP := Lib.hid (fun w => rparse_calls k (by omega) w)
  cases hp : parseF k with
  | none =>
    rw [hp] at HP HRP
    simp only [pfN, pfV, pfE] at HP HRP
    have hq := fun w => neqRf ⟨⟨#[]⟩, ⟨#[]⟩⟩ ⟨⟨#[]⟩, ⟨#[]⟩⟩ w
    rw [(eqF_iff _ _).2 rfl] at hq
    simp only at hq
    clear hp
    go_enter Tryd.func3, Tryd.ntmps3
    go_upto_region 5 with (first
      | (go_at_call 10; refine (awake_calls _).mono ?_; rintro e0 w1 ⟨rfl, hs1⟩)
      | (go_at_call 11; refine (HCUT.out _).mono ?_; rintro e1 w2 ⟨rfl, rfl⟩)
      | (go_at_call 12; refine (HP.out _).mono ?_; rintro e2 w2 ⟨rfl, hs2⟩))
    refine alloc_next (cs := [.string ⟨#[]⟩, .string ⟨#[]⟩]) ?_
    intro w3 hX hs3
    generalize w2.heap.size = xb at *
    go_upto_region 6 with (go_at_call 13; refine (HRP.out _).mono ?_; rintro e4 w4 ⟨rfl, hs4⟩)
    refine alloc_next (cs := [.string ⟨#[]⟩, .string ⟨#[]⟩]) ?_
    intro w5 hY hs5
    have hX5 := (hX.keep hs4 (fun h => h)).keep hs5 (fun h => h)
    generalize w4.heap.size = yb at *
    have x0 := hX5.cell (i := 0) rfl
    have x1 := hX5.cell (i := 1) rfl
    have y0 := hY.cell (i := 0) rfl
    have y1 := hY.cell (i := 1) rfl
    go_wp2
    go_ret
    exact ⟨rfl, ((((hs1.same hs2).same hs3).same hs4).same hs5).below (Nat.le_refl _) (fun _ h => h.elim)⟩
  | some p =>
    obtain ⟨n, v⟩ := p
    obtain ⟨htk, hva, hns, hvs⟩ := parse_some hp
    have hpl := parse_line htk hva
    rw [hp] at HP HRP
    simp only [pfN, pfV, pfE] at HP HRP
    have HL := Lib.hid (fun w => line_calls n v (by omega) (by omega) w)
    have hls := line_size n v
    generalize lineB n v = t at *
    obtain ⟨u, hu⟩ : ∃ u, t.extract 0 (t.size - 2) = u := ⟨_, rfl⟩
    have hus : u.size ≤ 204 := by rw [← hu, ByteArray.size_extract]; omega
    rw [hu] at hpl
    have HP2 := Lib.hid (fun w => parse_calls u (by omega) w)
    rw [hpl] at HP2
    simp only [pfN, pfV, pfE] at HP2
    have hq := fun w => neqRf ⟨n, v⟩ ⟨n, v⟩ w
    rw [(eqF_iff _ _).2 rfl] at hq
    have hq2 := fun w => eqFd ⟨n, v⟩ ⟨n, v⟩ w
    rw [(eqF_iff _ _).2 rfl] at hq2
    simp only at hq hq2
    have hb1 : (0 : Int) ≤ (t.size : Int) - 2 := by omega
    have hb2 : (t.size : Int) - 2 ≤ (t.size : Int) := by omega
    have hb3 : ((t.size : Int) - 2).toNat = t.size - 2 := by omega
    have ht64 : t.size ≤ 204 := by omega
    clear hp hpl htk hva hls hns hvs hus hks hs
    go_enter Tryd.func3, Tryd.ntmps3
    go_upto_region 5 with (first
      | (go_at_call 10; refine (awake_calls _).mono ?_; rintro e0 w1 ⟨rfl, hs1⟩)
      | (go_at_call 11; refine (HCUT.out _).mono ?_; rintro e1 w2 ⟨rfl, rfl⟩)
      | (go_at_call 12; refine (HP.out _).mono ?_; rintro e2 w2 ⟨rfl, hs2⟩))
    refine alloc_next (cs := [.string n, .string v]) ?_
    intro w3 hX hs3
    generalize w2.heap.size = xb at *
    go_upto_region 6 with (go_at_call 13; refine (HRP.out _).mono ?_; rintro e4 w4 ⟨rfl, hs4⟩)
    refine alloc_next (cs := [.string n, .string v]) ?_
    intro w5 hY hs5
    have hX5 := (hX.keep hs4 (fun h => h)).keep hs5 (fun h => h)
    generalize w4.heap.size = yb at *
    have x0 := hX5.cell (i := 0) rfl
    have x1 := hX5.cell (i := 1) rfl
    have y0 := hY.cell (i := 0) rfl
    have y1 := hY.cell (i := 1) rfl
    go_upto_region 12 with (first
      | (go_at_call 14; refine (HL.out _).mono ?_; rintro e6 w6 ⟨rfl, hs6⟩)
      | (go_at_call 12; with_reducible refine (HP2.out _).mono ?_; rintro e7 w7 ⟨rfl, hs7⟩))
    refine alloc_next (cs := [.string n, .string v]) ?_
    intro w8 hZ hs8
    have hX8 := ((hX5.keep hs6 (fun h => h)).keep hs7 (fun h => h)).keep hs8 (fun h => h)
    clear x0 x1 y0 y1
    generalize w7.heap.size = zb at *
    have x0 := hX8.cell (i := 0) rfl
    have x1 := hX8.cell (i := 1) rfl
    have z0 := hZ.cell (i := 0) rfl
    have z1 := hZ.cell (i := 1) rfl
    go_wp2
    go_ret
    exact ⟨rfl, (((((((hs1.same hs2).same hs3).same hs4).same hs5).same hs6).same hs7).same hs8).below (Nat.le_refl _) (fun _ h => h.elim)⟩
end Go.Proofs.YtcpblhcpjjpffaaDoor.Fie
