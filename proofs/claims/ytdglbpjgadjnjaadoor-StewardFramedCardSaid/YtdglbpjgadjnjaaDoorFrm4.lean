/- shout; rows of fields appended. Own work of this seat; no condition but on lengths. -/
import Derived.Test.YtdglbpjgadjnjaaDoorFrm3
import Derived.Test.YtdglbpjgadjnjaaDoorFie11
namespace Go.Proofs.YtdglbpjgadjnjaaDoor.Fie
open Go.RowKit Go.Proofs.YtdglbpjgadjnjaaDoor.Kit Go.Proofs.YtdglbpjgadjnjaaDoor.Oct Go.Proofs.YtdglbpjgadjnjaaDoor.Cut
set_option linter.unusedVariables false
set_option linter.unusedSimpArgs false

theorem up_at {l : List UInt8} {i : Nat} {x : UInt8} (h : l[i]? = some x) : ((l.take i).map upB ++ l.drop i)[i]? = some x := by
  have hi := (List.getElem?_eq_some_iff.1 h).1
  rw [List.getElem?_append_right (by rw [List.length_map, List.length_take]; omega), List.length_map, List.length_take, Nat.min_eq_left (by omega), Nat.sub_self, List.getElem?_drop, Nat.add_zero]
  exact h
theorem up_next {l : List UInt8} {i : Nat} {x : UInt8} (h : l[i]? = some x) : ((l.take i).map upB ++ l.drop i).set i (upB x) = (l.take (i + 1)).map upB ++ l.drop (i + 1) := by
  have hi := (List.getElem?_eq_some_iff.1 h).1
  have e : l.drop i = x :: l.drop (i + 1) := by rw [List.drop_eq_getElem_cons hi, (List.getElem?_eq_some_iff.1 h).2]
  rw [List.set_append_right _ _ (by rw [List.length_map, List.length_take]; omega), List.length_map, List.length_take, Nat.min_eq_left (by omega), Nat.sub_self, e, List.set_cons_zero, List.take_add_one, h]
  simp
theorem up_same {l : List UInt8} {i : Nat} {x : UInt8} (h : l[i]? = some x) (hx : upB x = x) : (l.take i).map upB ++ l.drop i = (l.take (i + 1)).map upB ++ l.drop (i + 1) := by
  have hi := (List.getElem?_eq_some_iff.1 h).1
  have e : l.drop i = x :: l.drop (i + 1) := by rw [List.drop_eq_getElem_cons hi, (List.getElem?_eq_some_iff.1 h).2]
  rw [e, List.take_add_one, h]
  simp [hx]
theorem up_len {l : List UInt8} {i : Nat} (hi : i ≤ l.length) : ((l.take i).map upB ++ l.drop i).length = l.length := by
  simp; omega
set_option maxRecDepth 100000 in
set_option maxHeartbeats 2000000 in
theorem shout_calls (s : ByteArray) (hs : s.size ≤ 900000) (w : World) : Calls Tryd.prog 6 #[.string s] w fun e w' => e = .returned (.string (upS s)) ∧ Step (fun _ => False) w w' := by
  obtain ⟨g, c, w1, hcv, hB, hs1, hg, hc⟩ := bytes_of w s
  obtain ⟨r, hr⟩ : ∃ r, upS s = r := ⟨_, rfl⟩
  rw [hr]
  have HR := Lib.hid hr
  have HB := Lib.hid hB
  have HS := Lib.hid hs1
  have hlt := hB.lt
  clear hr hB hs1
  go_enter Tryd.func6, Tryd.ntmps6
  go_wp2
  clear hcv
  go_loopw [10] (fun v10 wr => ∃ (i : Nat), v10 = .int .i64 (i : Int) ∧ i ≤ s.size ∧ BsW wr 5 g (((bts s).take i).map upB ++ (bts s).drop i) ∧ Step (· = g) w1 wr) (fun v _ => s.size - (intOf v).toNat)
  case atStart => exact ⟨0, rfl, Nat.zero_le _, by simpa using HB.out, Step.refl _ _⟩
  case round =>
    obtain ⟨i, rfl, hi, hBi, hst⟩ := hrel
    by_cases hin : i < s.size
    · have hin' : ((i : Int) < (s.size : Int)) := by omega
      have hcc : ((i : Int) < (c : Int)) := by omega
      have hgt := bts_get hin
      have a0 := hBi.cell (up_at hgt)
      have a1 := hBi.free (show i < _ by rw [up_len (by rw [bts_len]; omega), bts_len]; omega)
      have HN := Lib.hid (up_next hgt)
      have HSM := Lib.hid (fun h => up_same hgt h)
      have HBi := Lib.hid hBi
      obtain ⟨x, hx⟩ : ∃ x, s[i] = x := ⟨_, rfl⟩
      rw [hx] at a0 HN HSM
      clear hgt hBi hx
      by_cases hu : 97 ≤ x.toNat ∧ x.toNat ≤ 122
      · have u1 : ((97 : Int) ≤ (x.toNat : Int)) := by omega
        have u2 : ((x.toNat : Int) ≤ 122) := by omega
        have hl : upB x = x - 32 := by unfold upB; rw [if_pos hu]
        have hxn : ((x - 32 : UInt8).toNat : Int) = (x.toNat : Int) - 32 := by
          have h1 : (32 : UInt8) ≤ x := by rw [UInt8.le_iff_toNat_le]; show 32 ≤ x.toNat; omega
          rw [UInt8.toNat_sub_of_le _ _ h1]
          have : (32 : UInt8).toNat = 32 := rfl
          rw [this]
          omega
        have hw1 : IntKind.u8.wrap ((x.toNat : Int) - 32) = (x.toNat : Int) - 32 := by
          simp only [IntKind.wrap, IntKind.bits, IntKind.signed, Bool.false_and, Bool.false_eq_true, if_false]
          omega
        have HST := Lib.hid (fun (u : Value) (e : u = .int .u8 ((upB x).toNat : Int)) => show BsW (wr.setCell ⟨g, i, none⟩ u) 5 g (((bts s).take (i + 1)).map upB ++ (bts s).drop (i + 1)) by rw [e, ← HN.out]; exact HBi.out.set i (upB x))
        have hxl : (.int .u8 ((x.toNat : Int) - 32) : Value) = .int .u8 ((upB x).toNat : Int) := by rw [hl, hxn]
        have HXL := Lib.hid hxl
        clear hl hxn hxl
        go_wp2
        go_roundw
        case rel => exact ⟨i + 1, by go_num, by omega, HST.out _ HXL.out, hst.trans (Step.setCell (F := fun k => k = g) (Step.refl _ wr) (p := ⟨g, i, none⟩) (fun _ => rfl) _) (fun _ _ h => h)⟩
        case measure => simp [intOf]; omega
      · have hl : upB x = x := by unfold upB; rw [if_neg hu]
        have HBn := Lib.hid (show BsW wr 5 g (((bts s).take (i + 1)).map upB ++ (bts s).drop (i + 1)) by rw [← HSM.out hl]; exact HBi.out)
        have hends : ((97 : Int) ≤ (x.toNat : Int)) = False ∨ (((97 : Int) ≤ (x.toNat : Int)) = True ∧ ((x.toNat : Int) ≤ 122) = False) := by
          by_cases u : 97 ≤ x.toNat
          · exact .inr ⟨eq_true (by omega), eq_false (by omega)⟩
          · exact .inl (eq_false (by omega))
        clear hl
        rcases hends with u1 | ⟨u1, u2⟩
        all_goals
          go_wp2
          go_roundw
          case rel => exact ⟨i + 1, by go_num, by omega, HBn.out, hst⟩
          case measure => simp [intOf]; omega
    · have hin' : ¬ ((i : Int) < (s.size : Int)) := by omega
      obtain rfl : i = s.size := by omega
      have hfin : ((bts s).take s.size).map upB ++ (bts s).drop s.size = (bts s).map upB := by
        rw [← bts_len, List.take_length, List.drop_length, List.append_nil]
      rw [hfin] at hBi
      have hcv := back_to (c := c) hBi (by rw [List.length_map, bts_len])
      rw [show ofL ((bts s).map upB) = r from HR.out] at hcv
      clear hBi hfin
      go_wp2
      go_ret
      exact ⟨rfl, HS.out.trans hst (fun j hj h => by have : j = g := h; omega)⟩
/-- append of one of the program's fields whose block lies anywhere. -/
theorem app_fd_at {W : World} {B : Option Addr} {m cB b : Nat} {l : List Fd} (hB : FW W 27 B m cB l) (hb : m + 1 ≤ 1000000) (x : Fd) (hE : Blk W b 27 [.string x.nm, .string x.vl]) :
    ∃ B' c' w', (Builtin.append_ #[29, 29] 29 #[.slice B m cB, .slice (some ⟨b, 0, none⟩) 1 1]).run Tryd.prog W = .ok (.slice B' (m + 1) c') w' ∧ FW w' 27 B' (m + 1) c' (l ++ [x]) ∧ (blockOf B' = blockOf B ∨ ∃ k, blockOf B' = some k ∧ W.heap.size ≤ k) ∧ Step (fun k => blockOf B = some k) W w' := by
  obtain ⟨i0, hi0, hz0, hs0, hy0⟩ := i0fd
  obtain ⟨B5, c5, w5, hap, hB6, hs5, hn5⟩ := run_app_one (k := 2) (v := fdc x) 29 27 Tryd.underlying29 hi0 hz0 rfl hs0 hy0 (by omega) hB rfl (fdc_cell x) hE hb
  exact ⟨B5, c5, w5, hap, by unfold FW; rw [fdcs_append, fdcs_one]; exact hB6, hn5, hs5⟩
theorem run_append_nilsrc {P : Program} (w : World) (t ty e : TypeId) (i : TypeInfo) (k : Nat) (ht : P.underlying t = some (.slice e)) (hi : P.info? e = some i) (hs1 : i.size = k) (g n c : Nat) (hnc : n ≤ c) :
    (Builtin.append_ #[t, t] ty #[.slice (some ⟨g, 0, none⟩) n c, .slice none 0 0]).run P w = .ok (.slice (some ⟨g, 0, none⟩) n c) w := by
  have hf : (Builtin.firstCells k 0 (.slice none 0 0)).run P w = .ok #[] w := by
    simp [Builtin.firstCells]
  have hst : (storeCells ((⟨g, 0, none⟩ : Addr).add (n * k)) []).run P w = .ok () w := by simp [storeCells]
  simp [Builtin.append_, run_underlying ht, sizeOf, typeInfo, hi, hs1, Builtin.lenOf, hnc, hf, hst]
/-- append(s, r...) of a row of the call's own, not nil, and any row. -/
theorem app_fd_row {w : World} {g n c : Nat} {l : List Fd} (hE : FW w 27 (some ⟨g, 0, none⟩) n c l) {X : Option Addr} {m cX : Nat} {r : List Fd} (hX : FW w 27 X m cX r) (hm : m ≤ 1000) (hn : n ≤ 1000) :
    ∃ B c' w', (Builtin.append_ #[29, 29] 29 #[.slice (some ⟨g, 0, none⟩) n c, .slice X m cX]).run Tryd.prog w = .ok (.slice (some ⟨B, 0, none⟩) (n + m) c') w' ∧ FW w' 27 (some ⟨B, 0, none⟩) (n + m) c' (l ++ r) ∧ (B = g ∨ w.heap.size ≤ B) ∧ Step (fun k => k = g) w w' := by
  obtain ⟨i0, hi0, hz0, hs0, hy0⟩ := i0fd
  rcases hX.2 with ⟨rfl, rfl, rfl, he⟩ | ⟨gx, cur, rfl, hg⟩
  · have hr : r = [] := List.eq_nil_of_length_eq_zero hX.len
    subst hr
    exact ⟨g, c, w, run_append_nilsrc w _ _ _ i0 2 Tryd.underlying29 hi0 hs0 g n c (FSeg.le hE), by rw [List.append_nil]; exact hE, .inl rfl, Step.refl _ _⟩
  · obtain ⟨A', c', w', h1, h2, h3, h4⟩ := run_append_flat (P := Tryd.prog) (cB := cX) w 29 29 27 i0 _ 2 32 Tryd.underlying29 hi0 hz0 rfl hs0 hy0 (by omega) hE (m := m) (r := fdcs r) (aB := ⟨gx, 0, none⟩) hX.1 (fun e => by cases e) (fdcs_cell r) (fun j v hj => by rw [addr_add', Nat.zero_add]; exact FSeg.cell hX hj) (by omega)
    have hA : ∃ B, A' = some ⟨B, 0, none⟩ := by
      rcases h2.2 with ⟨rfl, _⟩ | ⟨B, _, rfl, _⟩
      · rcases h4 with e | ⟨j, e, _⟩ <;> cases e
      · exact ⟨B, rfl⟩
    obtain ⟨B, rfl⟩ := hA
    refine ⟨B, c', w', h1, by unfold FW; rw [fdcs_append]; exact h2, ?_, h3.mono (fun j _ e => (Option.some.inj e).symm)⟩
    rcases h4 with e | ⟨j, e, hj⟩
    · exact .inl (Option.some.inj e)
    · have : B = j := Option.some.inj e
      exact .inr (by omega)
theorem fewF_bnd (l : List Fd) (k : Nat) : ∀ x ∈ fewF l k, x.nm.size ≤ 20 ∧ x.vl.size ≤ 40 := by
  intro x hx
  obtain ⟨y, _, rfl⟩ := List.mem_map.1 hx
  exact ⟨cutB_size y.nm 20, cutB_size y.vl 40⟩
end Go.Proofs.YtdglbpjgadjnjaaDoor.Fie
