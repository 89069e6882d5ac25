/- framing: length, of, Request; shout; octet: Dec. Own work of this seat; no condition but on lengths. -/
import Derived.Test.YtdglbpjgadjnjaaDoorFrmP
namespace Go.Proofs.YtdglbpjgadjnjaaDoor.Fie
open Go.RowKit Go.Proofs.YtdglbpjgadjnjaaDoor.Kit Go.Proofs.YtdglbpjgadjnjaaDoor.Oct Go.Proofs.YtdglbpjgadjnjaaDoor.Cut
set_option linter.unusedVariables false
set_option linter.unusedSimpArgs false

set_option maxRecDepth 100000 in
theorem dec_calls (s : ByteArray) (hs : s.size ≤ 900000) (w : World) : Calls Tryd.prog 35 #[.string s, .int .i64 9999999999] w fun e w' => e = .returned (.tuple #[.int .i64 (decV s), .int .i64 (decE s)]) ∧ Step (fun _ => False) w w' := by
  have hn : ∀ w, Calls Tryd.prog 46 #[.string s, .int .u8 8, .int .i64 10, .int .i64 10, .int .i64 9999999999] w fun e w' => e = .returned (.tuple #[.int .i64 (decV s), .int .i64 (decE s)]) ∧ Step (fun _ => False) w w' := fun w => number10_calls s hs 9999999999 (by omega) w
  have HN := Lib.hid hn
  generalize decV s = a at *
  generalize decE s = b at *
  clear hn
  go_enter Tryd.func35, Tryd.ntmps35
  go_wp2_with (go_at_call 46; refine (HN.out _).mono ?_; rintro e w1 ⟨rfl, hs1⟩)
  go_ret2
  exact ⟨rfl, hs1⟩
theorem lenAll_fail {c v : ByteArray} {C : List ByteArray} (hv : v ∈ C) (h : ¬ (decE v = 0 ∧ decV v = decV c)) : lenAll c C = false := by
  unfold lenAll
  rw [List.all_eq_false]
  exact ⟨v, hv, by simpa using h⟩
theorem lenAll_ok {c : ByteArray} {C : List ByteArray} (h : ∀ (i : Nat) v, C[i]? = some v → decE v = 0 ∧ decV v = decV c) : lenAll c C = true := by
  unfold lenAll
  rw [List.all_eq_true]
  intro v hv
  obtain ⟨i, hi⟩ := List.getElem?_of_mem hv
  have := h i v hi
  simpa using this
set_option maxRecDepth 100000 in
set_option maxHeartbeats 2000000 in
theorem length_calls {w : World} {A : Option Addr} {n c : Nat} {a : ByteArray} {r : List ByteArray} (h : SRd w A n (a :: r)) (hn : n ≤ 1000000) (hl : ∀ x ∈ a :: r, x.size ≤ 900000) (most : Int) :
    Calls Tryd.prog 24 #[.slice A n c, .int .i64 most] w fun e w' => e = .returned (.tuple #[.int .i64 (lenR (a :: r) most).1, .int .i64 (lenR (a :: r) most).2]) ∧ Step (fun _ => False) w w' := by
  have hln := h.len
  have HH := Lib.hid h
  have HL := Lib.hid hl
  obtain ⟨p, hp⟩ : ∃ p, lenR (a :: r) most = p := ⟨_, rfl⟩
  rw [hp]
  have hp : (if lenAll a (a :: r) = true then (if most < decV a then ((0 : Int), (3 : Int)) else (decV a, 0)) else (0, 2)) = p := hp
  have HP := Lib.hid hp
  obtain ⟨C, hC⟩ : ∃ C, a :: r = C := ⟨_, rfl⟩
  have ha0 : C[0]? = some a := by rw [← hC]; rfl
  rw [hC] at hln HH HL HP
  clear h hl hp hC
  have HA0 := Lib.hid ha0
  have hpos : 0 < n := by rw [← hln]; exact (List.getElem?_eq_some_iff.1 ha0).1
  clear ha0
  go_enter Tryd.func24, Tryd.ntmps24
  go_wp2
  go_loopw [6, 13] (fun v6 v13 wr => ∃ (i : Nat) (f : Int), v13 = .int .i64 (i : Int) ∧ v6 = .int .i64 f ∧ i ≤ n ∧ (0 < i → f = decV a) ∧ (∀ (j : Nat) v, j < i → C[j]? = some v → decE v = 0 ∧ decV v = decV a) ∧ Step (fun _ => False) w wr) (fun _ v _ => n - (intOf v).toNat)
  case atStart => exact ⟨0, 0, rfl, rfl, Nat.zero_le _, fun h => absurd h (Nat.lt_irrefl _), fun j v hj => absurd hj (Nat.not_lt_zero _), Step.refl _ _⟩
  case round =>
    obtain ⟨i, f, rfl, rfl, hi, hfi, hall, hst⟩ := hrel
    by_cases hin : i < n
    · have hin' : ((i : Int) < (n : Int)) := by omega
      have hR := HH.out.same hst
      obtain ⟨g, o, rfl⟩ := RSeg.isSome hR (by omega) (by omega)
      have hget : C[i]? = some C[i] := List.getElem?_eq_getElem (by omega)
      have a0 := SRd.cells hR hget
      have hsz := HL.out C[i] (List.getElem_mem (by omega))
      have HG := Lib.hid hget
      generalize C[i] = x at *
      have HD := Lib.hid (fun w => dec_calls x hsz w)
      have HALL := Lib.hid hall
      obtain ⟨xv, hxv⟩ : ∃ xv, decV x = xv := ⟨_, rfl⟩
      obtain ⟨xe, hxe⟩ : ∃ xe, decE x = xe := ⟨_, rfl⟩
      rw [hxv, hxe] at HD
      have HXV := Lib.hid hxv
      have HXE := Lib.hid hxe
      have hok : (xe = 0 ∧ (0 < i → xv = f)) ∨ xe ≠ 0 ∨ (xe = 0 ∧ 0 < i ∧ xv ≠ f) := by
        by_cases h1 : xe = 0
        · by_cases h2 : 0 < i
          · by_cases h3 : xv = f
            · exact .inl ⟨h1, fun _ => h3⟩
            · exact .inr (.inr ⟨h1, h2, h3⟩)
          · exact .inl ⟨h1, fun h => absurd h h2⟩
        · exact .inr (.inl h1)
      have HFI := Lib.hid hfi
      clear hR hget hall hxv hxe hfi
      rcases hok with ⟨rfl, h2⟩ | h1 | ⟨rfl, h2, h3⟩
      · have hnx : xv = decV a := by
          by_cases h0 : 0 < i
          · rw [h2 h0]; exact HFI.out h0
          · obtain rfl : i = 0 := by omega
            have h := HA0.out
            rw [HG.out] at h
            rw [← HXV.out, Option.some.inj h]
        have HNX := Lib.hid hnx
        clear hnx
        by_cases h0 : 0 < i
        · obtain rfl := h2 h0
          have q1 : ((0 : Int) < (i : Int)) := by omega
          have q2 : (xv != xv) = false := by simp
          clear h2
          go_wp2_with (go_at_call 35; refine (HD.out _).mono ?_; rintro e w1 ⟨rfl, hs1⟩)
          go_roundw
          case rel =>
            refine ⟨i + 1, xv, by go_num, rfl, by omega, fun _ => HNX.out, fun j v hj hv => ?_, hst.same hs1⟩
            by_cases e : j = i
            · subst e
              rw [HG.out] at hv
              cases hv
              exact ⟨HXE.out, HXV.out.trans HNX.out⟩
            · exact HALL.out j v (by omega) hv
          case measure => simp [intOf]; omega
        · have q1 : ((0 : Int) < (i : Int)) = False := eq_false (by omega)
          clear h2
          go_wp2_with (go_at_call 35; refine (HD.out _).mono ?_; rintro e w1 ⟨rfl, hs1⟩)
          go_roundw
          case rel =>
            refine ⟨i + 1, xv, by go_num, rfl, by omega, fun _ => HNX.out, fun j v hj hv => ?_, hst.same hs1⟩
            obtain rfl : j = i := by omega
            rw [HG.out] at hv
            cases hv
            exact ⟨HXE.out, HXV.out.trans HNX.out⟩
          case measure => simp [intOf]; omega
      · have hla : lenAll a C = false := lenAll_fail (List.mem_of_getElem? HG.out) (fun h => h1 (HXE.out.symm.trans h.1))
        have hp := HP.out
        rw [hla] at hp
        simp only [Bool.false_eq_true, if_false] at hp
        obtain rfl := hp
        have q1 : (xe != 0) = true := by simpa using h1
        clear hla h1 HP
        go_wp2_with (go_at_call 35; refine (HD.out _).mono ?_; rintro e w1 ⟨rfl, hs1⟩)
        go_ret2
        exact ⟨rfl, hst.same hs1⟩
      · have hla : lenAll a C = false := lenAll_fail (List.mem_of_getElem? HG.out) (fun h => h3 (HXV.out.symm.trans (h.2.trans (HFI.out h2).symm)))
        have hp := HP.out
        rw [hla] at hp
        simp only [Bool.false_eq_true, if_false] at hp
        obtain rfl := hp
        have q1 : ((0 : Int) < (i : Int)) := by omega
        have q2 : (xv != f) = true := by simpa using h3
        clear hla h3 HP
        go_wp2_with (go_at_call 35; refine (HD.out _).mono ?_; rintro e w1 ⟨rfl, hs1⟩)
        go_ret2
        exact ⟨rfl, hst.same hs1⟩
    · have hin' : ¬ ((i : Int) < (n : Int)) := by omega
      obtain rfl : i = n := by omega
      have hla : lenAll a C = true := lenAll_ok (fun j v hv => hall j v (by have := (List.getElem?_eq_some_iff.1 hv).1; omega) hv)
      have hp := HP.out
      rw [hla] at hp
      simp only [if_true] at hp
      obtain rfl := (hfi hpos).symm
      generalize decV a = q at *
      clear hla hall hfi HP
      by_cases hm : most < q
      · rw [if_pos hm] at hp
        obtain rfl := hp
        go_wp2
        go_ret2
        exact ⟨rfl, hst⟩
      · rw [if_neg hm] at hp
        obtain rfl := hp
        go_wp2
        go_ret2
        exact ⟨rfl, hst⟩
end Go.Proofs.YtdglbpjgadjnjaaDoor.Fie
