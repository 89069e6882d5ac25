/- the document's Of; shout. Own work of this seat; no condition but on lengths. -/
import Derived.Test.YtdglbpjgadjnjaaDoorFrm2
namespace Go.Proofs.YtdglbpjgadjnjaaDoor.Fie
open Go.RowKit Go.Proofs.YtdglbpjgadjnjaaDoor.Kit Go.Proofs.YtdglbpjgadjnjaaDoor.Oct Go.Proofs.YtdglbpjgadjnjaaDoor.Cut
set_option linter.unusedVariables false
set_option linter.unusedSimpArgs false

theorem rnumV_calls (s : ByteArray) (hs : s.size ≤ 900000) (w : World) : Calls Tryd.prog 22 #[.string s, .int .i64 10, .int .i64 9999999999] w fun e w' => e = .returned (.tuple #[.int .i64 (decV s), .int .i64 (decE s)]) ∧ w = w' := rnum10_calls s hs 9999999999 (by omega) w
set_option maxRecDepth 100000 in
set_option maxHeartbeats 8000000 in
theorem rof_calls {w : World} {A : Option Addr} {n c : Nat} {l : List Fd} (h : FRd w A n l) (hA : ∀ k, blockOf A = some k → k < w.heap.size) (hn : n ≤ 1000) (hl : ∀ x ∈ l, x.nm.size ≤ 900000) (hv : ∀ x ∈ l, x.vl.size ≤ 900000) (most wo : Int) :
    Calls Tryd.prog 9 #[.slice A n c, .int .i64 most, .int .i64 wo] w fun e w' => e = .returned (.tuple #[.int .i64 (ofR (allF l bTE) (allF l bCL) most wo).1, .int .i64 (ofR (allF l bTE) (allF l bCL) most wo).2.1, .int .i64 (ofR (allF l bTE) (allF l bCL) most wo).2.2]) ∧ Step (fun _ => False) w w' := by
  rw [allF_low l low_te, allF_low l low_cl]
  have HA := Lib.hid (rall_calls (c := c) h hA hn hl bTe (by decide))
  have HC := Lib.hid (fun w' (hs : Step (fun _ => False) w w') => rall_calls (c := c) (h.same hs) (fun k hk => Nat.lt_of_lt_of_le (hA k hk) hs.size) hn hl bCl (by decide))
  have hsA := allF_sz hv bTe
  have hsC := allF_sz hv bCl
  have hlA := allF_lenq l bTe
  have hlC := allF_lenq l bCl
  have hln := h.len
  unfold bTe at HA
  unfold bCl at HC
  have eA : allF l ⟨#[116, 114, 97, 110, 115, 102, 101, 114, 45, 101, 110, 99, 111, 100, 105, 110, 103]⟩ = allF l bTe := rfl
  have eC : allF l ⟨#[99, 111, 110, 116, 101, 110, 116, 45, 108, 101, 110, 103, 116, 104]⟩ = allF l bCl := rfl
  rw [eA] at HA
  rw [eC] at HC
  clear eA eC h hA hl hv
  generalize allF l bTe = al at *
  generalize allF l bCl = cl at *
  obtain ⟨p, hp⟩ : ∃ p, ofR al cl most wo = p := ⟨_, rfl⟩
  rw [hp]
  cases al with
  | nil =>
    cases cl with
    | nil =>
      obtain rfl : (wo, 0, 0) = p := hp
      simp only [List.length_nil] at HA HC
      go_enter Tryd.func9, Tryd.ntmps9
      go_wp2_with (first
        | (go_at_call 20; with_reducible refine HA.out.mono ?_; rintro e w1 ⟨A1, c1, rfl, hF1, hs1, _⟩)
        | (go_at_call 20; (with_reducible refine (HC.out _ hs1).mono ?_); rintro e w2 ⟨A2, c2, rfl, hF2, hs2, _⟩))
      go_ret3
      exact ⟨rfl, hs1.same hs2⟩
    | cons x r =>
      have hp : (if (lenR (x :: r) most).2 = 0 then ((1 : Int), (lenR (x :: r) most).1, (0 : Int)) else (0, 0, (lenR (x :: r) most).2)) = p := hp
      have hy : lenR (x :: r) most = (if lenAll x (x :: r) = true then (if most < decV x then ((0 : Int), (3 : Int)) else (decV x, 0)) else (0, 2)) := rfl
      have hne : (((x :: r).length : Int) == 0) = false := beq_eq_false_iff_ne.2 (by rw [List.length_cons]; omega)
      have hpos : 0 < (x :: r).length := by rw [List.length_cons]; omega
      have h00 : (x :: r)[0]? = some x := rfl
      have hsx := hsC x List.mem_cons_self
      rw [hy] at hp
      obtain ⟨C, hC⟩ : ∃ C, x :: r = C := ⟨_, rfl⟩
      rw [hC] at hp HC hne hpos h00 hsC hlC
      simp only [List.length_nil] at HA
      have HP := Lib.hid hp
      have HSC := Lib.hid hsC
      have HX0 := Lib.hid h00
      have HNX := Lib.hid (fun w => rnumV_calls x hsx w)
      obtain ⟨xv, hxv⟩ : ∃ xv, decV x = xv := ⟨_, rfl⟩
      obtain ⟨xe, hxe⟩ : ∃ xe, decE x = xe := ⟨_, rfl⟩
      have HXV := Lib.hid hxv
      rw [hxv, hxe] at HNX
      rw [hxv] at HP
      obtain ⟨k, hk⟩ : ∃ k, C.length = k := ⟨_, rfl⟩
      rw [hk] at HC hne hpos hlC
      have HK := Lib.hid hk
      clear hy hsC hsA hC hp h00 hxv hxe hk hsx
      go_enter Tryd.func9, Tryd.ntmps9
      go_wp2_with (first
        | (go_at_call 20; with_reducible refine HA.out.mono ?_; rintro e w1 ⟨A1, c1, rfl, hF1, hs1, _⟩)
        | (go_at_call 20; (with_reducible refine (HC.out _ hs1).mono ?_); rintro e w2 ⟨A2, c2, rfl, hF2, hs2, _⟩))
      have hst2 := hs1.same hs2
      obtain ⟨g2, o2, rfl⟩ := RSeg.isSome (SW.rd hF2) (by omega) hpos
      have c0 := SRd.cells (SW.rd hF2) HX0.out
      rw [Nat.add_zero] at c0
      have HR := Lib.hid (SW.rd hF2)
      clear hF1 hF2 hs1 hs2 HA HC
      go_loopw [47] (fun v47 wr => ∃ (i : Nat), v47 = .int .i64 (i : Int) ∧ i ≤ k ∧ (∀ (j : Nat) v, j < i → C[j]? = some v → decE v = 0 ∧ decV v = xv) ∧ w2 = wr) (fun v _ => k - (intOf v).toNat)
      case atStart => exact ⟨0, rfl, Nat.zero_le _, fun j v hj => absurd hj (Nat.not_lt_zero _), rfl⟩
      case round =>
        obtain ⟨i, rfl, hi, hall, rfl⟩ := hrel
        by_cases hin : i < k
        · have hin' : ((i : Int) < (k : Int)) := by omega
          have hil : i < C.length := by have := HK.out; omega
          have hget : C[i]? = some C[i] := List.getElem?_eq_getElem hil
          have a0 := SRd.cells HR.out hget
          have hsz := HSC.out C[i] (List.getElem_mem hil)
          have HG := Lib.hid hget
          generalize C[i] = v at *
          have HN := Lib.hid (fun w => rnumV_calls v hsz w)
          obtain ⟨vv, hvv⟩ : ∃ vv, decV v = vv := ⟨_, rfl⟩
          obtain ⟨ve, hve⟩ : ∃ ve, decE v = ve := ⟨_, rfl⟩
          rw [hvv, hve] at HN
          have HVV := Lib.hid hvv
          have HVE := Lib.hid hve
          have HALL := Lib.hid hall
          have hok : (ve = 0 ∧ vv = xv) ∨ ve ≠ 0 ∨ (ve = 0 ∧ vv ≠ xv) := by
            by_cases h1 : ve = 0
            · by_cases h3 : vv = xv
              · exact .inl ⟨h1, h3⟩
              · exact .inr (.inr ⟨h1, h3⟩)
            · exact .inr (.inl h1)
          clear hget hall hvv hve HSC hil
          rcases hok with ⟨rfl, rfl⟩ | h1 | ⟨rfl, h3⟩
          · have q2 : (vv != vv) = false := by simp
            go_wp2_with (first
              | (go_at_call 22; with_reducible refine (HN.out _).mono ?_; clear HN; rintro e w' ⟨rfl, rfl⟩)
              | (go_at_call 22; with_reducible refine (HNX.out _).mono ?_; rintro e w' ⟨rfl, rfl⟩))
            go_roundw
            case rel =>
              refine ⟨i + 1, by go_num, by omega, fun j u hj hu => ?_, by first | rfl | trivial⟩
              by_cases e : j = i
              · subst e
                rw [HG.out] at hu
                cases hu
                exact ⟨HVE.out, HVV.out⟩
              · exact HALL.out j u (by omega) hu
            case measure => simp [intOf]; omega
          · have hla : lenAll x C = false := lenAll_fail (List.mem_of_getElem? HG.out) (fun h => h1 (HVE.out.symm.trans h.1))
            have hp := HP.out
            rw [hla] at hp
            simp only [Bool.false_eq_true, if_false] at hp
            obtain rfl : (0, 0, 2) = p := hp
            have q1 : (ve != 0) = true := by simpa using h1
            clear hla h1 HP
            go_wp2_with (first
              | (go_at_call 22; with_reducible refine (HN.out _).mono ?_; clear HN; rintro e w' ⟨rfl, rfl⟩)
              | (go_at_call 22; with_reducible refine (HNX.out _).mono ?_; rintro e w' ⟨rfl, rfl⟩))
            go_ret3
            exact ⟨rfl, hst2⟩
          · have hla : lenAll x C = false := lenAll_fail (List.mem_of_getElem? HG.out) (fun h => h3 (HVV.out.symm.trans (h.2.trans HXV.out)))
            have hp := HP.out
            rw [hla] at hp
            simp only [Bool.false_eq_true, if_false] at hp
            obtain rfl : (0, 0, 2) = p := hp
            have q2 : (vv != xv) = true := by simpa using h3
            clear hla h3 HP
            go_wp2_with (first
              | (go_at_call 22; with_reducible refine (HN.out _).mono ?_; clear HN; rintro e w' ⟨rfl, rfl⟩)
              | (go_at_call 22; with_reducible refine (HNX.out _).mono ?_; rintro e w' ⟨rfl, rfl⟩))
            go_ret3
            exact ⟨rfl, hst2⟩
        · have hin' : ¬ ((i : Int) < (k : Int)) := by omega
          have hla : lenAll x C = true := lenAll_ok (fun j v hv => by
            have h := hall j v (by have := (List.getElem?_eq_some_iff.1 hv).1; have := HK.out; omega) hv
            exact ⟨h.1, h.2.trans HXV.out.symm⟩)
          have hp := HP.out
          rw [hla] at hp
          simp only [if_true] at hp
          clear hla hall HP
          by_cases hm : most < xv
          · rw [if_pos hm] at hp
            obtain rfl : (0, 0, 3) = p := hp
            go_wp2_with (go_at_call 22; with_reducible refine (HNX.out _).mono ?_; rintro e w' ⟨rfl, rfl⟩)
            go_ret3
            exact ⟨rfl, hst2⟩
          · rw [if_neg hm] at hp
            obtain rfl : (1, xv, 0) = p := hp
            go_wp2_with (go_at_call 22; with_reducible refine (HNX.out _).mono ?_; rintro e w' ⟨rfl, rfl⟩)
            go_ret3
            exact ⟨rfl, hst2⟩
  | cons a r =>
    have hp : (if r = [] ∧ cl = [] ∧ lower a = bChunked then ((2 : Int), (0 : Int), (0 : Int)) else (0, 0, 2)) = p := hp
    have hpos : (0 : Int) < ((a :: r).length : Int) := by rw [List.length_cons]; omega
    by_cases hc : cl = []
    · subst hc
      by_cases hr : r = []
      · subst hr
        have HLO := Lib.hid (fun w => rlower_calls a (hsA a List.mem_cons_self) w)
        simp only [List.length_nil, List.length_cons, Nat.zero_add] at HA HC hpos
        unfold bChunked at hp
        by_cases hch : lower a = ⟨#[99, 104, 117, 110, 107, 101, 100]⟩
        · rw [if_pos ⟨rfl, rfl, hch⟩] at hp
          subst hp
          rw [hch] at HLO
          have q1 := bl_eqT ⟨#[99, 104, 117, 110, 107, 101, 100]⟩
          clear hch hsA hsC
          go_enter Tryd.func9, Tryd.ntmps9
          go_wp2_with (first
            | (go_at_call 20; with_reducible refine HA.out.mono ?_; rintro e w1 ⟨A1, c1, rfl, hF1, hs1, _⟩)
            | (go_at_call 20; (with_reducible refine (HC.out _ hs1).mono ?_); rintro e w2 ⟨A2, c2, rfl, hF2, hs2, _⟩; obtain ⟨g1, o1, rfl⟩ := RSeg.isSome (hF1.rd.same hs2) (by omega) (by omega); have a0 := SRd.cells (hF1.rd.same hs2) (j := 0) (e := a) rfl; rw [Nat.add_zero] at a0)
            | (go_at_call 21; refine (HLO.out _).mono ?_; rintro e w3 ⟨rfl, hs3⟩))
          go_ret3
          exact ⟨rfl, (hs1.same hs2).same hs3⟩
        · rw [if_neg (fun h => hch h.2.2)] at hp
          subst hp
          have q1 : ((lower a).toList == [99, 104, 117, 110, 107, 101, 100]) = false := by
            have h := bl_eqF hch
            rw [ByteArray.toList_eq ⟨#[99, 104, 117, 110, 107, 101, 100]⟩] at h
            exact h
          generalize lower a = y at *
          clear hch hsA hsC
          go_enter Tryd.func9, Tryd.ntmps9
          go_wp2_with (first
            | (go_at_call 20; with_reducible refine HA.out.mono ?_; rintro e w1 ⟨A1, c1, rfl, hF1, hs1, _⟩)
            | (go_at_call 20; (with_reducible refine (HC.out _ hs1).mono ?_); rintro e w2 ⟨A2, c2, rfl, hF2, hs2, _⟩; obtain ⟨g1, o1, rfl⟩ := RSeg.isSome (hF1.rd.same hs2) (by omega) (by omega); have a0 := SRd.cells (hF1.rd.same hs2) (j := 0) (e := a) rfl; rw [Nat.add_zero] at a0)
            | (go_at_call 21; refine (HLO.out _).mono ?_; rintro e w3 ⟨rfl, hs3⟩))
          go_ret3
          exact ⟨rfl, (hs1.same hs2).same hs3⟩
      · rw [if_neg (fun h => hr h.1)] at hp
        subst hp
        have hrl : 0 < r.length := List.length_pos_iff.2 hr
        have q1 : (1 : Int) < ((a :: r).length : Int) := by rw [List.length_cons]; omega
        simp only [List.length_nil] at HC
        generalize (a :: r).length = k at *
        clear hr hsA hsC
        go_enter Tryd.func9, Tryd.ntmps9
        go_wp2_with (first
          | (go_at_call 20; with_reducible refine HA.out.mono ?_; rintro e w1 ⟨A1, c1, rfl, hF1, hs1, _⟩)
          | (go_at_call 20; (with_reducible refine (HC.out _ hs1).mono ?_); rintro e w2 ⟨A2, c2, rfl, hF2, hs2, _⟩))
        go_ret3
        exact ⟨rfl, hs1.same hs2⟩
    · rw [if_neg (fun h => hc h.2.1)] at hp
      subst hp
      have hcl : 0 < cl.length := List.length_pos_iff.2 hc
      have q1 : (0 : Int) < (cl.length : Int) := by omega
      generalize (a :: r).length = k at *
      generalize cl.length = k2 at *
      clear hc hsA hsC
      go_enter Tryd.func9, Tryd.ntmps9
      go_wp2_with (first
        | (go_at_call 20; with_reducible refine HA.out.mono ?_; rintro e w1 ⟨A1, c1, rfl, hF1, hs1, _⟩)
        | (go_at_call 20; (with_reducible refine (HC.out _ hs1).mono ?_); rintro e w2 ⟨A2, c2, rfl, hF2, hs2, _⟩))
      go_ret3
      exact ⟨rfl, hs1.same hs2⟩
end Go.Proofs.YtdglbpjgadjnjaaDoor.Fie
