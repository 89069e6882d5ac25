/- framing: of, Request; the document's Of; shout. Own work of this seat; no condition but on lengths. -/
import Derived.Test.YtdglbpjgadjnjaaDoorFrm1
namespace Go.Proofs.YtdglbpjgadjnjaaDoor.Fie
open Go.RowKit Go.Proofs.YtdglbpjgadjnjaaDoor.Kit Go.Proofs.YtdglbpjgadjnjaaDoor.Oct Go.Proofs.YtdglbpjgadjnjaaDoor.Cut
set_option linter.unusedVariables false
set_option linter.unusedSimpArgs false

theorem low_ch : lower bChunked = bChunked := by kernel_rfl
theorem allF_sz {l : List Fd} {k : Nat} (hv : ∀ x ∈ l, x.vl.size ≤ k) (s : ByteArray) : ∀ x ∈ allF l s, x.size ≤ k := by
  intro x hx
  obtain ⟨y, hy, rfl⟩ := allF_mem hx
  exact hv y hy
theorem bl_eqF {a b : ByteArray} (h : a ≠ b) : (a.toList == b.toList) = false := by
  cases e : (a.toList == b.toList) with
  | false => rfl
  | true => exact absurd (toList_eq_of a b e) h
theorem bl_eqT (a : ByteArray) : (a.toList == a.toList) = true := by simp
theorem allF_lenq (l : List Fd) (s : ByteArray) : (allF l s).length ≤ l.length := by
  have := allF_len l s l.length
  rw [List.take_length] at this
  exact this
set_option maxRecDepth 100000 in
set_option maxHeartbeats 4000000 in
theorem fof_calls {w : World} {A : Option Addr} {n c : Nat} {l : List Fd} (h : FRd w A n l) (hA : ∀ k, blockOf A = some k → k < w.heap.size) (hn : n ≤ 1000) (hl : ∀ x ∈ l, x.nm.size ≤ 900000) (hv : ∀ x ∈ l, x.vl.size ≤ 900000) (most wo : Int) :
    Calls Tryd.prog 11 #[.slice A n c, .int .i64 most, .int .i64 wo] w fun e w' => e = .returned (.tuple #[.int .i64 (ofR (allF l bTE) (allF l bCL) most wo).1, .int .i64 (ofR (allF l bTE) (allF l bCL) most wo).2.1, .int .i64 (ofR (allF l bTE) (allF l bCL) most wo).2.2]) ∧ Step (fun _ => False) w w' := by
  have HA := Lib.hid (all_calls (c := c) h hA hn hl bTE (by decide))
  have HC := Lib.hid (fun w' (hs : Step (fun _ => False) w w') => all_calls (c := c) (h.same hs) (fun k hk => Nat.lt_of_lt_of_le (hA k hk) hs.size) hn hl bCL (by decide))
  have hsA := allF_sz hv bTE
  have hsC := allF_sz hv bCL
  have hlA := allF_lenq l bTE
  have hlC := allF_lenq l bCL
  have hln := h.len
  unfold bTE at HA
  unfold bCL at HC
  have eA : allF l ⟨#[84, 114, 97, 110, 115, 102, 101, 114, 45, 69, 110, 99, 111, 100, 105, 110, 103]⟩ = allF l bTE := rfl
  have eC : allF l ⟨#[67, 111, 110, 116, 101, 110, 116, 45, 76, 101, 110, 103, 116, 104]⟩ = allF l bCL := rfl
  rw [eA] at HA
  rw [eC] at HC
  clear eA eC h hA hl hv
  generalize allF l bTE = al at *
  generalize allF l bCL = cl at *
  obtain ⟨p, hp⟩ : ∃ p, ofR al cl most wo = p := ⟨_, rfl⟩
  rw [hp]
  cases al with
  | nil =>
    cases cl with
    | nil =>
      obtain rfl : (wo, 0, 0) = p := hp
      simp only [List.length_nil] at HA HC
      go_enter Tryd.func11, Tryd.ntmps11
      go_wp2_with (first
        | (go_at_call 23; with_reducible refine HA.out.mono ?_; rintro e w1 ⟨A1, c1, rfl, hF1, hs1, _⟩)
        | (go_at_call 23; (with_reducible refine (HC.out _ hs1).mono ?_); rintro e w2 ⟨A2, c2, rfl, hF2, hs2, _⟩))
      go_ret3
      exact ⟨rfl, hs1.same hs2⟩
    | cons x r =>
      have hp : (if (lenR (x :: r) most).2 = 0 then ((1 : Int), (lenR (x :: r) most).1, (0 : Int)) else (0, 0, (lenR (x :: r) most).2)) = p := hp
      have HLN := Lib.hid (fun (w1 : World) (A1 : Option Addr) (c1 : Nat) (h1 : SW w1 A1 (x :: r).length c1 (x :: r)) => length_calls (c := c1) h1.rd (by omega) hsC most)
      have hne : (((x :: r).length : Int) == 0) = false := beq_eq_false_iff_ne.2 (by rw [List.length_cons]; omega)
      obtain ⟨y, hy⟩ : ∃ y, lenR (x :: r) most = y := ⟨_, rfl⟩
      rw [hy] at hp HLN
      obtain ⟨y1, y2⟩ := y
      simp only at hp HLN
      simp only [List.length_nil] at HA
      generalize (x :: r).length = k at *
      clear hy hsC hsA
      by_cases h0 : y2 = 0
      · subst h0
        rw [if_pos rfl] at hp
        subst hp
        go_enter Tryd.func11, Tryd.ntmps11
        go_wp2_with (first
          | (go_at_call 23; with_reducible refine HA.out.mono ?_; rintro e w1 ⟨A1, c1, rfl, hF1, hs1, _⟩)
          | (go_at_call 23; (with_reducible refine (HC.out _ hs1).mono ?_); rintro e w2 ⟨A2, c2, rfl, hF2, hs2, _⟩)
          | (go_at_call 24; with_reducible refine (HLN.out _ _ _ hF2).mono ?_; rintro e w3 ⟨rfl, hs3⟩))
        go_ret3
        exact ⟨rfl, (hs1.same hs2).same hs3⟩
      · rw [if_neg h0] at hp
        subst hp
        have q1 : (y2 != 0) = true := by simpa using h0
        clear h0
        go_enter Tryd.func11, Tryd.ntmps11
        go_wp2_with (first
          | (go_at_call 23; with_reducible refine HA.out.mono ?_; rintro e w1 ⟨A1, c1, rfl, hF1, hs1, _⟩)
          | (go_at_call 23; (with_reducible refine (HC.out _ hs1).mono ?_); rintro e w2 ⟨A2, c2, rfl, hF2, hs2, _⟩)
          | (go_at_call 24; with_reducible refine (HLN.out _ _ _ hF2).mono ?_; rintro e w3 ⟨rfl, hs3⟩))
        go_ret3
        exact ⟨rfl, (hs1.same hs2).same hs3⟩
  | cons a r =>
    have hp : (if r = [] ∧ cl = [] ∧ lower a = bChunked then ((2 : Int), (0 : Int), (0 : Int)) else (0, 0, 2)) = p := hp
    have hne : (((a :: r).length : Int) == 0) = false := beq_eq_false_iff_ne.2 (by rw [List.length_cons]; omega)
    by_cases hr : r = []
    · subst hr
      by_cases hc : cl = []
      · subst hc
        have HFO := Lib.hid (fun w => fold_calls a bChunked (by have := hsA a List.mem_cons_self; omega) (by decide) w)
        rw [low_ch] at HFO
        simp only [List.length_nil, List.length_cons, Nat.zero_add] at HA HC hne
        unfold bChunked at HFO hp
        by_cases hch : lower a = ⟨#[99, 104, 117, 110, 107, 101, 100]⟩
        · rw [if_pos ⟨rfl, rfl, hch⟩] at hp
          subst hp
          rw [hch, bl_eqT] at HFO
          clear hch hsA hsC
          go_enter Tryd.func11, Tryd.ntmps11
          go_wp2_with (first
            | (go_at_call 23; with_reducible refine HA.out.mono ?_; rintro e w1 ⟨A1, c1, rfl, hF1, hs1, _⟩)
            | (go_at_call 23; (with_reducible refine (HC.out _ hs1).mono ?_); rintro e w2 ⟨A2, c2, rfl, hF2, hs2, _⟩; obtain ⟨g1, o1, rfl⟩ := RSeg.isSome (hF1.rd.same hs2) (by omega) (by omega); have a0 := SRd.cells (hF1.rd.same hs2) (j := 0) (e := a) rfl; rw [Nat.add_zero] at a0)
            | (go_at_call 25; refine (HFO.out _).mono ?_; rintro e w3 ⟨rfl, hs3⟩))
          go_ret3
          exact ⟨rfl, (hs1.same hs2).same hs3⟩
        · rw [if_neg (fun h => hch h.2.2)] at hp
          subst hp
          rw [bl_eqF hch] at HFO
          clear hch hsA hsC
          go_enter Tryd.func11, Tryd.ntmps11
          go_wp2_with (first
            | (go_at_call 23; with_reducible refine HA.out.mono ?_; rintro e w1 ⟨A1, c1, rfl, hF1, hs1, _⟩)
            | (go_at_call 23; (with_reducible refine (HC.out _ hs1).mono ?_); rintro e w2 ⟨A2, c2, rfl, hF2, hs2, _⟩; obtain ⟨g1, o1, rfl⟩ := RSeg.isSome (hF1.rd.same hs2) (by omega) (by omega); have a0 := SRd.cells (hF1.rd.same hs2) (j := 0) (e := a) rfl; rw [Nat.add_zero] at a0)
            | (go_at_call 25; refine (HFO.out _).mono ?_; rintro e w3 ⟨rfl, hs3⟩))
          go_ret3
          exact ⟨rfl, (hs1.same hs2).same hs3⟩
      · rw [if_neg (fun h => hc h.2.1)] at hp
        subst hp
        have hcl : 0 < cl.length := List.length_pos_iff.2 hc
        have q1 : (0 : Int) < (cl.length : Int) := by omega
        have q2 : ((cl.length : Int) == 0) = false := beq_eq_false_iff_ne.2 (by omega)
        simp only [List.length_nil, List.length_cons, Nat.zero_add] at HA hne
        generalize cl.length = k at *
        clear hc hsA hsC
        go_enter Tryd.func11, Tryd.ntmps11
        go_wp2_with (first
          | (go_at_call 23; with_reducible refine HA.out.mono ?_; rintro e w1 ⟨A1, c1, rfl, hF1, hs1, _⟩)
          | (go_at_call 23; (with_reducible refine (HC.out _ hs1).mono ?_); rintro e w2 ⟨A2, c2, rfl, hF2, hs2, _⟩))
        go_ret3
        exact ⟨rfl, hs1.same hs2⟩
    · rw [if_neg (fun h => hr h.1)] at hp
      subst hp
      have hrl : 0 < r.length := List.length_pos_iff.2 hr
      have q1 : (1 : Int) < ((a :: r).length : Int) := by rw [List.length_cons]; omega
      generalize (a :: r).length = k at *
      generalize cl.length = k2 at *
      clear hr hsA hsC
      go_enter Tryd.func11, Tryd.ntmps11
      go_wp2_with (first
        | (go_at_call 23; with_reducible refine HA.out.mono ?_; rintro e w1 ⟨A1, c1, rfl, hF1, hs1, _⟩)
        | (go_at_call 23; (with_reducible refine (HC.out _ hs1).mono ?_); rintro e w2 ⟨A2, c2, rfl, hF2, hs2, _⟩))
      go_ret3
      exact ⟨rfl, hs1.same hs2⟩
set_option maxRecDepth 100000 in
theorem request_calls {w : World} {A : Option Addr} {n c : Nat} {l : List Fd} (h : FRd w A n l) (hA : ∀ k, blockOf A = some k → k < w.heap.size) (hn : n ≤ 1000) (hl : ∀ x ∈ l, x.nm.size ≤ 900000) (hv : ∀ x ∈ l, x.vl.size ≤ 900000) (most : Int) :
    Calls Tryd.prog 4 #[.slice A n c, .int .i64 most] w fun e w' => e = .returned (.tuple #[.int .i64 (ofR (allF l bTE) (allF l bCL) most 0).1, .int .i64 (ofR (allF l bTE) (allF l bCL) most 0).2.1, .int .i64 (ofR (allF l bTE) (allF l bCL) most 0).2.2]) ∧ Step (fun _ => False) w w' := by
  have HF := Lib.hid (fof_calls (c := c) h hA hn hl hv most 0)
  generalize ofR (allF l bTE) (allF l bCL) most 0 = p at *
  obtain ⟨p1, p2, p3⟩ := p
  simp only at HF ⊢
  clear h hA hl hv
  go_enter Tryd.func4, Tryd.ntmps4
  go_wp2_with (go_at_call 11; with_reducible refine HF.out.mono ?_; rintro e w1 ⟨rfl, hs1⟩)
  go_ret3
  exact ⟨rfl, hs1⟩
end Go.Proofs.YtdglbpjgadjnjaaDoor.Fie
