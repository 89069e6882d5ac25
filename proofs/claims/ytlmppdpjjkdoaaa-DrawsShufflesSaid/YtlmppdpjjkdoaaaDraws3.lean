/- The numbers handed in: Next, Pick, Two, awake. Own work of this seat. -/
import Derived.Test.YtlmppdpjjkdoaaaDraws2
namespace Go.Proofs.Ytlmppdpjjkdoaaa.Draws
open Go.RowKit Go.Proofs.Ytlmppdpjjkdoaaa.Kit Go.Proofs.Ytlmppdpjjkdoaaa.PDrawsTwo Go.Proofs.YtlmppdpjjkdoaaaW.PrintWords Go.Proofs.YtlmppdpjjkdoaaaW.PrintLast Go.Proofs.YtlmppdpjjkdoaaaW.PrintMore
set_option linter.unusedVariables false
set_option linter.unusedSimpArgs false

/-- How many weren't there, behind one more. -/
def less (xs : List Int) (s : Int) : Int := if xs = [] then s + 1 else s
theorem less_le (xs : List Int) (s : Int) : s ≤ less xs s ∧ less xs s ≤ s + 1 := by unfold less; split <;> omega

set_option maxRecDepth 100000 in
set_option maxHeartbeats 1000000 in
theorem next_calls {base : Nat} {w : World} {p : Nat} {xs : List Int} {s : Int} {A : Option Addr} {n c : Nat} (h : DAt base w p xs s A n c) (hs0 : 0 ≤ s) (hs1 : s ≤ 1000000) (hn : n ≤ 9223372036854775807) (hbw : base ≤ w.heap.size) :
    Calls Try.prog 62 #[.pointer (some ⟨p, 0, none⟩)] w fun e w' => e = .returned (.int .u64 (xs.headD 0)) ∧ DAt base w' p xs.tail (less xs s) A (n - 1) c ∧ Below base w w' ∧ Step (fun k => k = p ∨ blockOf A = some k) w w' := by
  have c0 := h.blk.cell (i := 0) rfl
  have c1 := h.blk.cell (i := 1) rfl
  have f1 := h.blk.free 1
  have hpl := h.blk.lt
  have hbp := h.low
  have hlen := h.len
  have hfar := h.far
  cases xs with
  | nil =>
    obtain rfl : n = 0 := hlen
    go_enter Try.func62, Try.ntmps62
    go_wp2
    go_ret
    have hst : Step (· = p) w (w.setCell ⟨p, 1, none⟩ (.int .i64 (s + 1))) := step_put w p 1 _
    exact ⟨rfl, ⟨hbp, h.blk.set 1 _, h.seg.keep hst (fun k hk e => (h.far k hk).2 e), h.far, h.fits⟩, hst.below (by omega) (fun k e => by have e' : k = p := e; omega), hst.mono (fun j _ e => Or.inl e)⟩
  | cons x r =>
    obtain ⟨g, o, rfl, hx⟩ := h.seg.cell (i := 0) rfl
    have b1 : (0 : Int) < (n : Int) := by simp at hlen; omega
    have b2 : ((n : Int) == 0) = false := by simp; omega
    have b3 : ¬ ((n : Int) = 0) := by omega
    rw [Nat.add_zero] at hx
    have HL := Lib.hid hlen
    clear hlen
    go_enter Try.func62, Try.ntmps62
    go_wp2_with (go_at_call 74; refine (delete_calls h.seg hn).mono ?_; rintro e2 w2 ⟨rfl, hg2, hs2⟩; have hB2 := h.blk.keep hs2 (fun hk => (h.far p hk).2 rfl); have d0 := hB2.cell (i := 0) rfl; have e0 := hB2.free 0)
    have hst : Step (· = p) w2 (w2.setCell ⟨p, 0, none⟩ (.slice (some ⟨g, o, none⟩) (n - 1) c)) := step_put w2 p 0 _
    go_ret
    exact ⟨rfl, ⟨hbp, hB2.set 0 _, hg2.keep hst (fun k hk e => (h.far k hk).2 e), h.far, fun y hy => h.fits y (List.mem_cons_of_mem _ hy)⟩, ((hs2.mono (G := fun k => base ≤ k) (fun j _ hk => (h.far j hk).1)).same (hst.mono (G := fun k => base ≤ k) (fun j _ e => by have e' : j = p := e; omega))).below (by omega) (fun k h => h), (hs2.mono (fun j _ hk => Or.inr hk)).same (hst.mono (fun j _ e => Or.inl e))⟩

theorem head_fits {xs : List Int} (h : Fits xs) : 0 ≤ xs.headD 0 ∧ xs.headD 0 < 18446744073709551616 := by
  cases xs with
  | nil => simp
  | cons x r => exact h x (by simp)
theorem tail_fits {xs : List Int} (h : Fits xs) : Fits xs.tail := fun x hx => h x (List.mem_of_mem_tail hx)

set_option maxRecDepth 100000 in
set_option maxHeartbeats 1000000 in
theorem pick_calls {base : Nat} {w : World} {p : Nat} {xs : List Int} {s : Int} {A : Option Addr} {n c : Nat} (h : DAt base w p xs s A n c) (hs0 : 0 ≤ s) (hs1 : s ≤ 1000000) (hn : n ≤ 9223372036854775807) (hbw : base ≤ w.heap.size) (N : Int) (hN0 : ¬ N < 2) (r : Int) (hr : siphash_Below.f (xs.headD 0) N = some r) :
    Calls Try.prog 60 #[.pointer (some ⟨p, 0, none⟩), .int .i64 N] w fun e w' => e = .returned (.int .i64 r) ∧ DAt base w' p xs.tail (less xs s) A (n - 1) c ∧ Below base w w' ∧ Step (fun k => k = p ∨ blockOf A = some k) w w' := by
  have HN := next_calls h hs0 hs1 hn hbw
  generalize xs.headD 0 = x at *
  generalize less xs s = s' at *
  go_enter Try.func60, Try.ntmps60
  go_wp2_with (first | (go_at_call 62; refine HN.mono ?_; rintro e2 w2 ⟨rfl, hD2, hb2, hst2⟩) | (go_at_call 61; refine (siphash_Below.calls _ _ _ _ hr).mono ?_; rintro e3 w3 ⟨rfl, hb3⟩))
  go_ret
  exact ⟨rfl, hD2.keep (Step.of_below hb3.below), hb2.trans (hb3.below.mono (Nat.le_trans hbw hb2.size)), hst2.then_below hb3.below⟩

set_option maxRecDepth 100000 in
set_option maxHeartbeats 1000000 in
theorem two_calls {base : Nat} {w : World} {p : Nat} {xs : List Int} {s : Int} {A : Option Addr} {n c : Nat} (h : DAt base w p xs s A n c) (hs0 : 0 ≤ s) (hs1 : s ≤ 100000) (hn : n ≤ 9223372036854775807) (hbw : base ≤ w.heap.size) (N : Int) (hN0 : ¬ N < 2) (hN1 : N ≤ 9223372036854775807) (a b : Int) (ha : siphash_Below.f (xs.headD 0) N = some a) (hb : siphash_Below.f (xs.tail.headD 0) (N - 1) = some b) (a0 : 0 ≤ a) (a1 : a < N) (b0 : 0 ≤ b) (b1 : b < N - 1) :
    Calls Try.prog 37 #[.pointer (some ⟨p, 0, none⟩), .int .i64 N] w fun e w' => e = .returned (.tuple #[.int .i64 a, .int .i64 (if a ≤ b then b + 1 else b)]) ∧ Below base w w' := by
  have hle := less_le xs s
  have HP := pick_calls h hs0 (by omega) hn hbw N hN0 a ha
  generalize less xs s = s' at *
  generalize xs.tail = ys at *
  have HN : ∀ w', DAt base w' p ys s' A (n - 1) c → base ≤ w'.heap.size → Calls Try.prog 62 #[.pointer (some ⟨p, 0, none⟩)] w' fun e w'' => e = .returned (.int .u64 (ys.headD 0)) ∧ Below base w' w'' := fun w' hD hw => (next_calls hD (by omega) (by omega) (by omega) hw).mono fun e w'' ⟨h1, _, h3, _⟩ => ⟨h1, h3⟩
  generalize ys.headD 0 = y at *
  have HN' := Lib.hid HN
  clear HN
  go_enter Try.func37, Try.ntmps37
  go_wp2_with (first | (go_at_call 60; refine HP.mono ?_; rintro e1 w1 ⟨rfl, hD1, hb1, _⟩) | (go_at_call 62; refine (HN'.out _ hD1 (Nat.le_trans hbw hb1.size)).mono ?_; rintro e2 w2 ⟨rfl, hb2⟩) | (go_at_call 61; refine (siphash_Below.calls _ _ _ _ hb).mono ?_; rintro e3 w3 ⟨rfl, hb3⟩))
  all_goals
    go_ret2
    refine ⟨?_, (hb1.trans hb2).trans (hb3.below.mono (Nat.le_trans hbw (hb1.trans hb2).size))⟩
    first | rfl | (rw [if_pos (by omega)]; rfl) | (rw [if_neg (by omega)]; rfl)

set_option maxRecDepth 100000 in
set_option maxHeartbeats 1000000 in
theorem two_small_calls (w : World) (p : Nat) (N : Int) (hN0 : N < 2) :
    Calls Try.prog 37 #[.pointer (some ⟨p, 0, none⟩), .int .i64 N] w fun e w' => e = .returned (.tuple #[.int .i64 0, .int .i64 0]) ∧ w' = w := by
  go_enter Try.func37, Try.ntmps37
  go_wp2
  go_ret2
  exact ⟨rfl, rfl⟩

set_option maxRecDepth 100000 in
set_option maxHeartbeats 1000000 in
theorem awake_calls (w : World) : Calls Try.prog 34 #[] w fun e w' => e = .returned (.bool true) ∧ Below w.heap.size w w' := by
  have h1 : siphash_Below.f 9223372036854775808 10 = some 5 := by decide +kernel
  have h2 : siphash_Below.f 0 10 = some 0 := by decide +kernel
  have hfit : Fits [9223372036854775808] := by intro x hx; obtain rfl := List.mem_singleton.1 hx; omega
  go_enter Try.func34, Try.ntmps34
  go_upto_region 4 with (first | (go_at_call 35; refine (new_calls _).mono ?_; rintro e1 w1 ⟨p, rfl, hD1, hb1⟩))
  have HPU := push_calls (hD1.keep (Step.alloc (Step.refl (fun _ => False) w1) (.cells #[Value.int .u64 9223372036854775808] 76))) (ys := [9223372036854775808]) (m := 1) (cB := 1) (((blk_new w1 [.int .u64 9223372036854775808] 76).seg (n := 1) rfl).src) hfit (by decide)
  go_wp2_with (first | (go_at_call 36; refine HPU.mono ?_; rintro e2 w2 ⟨rfl, ⟨A2, c2, hD2⟩, hb2⟩; have hw2 := Nat.le_trans hb1.size (Nat.le_trans (Step.alloc (Step.refl (fun _ => False) w1) (.cells #[Value.int .u64 9223372036854775808] 76)).size hb2.size)) | (go_at_call 59; refine (left_calls hD2 (by omega)).mono ?_; rintro e3 w3 ⟨rfl, rfl⟩) | (go_at_call 60; refine (pick_calls hD2 (by omega) (by omega) (by omega) hw2 10 (by omega) 5 h1).mono ?_; rintro e4 w4 ⟨rfl, hD4, hb4, _⟩) | (go_at_call 60; refine (pick_calls hD4 (by decide) (by decide) (by omega) (Nat.le_trans hw2 hb4.size) 10 (by omega) 0 h2).mono ?_; rintro e5 w5 ⟨rfl, hD5, hb5, _⟩) | (go_at_call 38; refine (short_calls hD5).mono ?_; rintro e6 w6 ⟨rfl, rfl⟩))
  have hls : less [] (less [9223372036854775808] 0) = 1 := by
    rw [show less [9223372036854775808] 0 = 0 from if_neg (List.cons_ne_nil _ _)]; rfl
  rw [hls]
  go_ret
  exact ⟨rfl, (((hb1.alloc hb1.size _).trans hb2).trans hb4).trans hb5⟩
end Go.Proofs.Ytlmppdpjjkdoaaa.Draws
