/- pool: the closures, change, Drain, Undrain, Reweight, Take, Give. Own work of this seat. -/
import Derived.Test.YteebahjpoafhmaaPool5
namespace Go.Proofs.Yteebahjpoafhmaa.Pool
open Go.RowKit Go.Proofs.Yteebahjpoafhmaa.Kit Go.Proofs.Yteebahjpoafhmaa.PPoolPlays Go.Proofs.YteebahjpoafhmaaW.PrintWords Go.Proofs.YteebahjpoafhmaaW.PrintLast Go.Proofs.YteebahjpoafhmaaW.PrintMore
set_option linter.unusedVariables false
set_option linter.unusedSimpArgs false

section
variable {w w' : World} {p : Nat} {A : Option Addr} {c : Nat} {l : List S38}
/-- One of the row is put anew. -/
theorem PAt.put {g : Nat} (h : PAt w p (some ⟨g, 0, none⟩) c l) {i : Nat} {x y : S38} (hi : l[i]? = some x) {q : Nat} {u : Value} (hq : q < 5) (hy : (bc x).set q u = bc y) :
    PAt (w.setCell ⟨g, i * 5 + q, none⟩ u) p (some ⟨g, 0, none⟩) c (l.set i y) ∧ PStep p (some ⟨g, 0, none⟩) w (w.setCell ⟨g, i * 5 + q, none⟩ u) := by
  have hs := step_put w g (i * 5 + q) u
  have hb := h.blk.keep hs (fun e => h.ne g rfl e.symm)
  have hseg := h.seg.put hi hq hy
  refine ⟨⟨by rw [List.length_set]; exact hb, by rw [List.length_set]; exact hseg, h.ne⟩, hs.mono (fun k _ e => .inr (by rw [show k = g from e]; rfl))⟩
theorem PAt.free {g : Nat} (h : PAt w p (some ⟨g, 0, none⟩) c l) (j : Nat) : w.frozen? ⟨g, j, none⟩ = false := FSeg.free h.seg j
end

set_option maxRecDepth 100000 in
set_option maxHeartbeats 1000000 in
theorem count_calls {w : World} (n : Int) : Calls Try.prog 25 #[.int .i64 n] w fun e w' => e = .returned (.bool (cntok n)) ∧ Step (fun _ => False) w w' := by
  unfold cntok
  by_cases h1 : 1 ≤ n <;> by_cases h2 : n ≤ 65535
  all_goals
    go_enter Try.func25, Try.ntmps25
    go_wp2
    go_ret
    exact ⟨by simp [h1, h2] <;> omega, Step.refl _ _⟩

set_option maxRecDepth 100000 in
set_option maxHeartbeats 1000000 in
theorem to_calls {w : World} (st : Int) : Calls Try.prog 28 #[.int .i64 st] w fun e w' => ∃ v, e = .returned (.func (.func 42) #[] #[.pointer (some ⟨v, 0, none⟩)]) ∧ Blk w' v 3 [.int .i64 st] ∧ w.heap.size ≤ v ∧ Step (fun _ => False) w w' := by
  go_enter Try.func28, Try.ntmps28
  go_upto_region 1 with (fail)
  refine alloc_next (cs := [.int .i64 st]) ?_
  intro w1 hE hs1
  go_wp2
  go_ret
  exact ⟨_, rfl, hE, Nat.le_refl _, hs1⟩

set_option maxRecDepth 100000 in
set_option maxHeartbeats 1000000 in
theorem to1_calls {w : World} {p g v : Nat} {c : Nat} {l : List S38} {i : Nat} {x : S38} {st : Int} (h : PAt w p (some ⟨g, 0, none⟩) c l) (hi : l[i]? = some x) (hv : Blk w v 3 [.int .i64 st]) :
    Calls Try.prog 42 #[.pointer (some ⟨g, i * 5, none⟩), .pointer (some ⟨v, 0, none⟩)] w fun e w' => e = .returned (.int .i64 0) ∧ PAt w' p (some ⟨g, 0, none⟩) c (l.set i (toS st x)) ∧ PStep p (some ⟨g, 0, none⟩) w w' := by
  have e0 := hv.cell (i := 0) rfl
  obtain ⟨c0, c1, c2, c3, c4⟩ := h.seg.cells hi
  have f3 := h.free (i * 5 + 3)
  go_enter Try.func42, Try.ntmps42
  go_wp2
  go_ret
  exact ⟨rfl, h.put (q := 3) (y := toS st x) hi (by omega) rfl⟩

set_option maxRecDepth 100000 in
set_option maxHeartbeats 1000000 in
theorem rw1_calls {w : World} {p g v : Nat} {c : Nat} {l : List S38} {i : Nat} {x : S38} {st : Int} (hP0 : PAt w p (some ⟨g, 0, none⟩) c l) (hi : l[i]? = some x) (hv : Blk w v 3 [.int .i64 st]) :
    Calls Try.prog 31 #[.pointer (some ⟨g, i * 5, none⟩), .pointer (some ⟨v, 0, none⟩)] w fun e w' => e = .returned (.int .i64 (if cntok st = true then 0 else 1)) ∧ PAt w' p (some ⟨g, 0, none⟩) c (if cntok st = true then l.set i (toW st x) else l) ∧ PStep p (some ⟨g, 0, none⟩) w w' := by
  have HN := count_calls (w := w) st
  generalize cntok st = b at *
  have e0 := hv.cell (i := 0) rfl
  cases b with
  | false =>
    go_enter Try.func31, Try.ntmps31
    go_wp2_with (go_at_call 25; refine HN.mono ?_; rintro e1 w1 ⟨rfl, hs1⟩)
    go_ret
    exact ⟨rfl, hP0.still hs1, pstep_still hs1⟩
  | true =>
    go_enter Try.func31, Try.ntmps31
    go_upto_region 3 with (go_at_call 25; refine HN.mono ?_; rintro e1 w1 ⟨rfl, hs1⟩)
    have h1 := hP0.still hs1
    have d0 := (hv.keep hs1 (fun h => h)).cell (i := 0) rfl
    obtain ⟨c0, c1, c2, c3, c4⟩ := h1.seg.cells hi
    have f1 := h1.free (i * 5 + 1)
    go_wp2
    go_ret
    have hp := h1.put (q := 1) (y := toW st x) hi (by omega) rfl
    exact ⟨rfl, hp.1, (pstep_still hs1).same hp.2⟩


set_option maxRecDepth 100000 in
set_option maxHeartbeats 1000000 in
theorem change_to_calls {w : World} {p v : Nat} {A : Option Addr} {c : Nat} {l : List S38} {st : Int} (h : PAt w p A c l) (hg : Good0 l) (s : ByteArray) (hv : Blk w v 3 [.int .i64 st]) :
    Calls Try.prog 27 #[.pointer (some ⟨p, 0, none⟩), .string s, .func (.func 42) #[] #[.pointer (some ⟨v, 0, none⟩)]] w fun e w' => e = .returned (.int .i64 (chgR l s (toS st)).2) ∧ PAt w' p A c (chgR l s (toS st)).1 ∧ PStep p A w w' := by
  unfold chgR
  have hmax := hg.len
  have HA0 := at_calls h (Nat.le_trans hmax (by omega)) s
  rcases at_cases l s with ⟨h1, h2⟩ | ⟨i, x, hi, h1, h2, h3⟩
  · rw [h2]
    rw [h1] at HA0
    clear h1 h2
    go_enter Try.func27, Try.ntmps27
    go_wp2_with (go_at_call 26; refine HA0.mono ?_; rintro e2 w2 ⟨rfl, hs2⟩)
    go_ret
    exact ⟨rfl, h.still hs2, pstep_still hs2⟩
  · rw [h2]
    rw [h1] at HA0
    have hil : i < l.length := (List.getElem?_eq_some_iff.1 hi).1
    clear h1 h2
    have hpi : ((i : Int) < 0) = False := eq_false (by omega)
    have hlt' : (i : Int) < (l.length : Int) := by omega
    by_cases hx3 : x.f3 = 2
    · have q3 : (x.f3 == 2) = true := by simp [hx3]
      simp only [hx3, if_true]
      go_enter Try.func27, Try.ntmps27
      go_upto_region 2 with (go_at_call 26; refine HA0.mono ?_; rintro e2 w2 ⟨rfl, hs2⟩)
      have h2 := h.still hs2
      have c0 := h2.blk.cell (i := 0) rfl
      obtain ⟨ga, rfl⟩ := h2.seg.one hil
      obtain ⟨d0, d1, d2, d3, d4⟩ := h2.seg.cells hi
      rw [hx3] at d3
      clear hi h3 q3 hx3
      generalize hln : l.length = n at *
      go_wp2
      go_ret
      exact ⟨rfl, h2, pstep_still hs2⟩
    · simp only [if_neg hx3]
      have q3 : (x.f3 == 2) = false := by simp [hx3]
      skip
      all_goals go_enter Try.func27, Try.ntmps27
      all_goals (
      go_upto_region 4 with (first | (go_at_call 26; refine HA0.mono ?_; rintro e2 w2 ⟨rfl, hs2⟩; have h2 := h.still hs2; have c0 := h2.blk.cell (i := 0) rfl; obtain ⟨ga, rfl⟩ := h2.seg.one hil; obtain ⟨d0, d1, d2, d3, d4⟩ := h2.seg.cells hi))
      have HT := to1_calls h2 hi (hv.keep hs2 (fun h => h))
      skip
      go_wp2_with (go_at_call 42; refine HT.mono ?_; rintro e3 w3 ⟨rfl, hP3, hs3⟩)
      go_ret
      exact ⟨rfl, by rw [← set_upd (g := toS st) hg.nd hi h3]; exact hP3, (pstep_still hs2).same hs3⟩)


set_option maxRecDepth 100000 in
set_option maxHeartbeats 1000000 in
theorem change_rw_calls {w : World} {p v : Nat} {A : Option Addr} {c : Nat} {l : List S38} {st : Int} (h : PAt w p A c l) (hg : Good0 l) (s : ByteArray) (hv : Blk w v 3 [.int .i64 st]) :
    Calls Try.prog 27 #[.pointer (some ⟨p, 0, none⟩), .string s, .func (.func 31) #[] #[.pointer (some ⟨v, 0, none⟩)]] w fun e w' => e = .returned (.int .i64 (rewR l s st).2) ∧ PAt w' p A c (rewR l s st).1 ∧ PStep p A w w' := by
  unfold rewR
  have hmax := hg.len
  have HA0 := at_calls h (Nat.le_trans hmax (by omega)) s
  rcases at_cases l s with ⟨h1, h2⟩ | ⟨i, x, hi, h1, h2, h3⟩
  · rw [h2]
    rw [h1] at HA0
    clear h1 h2
    go_enter Try.func27, Try.ntmps27
    go_wp2_with (go_at_call 26; refine HA0.mono ?_; rintro e2 w2 ⟨rfl, hs2⟩)
    go_ret
    exact ⟨rfl, h.still hs2, pstep_still hs2⟩
  · rw [h2]
    rw [h1] at HA0
    have hil : i < l.length := (List.getElem?_eq_some_iff.1 hi).1
    clear h1 h2
    have hpi : ((i : Int) < 0) = False := eq_false (by omega)
    have hlt' : (i : Int) < (l.length : Int) := by omega
    by_cases hx3 : x.f3 = 2
    · have q3 : (x.f3 == 2) = true := by simp [hx3]
      simp only [hx3, if_true]
      go_enter Try.func27, Try.ntmps27
      go_upto_region 2 with (go_at_call 26; refine HA0.mono ?_; rintro e2 w2 ⟨rfl, hs2⟩)
      have h2 := h.still hs2
      have c0 := h2.blk.cell (i := 0) rfl
      obtain ⟨ga, rfl⟩ := h2.seg.one hil
      obtain ⟨d0, d1, d2, d3, d4⟩ := h2.seg.cells hi
      rw [hx3] at d3
      clear hi h3 q3 hx3
      generalize hln : l.length = n at *
      go_wp2
      go_ret
      exact ⟨rfl, h2, pstep_still hs2⟩
    · simp only [if_neg hx3]
      have q3 : (x.f3 == 2) = false := by simp [hx3]
      generalize hcb : cntok st = b
      cases b
      all_goals go_enter Try.func27, Try.ntmps27
      all_goals (
      go_upto_region 4 with (first | (go_at_call 26; refine HA0.mono ?_; rintro e2 w2 ⟨rfl, hs2⟩; have h2 := h.still hs2; have c0 := h2.blk.cell (i := 0) rfl; obtain ⟨ga, rfl⟩ := h2.seg.one hil; obtain ⟨d0, d1, d2, d3, d4⟩ := h2.seg.cells hi))
      have HT := rw1_calls h2 hi (hv.keep hs2 (fun h => h))
      rw [hcb] at HT
      go_wp2_with (go_at_call 31; refine HT.mono ?_; rintro e3 w3 ⟨rfl, hP3, hs3⟩)
      go_ret
      first
        | exact ⟨rfl, hP3, (pstep_still hs2).same hs3⟩
        | exact ⟨rfl, by show PAt _ _ _ _ (Pool.upd s (toW st) l); rw [← set_upd (g := toW st) hg.nd hi h3]; exact hP3, (pstep_still hs2).same hs3⟩)


set_option maxRecDepth 100000 in
set_option maxHeartbeats 1000000 in
theorem drain_calls {w : World} {p : Nat} {A : Option Addr} {c : Nat} {l : List S38} (h : PAt w p A c l) (hg : Good0 l) (s : ByteArray) :
    Calls Try.prog 10 #[.pointer (some ⟨p, 0, none⟩), .string s] w fun e w' => e = .returned (.int .i64 (chgR l s (toS 1)).2) ∧ PAt w' p A c (chgR l s (toS 1)).1 ∧ PStep p A w w' := by
  have HT := to_calls (w := w) 1
  go_enter Try.func10, Try.ntmps10
  go_wp2_with (first | (go_at_call 28; refine HT.mono ?_; rintro e1 w1 ⟨v, rfl, hV, hv, hs1⟩; have HC := change_to_calls (h.still hs1) hg s hV) | (go_at_call 27; refine HC.mono ?_; rintro e2 w2 ⟨rfl, hP2, hs2⟩))
  go_ret
  exact ⟨rfl, hP2, (pstep_still hs1).same hs2⟩


set_option maxRecDepth 100000 in
set_option maxHeartbeats 1000000 in
theorem undrain_calls {w : World} {p : Nat} {A : Option Addr} {c : Nat} {l : List S38} (h : PAt w p A c l) (hg : Good0 l) (s : ByteArray) :
    Calls Try.prog 11 #[.pointer (some ⟨p, 0, none⟩), .string s] w fun e w' => e = .returned (.int .i64 (chgR l s (toS 0)).2) ∧ PAt w' p A c (chgR l s (toS 0)).1 ∧ PStep p A w w' := by
  have HT := to_calls (w := w) 0
  go_enter Try.func11, Try.ntmps11
  go_wp2_with (first | (go_at_call 28; refine HT.mono ?_; rintro e1 w1 ⟨v, rfl, hV, hv, hs1⟩; have HC := change_to_calls (h.still hs1) hg s hV) | (go_at_call 27; refine HC.mono ?_; rintro e2 w2 ⟨rfl, hP2, hs2⟩))
  go_ret
  exact ⟨rfl, hP2, (pstep_still hs1).same hs2⟩


set_option maxRecDepth 100000 in
set_option maxHeartbeats 1000000 in
theorem reweight_calls {w : World} {p : Nat} {A : Option Addr} {c : Nat} {l : List S38} (h : PAt w p A c l) (hg : Good0 l) (s : ByteArray) (n : Int) :
    Calls Try.prog 20 #[.pointer (some ⟨p, 0, none⟩), .string s, .int .i64 n] w fun e w' => e = .returned (.int .i64 (rewR l s n).2) ∧ PAt w' p A c (rewR l s n).1 ∧ PStep p A w w' := by
  go_enter Try.func20, Try.ntmps20
  go_upto_region 1 with (fail)
  refine alloc_next (cs := [.int .i64 n]) ?_
  intro w1 hE hs1
  have HC := change_rw_calls (h.still hs1) hg s hE
  go_wp2_with (go_at_call 27; refine HC.mono ?_; rintro e2 w2 ⟨rfl, hP2, hs2⟩)
  go_ret
  exact ⟨rfl, hP2, (pstep_still hs1).same hs2⟩
end Go.Proofs.Yteebahjpoafhmaa.Pool
