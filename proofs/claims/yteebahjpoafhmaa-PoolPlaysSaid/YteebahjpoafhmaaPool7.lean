/- pool: Remove, Take, Give. Own work of this seat. -/
import Derived.Test.YteebahjpoafhmaaPool6
import Derived.Defers
namespace Go.Proofs.Yteebahjpoafhmaa.Pool
open Go.RowKit Go.Proofs.Yteebahjpoafhmaa.Kit Go.Proofs.Yteebahjpoafhmaa.PPoolPlays Go.Proofs.YteebahjpoafhmaaW.PrintWords Go.Proofs.YteebahjpoafhmaaW.PrintLast Go.Proofs.YteebahjpoafhmaaW.PrintMore
set_option linter.unusedVariables false
set_option linter.unusedSimpArgs false

set_option maxRecDepth 100000 in
set_option maxHeartbeats 1000000 in
theorem sweep_d {w : World} {p : Nat} {A : Option Addr} {c : Nat} {l : List S38} {u : FrameMode} (h : PAt w p A c l) (hmax : l.length ≤ 1000000) :
    CallsD Try.prog 29 #[.pointer (some ⟨p, 0, none⟩)] u w fun e u' w' => u' = u ∧ e = .returned (.tuple #[]) ∧ PAt w' p A c (swept l) ∧ PStep p A w w' := by
  have c0 := h.blk.cell (i := 0) rfl
  have f0 := h.blk.free 0
  have HD := delete_calls h.seg hmax
  go_enter_d Try.func29, Try.ntmps29
  go_wp2_with (go_at_call 43; refine HD.mono ?_; rintro e1 w1 ⟨n1, rfl, hL1, hs1⟩; have hB1 := h.blk.keep hs1 (fun hk => h.ne _ hk rfl); have d0 := hB1.cell (i := 0) rfl; have g0 := hB1.free 0)
  obtain rfl := hL1.len
  have hst : Step (· = p) w1 (w1.setCell ⟨p, 0, none⟩ (.slice A (swept l).length c)) := step_put w1 p 0 _
  go_end0
  exact ⟨rfl, ⟨hB1.set 0 _, hL1.keep hst (fun k hk e => h.ne k hk e), h.ne⟩, (hs1.mono (fun _ _ h => .inr h)).same (hst.mono (fun _ _ h => .inl h))⟩

set_option maxRecDepth 100000 in
set_option maxHeartbeats 1000000 in
theorem remove_calls {w : World} {p : Nat} {A : Option Addr} {c : Nat} {l : List S38} (h : PAt w p A c l) (hg : Good0 l) (s : ByteArray) :
    Calls Try.prog 12 #[.pointer (some ⟨p, 0, none⟩), .string s] w fun e w' => e = .returned (.int .i64 (remR l s).2) ∧ PAt w' p A c (remR l s).1 ∧ PStep p A w w' := by
  have HT := to_calls (w := w) 2
  have hlen : (chgR l s (toS 2)).1.length ≤ 1000000 := Nat.le_trans (chg_good0 hg s 2).len (by omega)
  unfold remR
  generalize hr0 : chgR l s (toS 2) = r at *
  have hr := Lib.hid hr0
  clear hr0
  go_enter_defers Try.func12, Try.ntmps12
  go_wp2_with (first | (go_at_call 28; refine HT.mono ?_; rintro e1 w1 ⟨v, rfl, hV, hv, hs1⟩; have HC := change_to_calls (h.still hs1) hg s hV; rw [hr.out] at HC) | (go_at_call 27; refine HC.mono ?_; rintro e2 w2 ⟨rfl, hP2, hs2⟩))
  try simp only [Exit.inBlock, Exit.then]
  refine leaves_cons (f := 29) (args := #[.pointer (some ⟨p, 0, none⟩)]) (by simp) (by simp [go_sem]) ?_
  refine (sweep_d hP2 hlen).mono ?_
  rintro e3 u3 w3 ⟨rfl, rfl, hP3, hs3⟩
  refine ⟨_, results_tmp rfl _ _ _, rfl, hP3, ((pstep_still hs1).same hs2).same hs3⟩

set_option maxRecDepth 100000 in
set_option maxHeartbeats 1000000 in
theorem take_calls {w : World} {p : Nat} {A : Option Addr} {c : Nat} {l : List S38} (h : PAt w p A c l) (hg : Good0 l) (s : ByteArray) :
    Calls Try.prog 13 #[.pointer (some ⟨p, 0, none⟩), .string s] w fun e w' => e = .returned (.int .i64 (takeR l s).2) ∧ PAt w' p A c (takeR l s).1 ∧ PStep p A w w' := by
  unfold takeR
  have hmax := hg.len
  have HA0 := at_calls h (Nat.le_trans hmax (by omega)) s
  rcases at_cases l s with ⟨h1, h2⟩ | ⟨i, x, hi, h1, h2, h3⟩
  · rw [h2]
    rw [h1] at HA0
    clear h1 h2
    go_enter Try.func13, Try.ntmps13
    go_wp2_with (go_at_call 26; refine HA0.mono ?_; rintro e2 w2 ⟨rfl, hs2⟩)
    go_ret
    exact ⟨rfl, h.still hs2, pstep_still hs2⟩
  · rw [h2]
    rw [h1] at HA0
    have hil : i < l.length := (List.getElem?_eq_some_iff.1 hi).1
    clear h1 h2
    have hpi : ((i : Int) < 0) = False := eq_false (by omega)
    have hlt' : (i : Int) < (l.length : Int) := by omega
    have hnum := hg.num x (List.mem_of_getElem? hi)
    by_cases hx3 : x.f3 = 0
    · by_cases hx4 : x.f2 ≤ x.f4
      · simp only [hx3, hx4, ne_eq, not_true_eq_false, if_true, if_false]
        have q4 : (x.f4 ≥ x.f2) = True := eq_true hx4
        go_enter Try.func13, Try.ntmps13
        go_upto_region 2 with (go_at_call 26; refine HA0.mono ?_; rintro e2 w2 ⟨rfl, hs2⟩)
        have h2 := h.still hs2
        have c0 := h2.blk.cell (i := 0) rfl
        obtain ⟨ga, rfl⟩ := h2.seg.one hil
        obtain ⟨d0, d1, d2, d3, d4⟩ := h2.seg.cells hi
        rw [hx3] at d3
        clear hi h3 hx3 hnum
        generalize hln : l.length = n at *
        go_upto_region 6 with (fail)
        go_quiet (fail)
        go_wp2
        go_ret
        exact ⟨rfl, h2.still ((Step.refl (fun _ => False) w2).drewN _), pstep_still (hs2.drewN _)⟩
      · simp only [hx3, hx4, ne_eq, not_true_eq_false, if_true, if_false]
        have q4 : (x.f4 ≥ x.f2) = False := eq_false hx4
        have hw : wrap64 (x.f4 + 1) = x.f4 + 1 := by unfold wrap64; omega
        have hset := set_upd (g := fun y => toB (y.f4 + 1) y) hg.nd hi h3
        have hy : (bc x).set 4 (.int .i64 (x.f4 + 1)) = bc (toB (x.f4 + 1) x) := rfl
        go_enter Try.func13, Try.ntmps13
        go_upto_region 2 with (go_at_call 26; refine HA0.mono ?_; rintro e2 w2 ⟨rfl, hs2⟩)
        have h2 := h.still hs2
        have c0 := h2.blk.cell (i := 0) rfl
        obtain ⟨ga, rfl⟩ := h2.seg.one hil
        obtain ⟨d0, d1, d2, d3, d4⟩ := h2.seg.cells hi
        have f4 := h2.free (i * 5 + 4)
        have hput : ∀ n, PAt ((w2.drewN n).setCell ⟨ga, i * 5 + 4, none⟩ (.int .i64 (x.f4 + 1))) p (some ⟨ga, 0, none⟩) c (Pool.upd s (fun y => toB (y.f4 + 1) y) l) ∧ PStep p (some ⟨ga, 0, none⟩) w2 ((w2.drewN n).setCell ⟨ga, i * 5 + 4, none⟩ (.int .i64 (x.f4 + 1))) := fun n => by
          have h4 := (h2.still ((Step.refl (fun _ => False) w2).drewN n)).put (q := 4) hi (by omega) hy
          rw [show l.set i (toB (x.f4 + 1) x) = _ from hset] at h4
          exact ⟨h4.1, (pstep_still ((Step.refl (fun _ => False) w2).drewN n)).same h4.2⟩
        rw [hx3] at d3
        have hput := Lib.hid hput
        clear hi h3 hx3 hnum hset hy
        generalize hln : l.length = n at *
        go_upto_region 6 with (fail)
        go_quiet (fail)
        go_wp2
        go_ret
        exact ⟨rfl, (hput.out _).1, (pstep_still hs2).same (hput.out _).2⟩
    · simp only [hx3, ne_eq, not_false_eq_true, if_true]
      have q3 : (x.f3 == 0) = false := by simp [hx3]
      have q3' : (x.f3 != 0) = true := by simp [hx3]
      go_enter Try.func13, Try.ntmps13
      go_upto_region 2 with (go_at_call 26; refine HA0.mono ?_; rintro e2 w2 ⟨rfl, hs2⟩)
      have h2 := h.still hs2
      have c0 := h2.blk.cell (i := 0) rfl
      obtain ⟨ga, rfl⟩ := h2.seg.one hil
      obtain ⟨d0, d1, d2, d3, d4⟩ := h2.seg.cells hi
      clear hi h3 hnum
      generalize hln : l.length = n at *
      go_wp2
      go_ret
      exact ⟨rfl, h2, pstep_still hs2⟩

set_option maxRecDepth 100000 in
set_option maxHeartbeats 1000000 in
theorem give_calls {w : World} {p : Nat} {A : Option Addr} {c : Nat} {l : List S38} (h : PAt w p A c l) (hg : Good0 l) (s : ByteArray) :
    Calls Try.prog 15 #[.pointer (some ⟨p, 0, none⟩), .string s] w fun e w' => e = .returned (.tuple #[.bool (giveR l s).2.1, .int .i64 (giveR l s).2.2]) ∧ PAt w' p A c (giveR l s).1 ∧ PStep p A w w' := by
  unfold giveR
  have hmax := hg.len
  have HA0 := at_calls h (Nat.le_trans hmax (by omega)) s
  rcases at_cases l s with ⟨h1, h2⟩ | ⟨i, x, hi, h1, h2, h3⟩
  · rw [h2]
    rw [h1] at HA0
    clear h1 h2
    go_enter Try.func15, Try.ntmps15
    go_wp2_with (go_at_call 26; refine HA0.mono ?_; rintro e2 w2 ⟨rfl, hs2⟩)
    go_ret2
    exact ⟨rfl, h.still hs2, pstep_still hs2⟩
  · rw [h2]
    rw [h1] at HA0
    have hil : i < l.length := (List.getElem?_eq_some_iff.1 hi).1
    clear h1 h2
    have hpi : ((i : Int) < 0) = False := eq_false (by omega)
    have hlt' : (i : Int) < (l.length : Int) := by omega
    have hnum := hg.num x (List.mem_of_getElem? hi)
    by_cases hx4 : x.f4 = 0
    · simp only [hx4, if_true]
      go_enter Try.func15, Try.ntmps15
      go_upto_region 2 with (go_at_call 26; refine HA0.mono ?_; rintro e2 w2 ⟨rfl, hs2⟩)
      have h2 := h.still hs2
      have c0 := h2.blk.cell (i := 0) rfl
      obtain ⟨ga, rfl⟩ := h2.seg.one hil
      obtain ⟨d0, d1, d2, d3, d4⟩ := h2.seg.cells hi
      rw [hx4] at d4
      clear hi h3 hx4 hnum
      generalize hln : l.length = n at *
      go_wp2
      go_ret2
      exact ⟨rfl, h2, pstep_still hs2⟩
    · simp only [hx4, if_false]
      have q4 : (x.f4 == 0) = false := by simp [hx4]
      have hw : wrap64 (x.f4 - 1) = x.f4 - 1 := by unfold wrap64; omega
      have hset := set_upd (g := fun y => toB (y.f4 - 1) y) hg.nd hi h3
      have hy : (bc x).set 4 (.int .i64 (x.f4 - 1)) = bc (toB (x.f4 - 1) x) := rfl
      have hx' : (Pool.upd s (fun y => toB (y.f4 - 1) y) l)[i]? = some (toB (x.f4 - 1) x) := by
        rw [← hset, List.getElem?_set_self hil]
      have hlen : (Pool.upd s (fun y => toB (y.f4 - 1) y) l).length = l.length := by unfold Pool.upd; rw [List.length_map]
      obtain ⟨b, hb⟩ : ∃ b, (decide (x.f3 ≠ 0) && decide (x.f4 = 1)) = b := ⟨_, rfl⟩
      rw [hb]
      have hb3 : x.f3 = 0 → b = false := fun e => by rw [← hb, e]; rfl
      have hb31 : x.f3 ≠ 0 → x.f4 = 1 → b = true := fun e e1 => by rw [← hb, e1, decide_eq_true e]; rfl
      have hb32 : x.f3 ≠ 0 → x.f4 ≠ 1 → b = false := fun e e1 => by rw [← hb, decide_eq_true e, decide_eq_false e1]; rfl
      go_enter Try.func15, Try.ntmps15
      go_upto_region 2 with (go_at_call 26; refine HA0.mono ?_; rintro e2 w2 ⟨rfl, hs2⟩)
      have h2 := h.still hs2
      have c0 := h2.blk.cell (i := 0) rfl
      obtain ⟨ga, rfl⟩ := h2.seg.one hil
      obtain ⟨d0, d1, d2, d3, d4⟩ := h2.seg.cells hi
      have f4 := h2.free (i * 5 + 4)
      have hput := h2.put (q := 4) hi (by omega) hy
      rw [show l.set i (toB (x.f4 - 1) x) = _ from hset] at hput
      go_upto_region 7 with (fail)
      generalize hwe : w2.setCell ⟨ga, i * 5 + 4, none⟩ (.int .i64 (x.f4 - 1)) = w3 at *
      have c0' := hput.1.blk.cell (i := 0) rfl
      obtain ⟨d0', d1', d2', z3, z4⟩ := hput.1.seg.cells hx'
      rw [hlen] at c0'
      have HS := sweep_calls hput.1 (by omega)
      have d3' : w3.cell? ⟨ga, i * 5 + 3, none⟩ = some (.int .i64 x.f3) := z3
      have d4' : w3.cell? ⟨ga, i * 5 + 4, none⟩ = some (.int .i64 (x.f4 - 1)) := z4
      clear d0 d1 d2 d3 d4 d0' d1' d2' z3 z4 c0 hset hy hx' hi h3 h2
      by_cases hx3 : x.f3 = 0
      · obtain rfl := hb3 hx3
        rw [hx3] at d3'
        have q0 : ((0 : Int) != 0) = false := rfl
        go_wp2_with (go_at_call 29; refine HS.mono ?_; rintro e4 w4 ⟨rfl, hP4, hs4⟩)
        go_ret2
        exact ⟨rfl, hP4, ((pstep_still hs2).same hput.2).same hs4⟩
      · have q3 : (x.f3 == 0) = false := by simp [hx3]
        have q3' : (x.f3 != 0) = true := by simp [hx3]
        by_cases hx1 : x.f4 = 1
        · obtain rfl := hb31 hx3 hx1
          have q1 : (x.f4 - 1 == 0) = true := by simp [hx1]
          rw [show x.f4 - 1 = 0 by omega] at d4'
          go_wp2_with (go_at_call 29; refine HS.mono ?_; rintro e4 w4 ⟨rfl, hP4, hs4⟩)
          go_ret2
          exact ⟨rfl, hP4, ((pstep_still hs2).same hput.2).same hs4⟩
        · obtain rfl := hb32 hx3 hx1
          have q1 : (x.f4 - 1 == 0) = false := by simp; omega
          go_wp2_with (go_at_call 29; refine HS.mono ?_; rintro e4 w4 ⟨rfl, hP4, hs4⟩)
          go_ret2
          exact ⟨rfl, hP4, ((pstep_still hs2).same hput.2).same hs4⟩
end Go.Proofs.Yteebahjpoafhmaa.Pool
