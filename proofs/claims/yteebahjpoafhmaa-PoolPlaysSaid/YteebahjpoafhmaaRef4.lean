/- the document's Change and Add. Own work of this seat. -/
import Derived.Test.YteebahjpoafhmaaRef3
import Derived.Test.YteebahjpoafhmaaPoolN
namespace Go.Proofs.Yteebahjpoafhmaa.Pool
open Go.RowKit Go.Proofs.Yteebahjpoafhmaa.Kit Go.Proofs.Yteebahjpoafhmaa.PPoolPlays Go.Proofs.YteebahjpoafhmaaW.PrintWords Go.Proofs.YteebahjpoafhmaaW.PrintLast Go.Proofs.YteebahjpoafhmaaW.PrintMore
set_option linter.unusedVariables false
set_option linter.unusedSimpArgs false

theorem remR_none {l : List S38} {s : ByteArray} (hg : Good l) (h : l.find? (named s) = none) : remR l s = (l, 6) := by unfold remR; rw [chgR_none h]; simp only [swept_good hg]
theorem remR_gone {l : List S38} {s : ByteArray} {x : S38} (hg : Good l) (h : l.find? (named s) = some x) (h3 : x.f3 = 2) : remR l s = (l, 6) := by unfold remR; rw [chgR_gone h h3]; simp only [swept_good hg]
theorem remR_0 {l : List S38} {s : ByteArray} {x : S38} (h : l.find? (named s) = some x) (h3 : x.f3 ≠ 2) : remR l s = (swept (upd s (toS 2) l), 0) := by unfold remR; rw [chgR_0 h h3]
theorem cntok_cases (n : Int) : (cntok n = true ∧ (n < 1) = False ∧ (n > 65535) = False) ∨ (cntok n = false ∧ (n < 1) = True) ∨ (cntok n = false ∧ (n < 1) = False ∧ (n > 65535) = True) := by
  unfold cntok
  by_cases h1 : n < 1
  · exact .inr (.inl ⟨by rw [decide_eq_false (by omega)]; rfl, eq_true h1⟩)
  · by_cases h2 : n > 65535
    · exact .inr (.inr ⟨by rw [decide_eq_false (by omega : ¬ n ≤ 65535), Bool.and_false], eq_false h1, eq_true h2⟩)
    · exact .inl ⟨by rw [decide_eq_true (by omega : 1 ≤ n), decide_eq_true (by omega : n ≤ 65535)]; rfl, eq_false h1, eq_false h2⟩

set_option maxRecDepth 100000 in
set_option maxHeartbeats 4000000 in
theorem rchange1_calls {w : World} {A : Option Addr} {c : Nat} {l : List S38} (h : RRow w A l.length c l) (hg : Good l) (s : ByteArray) (wt : Int) :
    Calls Try.prog 33 #[.slice A l.length c, .int .i64 1, .string s, .int .i64 wt] w fun e w' => ∃ A' c', e = .returned (.tuple #[.slice A' (chgR l s (toS 1)).1.length c', .int .i64 (chgR l s (toS 1)).2]) ∧ Out w w' A c A' c' (chgR l s (toS 1)).1 := by
  have hmax := hg.len
  obtain ⟨x0, x1, x2, x3, x4, hx, HF⟩ := rfind_open h hmax s
  cases hf : l.find? (named s) with
  | none =>
    rw [chgR_none hf (toS 1)]
    rw [getB_none hf] at HF
    clear hx hf
    obtain ⟨n, hln0⟩ : ∃ n, l.length = n := ⟨_, rfl⟩
    have hln := Lib.hid hln0
    rw [hln0] at h HF hmax
    simp only [hln0]
    clear hln0
    go_enter Try.func33, Try.ntmps33
    go_wp2_with (go_at_call 46; refine HF.mono ?_; rintro e1 w1 ⟨rfl, hs1⟩)
    go_ret2
    exact ⟨A, c, rfl, out_same (by rw [hln.out]; exact h) (hs1.same ((Step.refl _ _).alloc _))⟩
  | some x =>
    obtain rfl := hx x hf
    rw [getB_some hf] at HF
    obtain ⟨hxm, hxs⟩ := find_mem hf
    have hnum := hg.num _ hxm
    have hnum : 0 ≤ x4 ∧ x4 ≤ x2 ∧ x2 ≤ 65535 := hnum
    clear hx
    have hgt := chg_good hg s 1 (by decide)
    by_cases h32 : x3 = 2
    · subst h32
      rw [chgR_gone hf rfl (toS 1)]
      clear hgt hf hxm hxs
      obtain ⟨n, hln0⟩ : ∃ n, l.length = n := ⟨_, rfl⟩
      have hln := Lib.hid hln0
      rw [hln0] at h HF hmax
      try simp only [hln0]
      clear hln0
      go_enter Try.func33, Try.ntmps33
      go_upto_region 2 with (go_at_call 46; refine HF.mono ?_; rintro e1 w1 ⟨rfl, hs1⟩)
      refine alloc_next (cs := [.string x0, .int .i64 x1, .int .i64 x2, .int .i64 2, .int .i64 x4]) ?_
      intro w2 hE hs2
      have hwE : w.heap.size ≤ w1.heap.size := hs1.size
      have h2 := (h.keep hs1 (fun _ _ h => h)).keep hs2 (fun _ _ h => h)
      have hs := hs1.same hs2
      have hAE : ∀ k, blockOf A = some k → k ≠ w1.heap.size := fun k hk => by have := (h.keep hs1 (fun _ _ h => h)).lt hk; omega
      clear HF hs1 hs2
      generalize w1.heap.size = eb at *
      have e1 := hE.cell (i := 1) rfl
      have e2 := hE.cell (i := 2) rfl
      have e3 := hE.cell (i := 3) rfl
      have e4 := hE.cell (i := 4) rfl
      go_wp2
      go_ret2
      exact ⟨A, c, rfl, out_same (by rw [hln.out]; exact h) hs⟩
    · rw [chgR_0 hf h32 (toS 1)] at hgt ⊢
      have q32 : (x3 == 2) = false := by simp [h32]
      have hpr := Lib.hid (show putR l ⟨x0, x1, x2, 1, x4⟩ = upd s (toS 1) l from (putR_is hg.toGood0 hf (g := toS 1) (y := ⟨x0, x1, x2, 1, x4⟩) rfl rfl hnum.1).trans (swept_good hgt))
      obtain ⟨l', hl'⟩ : ∃ l', upd s (toS 1) l = l' := ⟨_, rfl⟩
      simp only [hl'] at hpr hgt ⊢
      clear hl' hf hxm hxs
      obtain ⟨n, hln0⟩ : ∃ n, l.length = n := ⟨_, rfl⟩
      have hln := Lib.hid hln0
      rw [hln0] at h HF hmax
      try simp only [hln0]
      clear hln0
      go_enter Try.func33, Try.ntmps33
      go_upto_region 2 with (go_at_call 46; refine HF.mono ?_; rintro e1 w1 ⟨rfl, hs1⟩)
      refine alloc_next (cs := [.string x0, .int .i64 x1, .int .i64 x2, .int .i64 x3, .int .i64 x4]) ?_
      intro w2 hE hs2
      have hwE : w.heap.size ≤ w1.heap.size := hs1.size
      have h2 := (h.keep hs1 (fun _ _ h => h)).keep hs2 (fun _ _ h => h)
      have hs := hs1.same hs2
      have hAE : ∀ k, blockOf A = some k → k ≠ w1.heap.size := fun k hk => by have := (h.keep hs1 (fun _ _ h => h)).lt hk; omega
      clear HF hs1 hs2
      generalize w1.heap.size = eb at *
      have e1 := hE.cell (i := 1) rfl
      have e2 := hE.cell (i := 2) rfl
      have e3 := hE.cell (i := 3) rfl
      have e4 := hE.cell (i := 4) rfl
      have f3 := hE.free 3
      have hnn : n ≤ 500000 := by omega
      go_upto_region 14 with (fail)
      have hst3 := step_put w2 eb 3 (.int .i64 1)
      have hE3 := hE.set 3 (.int .i64 1)
      have h3 := h2.keep hst3 (fun k hk e => hAE k hk e)
      have hs3 := hs.trans hst3 (fun j hj e => by omega)
      clear e1 e2 e3 e4 f3 hst3
      generalize w2.setCell ⟨eb, 3, none⟩ (.int .i64 1) = w3 at *
      have g0 := hE3.cell (i := 0) rfl
      have g1 := hE3.cell (i := 1) rfl
      have g2 := hE3.cell (i := 2) rfl
      have g3 := hE3.cell (i := 3) rfl
      have g4 := hE3.cell (i := 4) rfl
      have HP0 := put_calls h3 hnn x0 x1 x2 1 x4
      rw [hpr.out] at HP0
      go_wp2_with (go_at_call 47; refine HP0.mono ?_; rintro e4 w4 ⟨A4, c4, rfl, hR4, hn4, hs4⟩)
      go_ret2
      exact ⟨A4, c4, rfl, hR4, .inr (fun k hk => Nat.le_trans hs3.size (hn4 k hk)), hs3.same hs4⟩

set_option maxRecDepth 100000 in
set_option maxHeartbeats 4000000 in
theorem rchange2_calls {w : World} {A : Option Addr} {c : Nat} {l : List S38} (h : RRow w A l.length c l) (hg : Good l) (s : ByteArray) (wt : Int) :
    Calls Try.prog 33 #[.slice A l.length c, .int .i64 2, .string s, .int .i64 wt] w fun e w' => ∃ A' c', e = .returned (.tuple #[.slice A' (chgR l s (toS 0)).1.length c', .int .i64 (chgR l s (toS 0)).2]) ∧ Out w w' A c A' c' (chgR l s (toS 0)).1 := by
  have hmax := hg.len
  obtain ⟨x0, x1, x2, x3, x4, hx, HF⟩ := rfind_open h hmax s
  cases hf : l.find? (named s) with
  | none =>
    rw [chgR_none hf (toS 0)]
    rw [getB_none hf] at HF
    clear hx hf
    obtain ⟨n, hln0⟩ : ∃ n, l.length = n := ⟨_, rfl⟩
    have hln := Lib.hid hln0
    rw [hln0] at h HF hmax
    simp only [hln0]
    clear hln0
    go_enter Try.func33, Try.ntmps33
    go_wp2_with (go_at_call 46; refine HF.mono ?_; rintro e1 w1 ⟨rfl, hs1⟩)
    go_ret2
    exact ⟨A, c, rfl, out_same (by rw [hln.out]; exact h) (hs1.same ((Step.refl _ _).alloc _))⟩
  | some x =>
    obtain rfl := hx x hf
    rw [getB_some hf] at HF
    obtain ⟨hxm, hxs⟩ := find_mem hf
    have hnum := hg.num _ hxm
    have hnum : 0 ≤ x4 ∧ x4 ≤ x2 ∧ x2 ≤ 65535 := hnum
    clear hx
    have hgt := chg_good hg s 0 (by decide)
    by_cases h32 : x3 = 2
    · subst h32
      rw [chgR_gone hf rfl (toS 0)]
      clear hgt hf hxm hxs
      obtain ⟨n, hln0⟩ : ∃ n, l.length = n := ⟨_, rfl⟩
      have hln := Lib.hid hln0
      rw [hln0] at h HF hmax
      try simp only [hln0]
      clear hln0
      go_enter Try.func33, Try.ntmps33
      go_upto_region 2 with (go_at_call 46; refine HF.mono ?_; rintro e1 w1 ⟨rfl, hs1⟩)
      refine alloc_next (cs := [.string x0, .int .i64 x1, .int .i64 x2, .int .i64 2, .int .i64 x4]) ?_
      intro w2 hE hs2
      have hwE : w.heap.size ≤ w1.heap.size := hs1.size
      have h2 := (h.keep hs1 (fun _ _ h => h)).keep hs2 (fun _ _ h => h)
      have hs := hs1.same hs2
      have hAE : ∀ k, blockOf A = some k → k ≠ w1.heap.size := fun k hk => by have := (h.keep hs1 (fun _ _ h => h)).lt hk; omega
      clear HF hs1 hs2
      generalize w1.heap.size = eb at *
      have e1 := hE.cell (i := 1) rfl
      have e2 := hE.cell (i := 2) rfl
      have e3 := hE.cell (i := 3) rfl
      have e4 := hE.cell (i := 4) rfl
      go_wp2
      go_ret2
      exact ⟨A, c, rfl, out_same (by rw [hln.out]; exact h) hs⟩
    · rw [chgR_0 hf h32 (toS 0)] at hgt ⊢
      have q32 : (x3 == 2) = false := by simp [h32]
      have hpr := Lib.hid (show putR l ⟨x0, x1, x2, 0, x4⟩ = upd s (toS 0) l from (putR_is hg.toGood0 hf (g := toS 0) (y := ⟨x0, x1, x2, 0, x4⟩) rfl rfl hnum.1).trans (swept_good hgt))
      obtain ⟨l', hl'⟩ : ∃ l', upd s (toS 0) l = l' := ⟨_, rfl⟩
      simp only [hl'] at hpr hgt ⊢
      clear hl' hf hxm hxs
      obtain ⟨n, hln0⟩ : ∃ n, l.length = n := ⟨_, rfl⟩
      have hln := Lib.hid hln0
      rw [hln0] at h HF hmax
      try simp only [hln0]
      clear hln0
      go_enter Try.func33, Try.ntmps33
      go_upto_region 2 with (go_at_call 46; refine HF.mono ?_; rintro e1 w1 ⟨rfl, hs1⟩)
      refine alloc_next (cs := [.string x0, .int .i64 x1, .int .i64 x2, .int .i64 x3, .int .i64 x4]) ?_
      intro w2 hE hs2
      have hwE : w.heap.size ≤ w1.heap.size := hs1.size
      have h2 := (h.keep hs1 (fun _ _ h => h)).keep hs2 (fun _ _ h => h)
      have hs := hs1.same hs2
      have hAE : ∀ k, blockOf A = some k → k ≠ w1.heap.size := fun k hk => by have := (h.keep hs1 (fun _ _ h => h)).lt hk; omega
      clear HF hs1 hs2
      generalize w1.heap.size = eb at *
      have e1 := hE.cell (i := 1) rfl
      have e2 := hE.cell (i := 2) rfl
      have e3 := hE.cell (i := 3) rfl
      have e4 := hE.cell (i := 4) rfl
      have f3 := hE.free 3
      have hnn : n ≤ 500000 := by omega
      go_upto_region 14 with (fail)
      have hst3 := step_put w2 eb 3 (.int .i64 0)
      have hE3 := hE.set 3 (.int .i64 0)
      have h3 := h2.keep hst3 (fun k hk e => hAE k hk e)
      have hs3 := hs.trans hst3 (fun j hj e => by omega)
      clear e1 e2 e3 e4 f3 hst3
      generalize w2.setCell ⟨eb, 3, none⟩ (.int .i64 0) = w3 at *
      have g0 := hE3.cell (i := 0) rfl
      have g1 := hE3.cell (i := 1) rfl
      have g2 := hE3.cell (i := 2) rfl
      have g3 := hE3.cell (i := 3) rfl
      have g4 := hE3.cell (i := 4) rfl
      have HP0 := put_calls h3 hnn x0 x1 x2 0 x4
      rw [hpr.out] at HP0
      go_wp2_with (go_at_call 47; refine HP0.mono ?_; rintro e4 w4 ⟨A4, c4, rfl, hR4, hn4, hs4⟩)
      go_ret2
      exact ⟨A4, c4, rfl, hR4, .inr (fun k hk => Nat.le_trans hs3.size (hn4 k hk)), hs3.same hs4⟩

set_option maxRecDepth 100000 in
set_option maxHeartbeats 4000000 in
theorem rchange3_calls {w : World} {A : Option Addr} {c : Nat} {l : List S38} (h : RRow w A l.length c l) (hg : Good l) (s : ByteArray) (wt : Int) :
    Calls Try.prog 33 #[.slice A l.length c, .int .i64 3, .string s, .int .i64 wt] w fun e w' => ∃ A' c', e = .returned (.tuple #[.slice A' (remR l s).1.length c', .int .i64 (remR l s).2]) ∧ Out w w' A c A' c' (remR l s).1 := by
  have hmax := hg.len
  obtain ⟨x0, x1, x2, x3, x4, hx, HF⟩ := rfind_open h hmax s
  cases hf : l.find? (named s) with
  | none =>
    rw [remR_none hg hf]
    rw [getB_none hf] at HF
    clear hx hf
    obtain ⟨n, hln0⟩ : ∃ n, l.length = n := ⟨_, rfl⟩
    have hln := Lib.hid hln0
    rw [hln0] at h HF hmax
    simp only [hln0]
    clear hln0
    go_enter Try.func33, Try.ntmps33
    go_wp2_with (go_at_call 46; refine HF.mono ?_; rintro e1 w1 ⟨rfl, hs1⟩)
    go_ret2
    exact ⟨A, c, rfl, out_same (by rw [hln.out]; exact h) (hs1.same ((Step.refl _ _).alloc _))⟩
  | some x =>
    obtain rfl := hx x hf
    rw [getB_some hf] at HF
    obtain ⟨hxm, hxs⟩ := find_mem hf
    have hnum := hg.num _ hxm
    have hnum : 0 ≤ x4 ∧ x4 ≤ x2 ∧ x2 ≤ 65535 := hnum
    clear hx
    have hgt := rem_good hg s
    by_cases h32 : x3 = 2
    · subst h32
      rw [remR_gone hg hf rfl]
      clear hgt hf hxm hxs
      obtain ⟨n, hln0⟩ : ∃ n, l.length = n := ⟨_, rfl⟩
      have hln := Lib.hid hln0
      rw [hln0] at h HF hmax
      try simp only [hln0]
      clear hln0
      go_enter Try.func33, Try.ntmps33
      go_upto_region 2 with (go_at_call 46; refine HF.mono ?_; rintro e1 w1 ⟨rfl, hs1⟩)
      refine alloc_next (cs := [.string x0, .int .i64 x1, .int .i64 x2, .int .i64 2, .int .i64 x4]) ?_
      intro w2 hE hs2
      have hwE : w.heap.size ≤ w1.heap.size := hs1.size
      have h2 := (h.keep hs1 (fun _ _ h => h)).keep hs2 (fun _ _ h => h)
      have hs := hs1.same hs2
      have hAE : ∀ k, blockOf A = some k → k ≠ w1.heap.size := fun k hk => by have := (h.keep hs1 (fun _ _ h => h)).lt hk; omega
      clear HF hs1 hs2
      generalize w1.heap.size = eb at *
      have e1 := hE.cell (i := 1) rfl
      have e2 := hE.cell (i := 2) rfl
      have e3 := hE.cell (i := 3) rfl
      have e4 := hE.cell (i := 4) rfl
      go_wp2
      go_ret2
      exact ⟨A, c, rfl, out_same (by rw [hln.out]; exact h) hs⟩
    · rw [remR_0 hf h32] at hgt ⊢
      have q32 : (x3 == 2) = false := by simp [h32]
      have hpr := Lib.hid (show putR l ⟨x0, x1, x2, 2, x4⟩ = swept (upd s (toS 2) l) from putR_is hg.toGood0 hf (g := toS 2) (y := ⟨x0, x1, x2, 2, x4⟩) rfl rfl hnum.1)
      obtain ⟨l', hl'⟩ : ∃ l', swept (upd s (toS 2) l) = l' := ⟨_, rfl⟩
      simp only [hl'] at hpr hgt ⊢
      clear hl' hf hxm hxs
      obtain ⟨n, hln0⟩ : ∃ n, l.length = n := ⟨_, rfl⟩
      have hln := Lib.hid hln0
      rw [hln0] at h HF hmax
      try simp only [hln0]
      clear hln0
      go_enter Try.func33, Try.ntmps33
      go_upto_region 2 with (go_at_call 46; refine HF.mono ?_; rintro e1 w1 ⟨rfl, hs1⟩)
      refine alloc_next (cs := [.string x0, .int .i64 x1, .int .i64 x2, .int .i64 x3, .int .i64 x4]) ?_
      intro w2 hE hs2
      have hwE : w.heap.size ≤ w1.heap.size := hs1.size
      have h2 := (h.keep hs1 (fun _ _ h => h)).keep hs2 (fun _ _ h => h)
      have hs := hs1.same hs2
      have hAE : ∀ k, blockOf A = some k → k ≠ w1.heap.size := fun k hk => by have := (h.keep hs1 (fun _ _ h => h)).lt hk; omega
      clear HF hs1 hs2
      generalize w1.heap.size = eb at *
      have e1 := hE.cell (i := 1) rfl
      have e2 := hE.cell (i := 2) rfl
      have e3 := hE.cell (i := 3) rfl
      have e4 := hE.cell (i := 4) rfl
      have f3 := hE.free 3
      have hnn : n ≤ 500000 := by omega
      go_upto_region 14 with (fail)
      have hst3 := step_put w2 eb 3 (.int .i64 2)
      have hE3 := hE.set 3 (.int .i64 2)
      have h3 := h2.keep hst3 (fun k hk e => hAE k hk e)
      have hs3 := hs.trans hst3 (fun j hj e => by omega)
      clear e1 e2 e3 e4 f3 hst3
      generalize w2.setCell ⟨eb, 3, none⟩ (.int .i64 2) = w3 at *
      have g0 := hE3.cell (i := 0) rfl
      have g1 := hE3.cell (i := 1) rfl
      have g2 := hE3.cell (i := 2) rfl
      have g3 := hE3.cell (i := 3) rfl
      have g4 := hE3.cell (i := 4) rfl
      have HP0 := put_calls h3 hnn x0 x1 x2 2 x4
      rw [hpr.out] at HP0
      go_wp2_with (go_at_call 47; refine HP0.mono ?_; rintro e4 w4 ⟨A4, c4, rfl, hR4, hn4, hs4⟩)
      go_ret2
      exact ⟨A4, c4, rfl, hR4, .inr (fun k hk => Nat.le_trans hs3.size (hn4 k hk)), hs3.same hs4⟩

set_option maxRecDepth 100000 in
set_option maxHeartbeats 4000000 in
theorem rchange0w_calls {w : World} {A : Option Addr} {c : Nat} {l : List S38} (h : RRow w A l.length c l) (hg : Good l) (s : ByteArray) (wt : Int) :
    Calls Try.prog 33 #[.slice A l.length c, .int .i64 0, .string s, .int .i64 wt] w fun e w' => ∃ A' c', e = .returned (.tuple #[.slice A' (rewR l s wt).1.length c', .int .i64 (rewR l s wt).2]) ∧ Out w w' A c A' c' (rewR l s wt).1 := by
  have hmax := hg.len
  obtain ⟨x0, x1, x2, x3, x4, hx, HF⟩ := rfind_open h hmax s
  cases hf : l.find? (named s) with
  | none =>
    rw [rewR_none hf wt]
    rw [getB_none hf] at HF
    clear hx hf
    obtain ⟨n, hln0⟩ : ∃ n, l.length = n := ⟨_, rfl⟩
    have hln := Lib.hid hln0
    rw [hln0] at h HF hmax
    simp only [hln0]
    clear hln0
    go_enter Try.func33, Try.ntmps33
    go_wp2_with (go_at_call 46; refine HF.mono ?_; rintro e1 w1 ⟨rfl, hs1⟩)
    go_ret2
    exact ⟨A, c, rfl, out_same (by rw [hln.out]; exact h) (hs1.same ((Step.refl _ _).alloc _))⟩
  | some x =>
    obtain rfl := hx x hf
    rw [getB_some hf] at HF
    obtain ⟨hxm, hxs⟩ := find_mem hf
    have hnum := hg.num _ hxm
    have hnum : 0 ≤ x4 ∧ x4 ≤ x2 ∧ x2 ≤ 65535 := hnum
    clear hx
    have hgt := rew_good hg s wt
    by_cases h32 : x3 = 2
    · subst h32
      rw [rewR_gone hf rfl wt]
      clear hgt hf hxm hxs
      obtain ⟨n, hln0⟩ : ∃ n, l.length = n := ⟨_, rfl⟩
      have hln := Lib.hid hln0
      rw [hln0] at h HF hmax
      try simp only [hln0]
      clear hln0
      go_enter Try.func33, Try.ntmps33
      go_upto_region 2 with (go_at_call 46; refine HF.mono ?_; rintro e1 w1 ⟨rfl, hs1⟩)
      refine alloc_next (cs := [.string x0, .int .i64 x1, .int .i64 x2, .int .i64 2, .int .i64 x4]) ?_
      intro w2 hE hs2
      have hwE : w.heap.size ≤ w1.heap.size := hs1.size
      have h2 := (h.keep hs1 (fun _ _ h => h)).keep hs2 (fun _ _ h => h)
      have hs := hs1.same hs2
      have hAE : ∀ k, blockOf A = some k → k ≠ w1.heap.size := fun k hk => by have := (h.keep hs1 (fun _ _ h => h)).lt hk; omega
      clear HF hs1 hs2
      generalize w1.heap.size = eb at *
      have e1 := hE.cell (i := 1) rfl
      have e2 := hE.cell (i := 2) rfl
      have e3 := hE.cell (i := 3) rfl
      have e4 := hE.cell (i := 4) rfl
      go_wp2
      go_ret2
      exact ⟨A, c, rfl, out_same (by rw [hln.out]; exact h) hs⟩
    · have q32 : (x3 == 2) = false := by simp [h32]
      rcases cntok_cases wt with ⟨hw, q1, q2⟩ | ⟨hw, q1⟩ | ⟨hw, q1, q2⟩
      · rw [rewR_0 hf h32 hw] at hgt ⊢
        have hpr := Lib.hid (show putR l ⟨x0, wt, x2, x3, x4⟩ = upd s (toW wt) l from (putR_is hg.toGood0 hf (g := toW wt) (y := ⟨x0, wt, x2, x3, x4⟩) rfl rfl hnum.1).trans (swept_good hgt))
        obtain ⟨l', hl'⟩ : ∃ l', upd s (toW wt) l = l' := ⟨_, rfl⟩
        simp only [hl'] at hpr hgt ⊢
        clear hl' hf hxm hxs hw
        obtain ⟨n, hln0⟩ : ∃ n, l.length = n := ⟨_, rfl⟩
        have hln := Lib.hid hln0
        rw [hln0] at h HF hmax
        try simp only [hln0]
        clear hln0
        go_enter Try.func33, Try.ntmps33
        go_upto_region 2 with (go_at_call 46; refine HF.mono ?_; rintro e1 w1 ⟨rfl, hs1⟩)
        refine alloc_next (cs := [.string x0, .int .i64 x1, .int .i64 x2, .int .i64 x3, .int .i64 x4]) ?_
        intro w2 hE hs2
        have hwE : w.heap.size ≤ w1.heap.size := hs1.size
        have h2 := (h.keep hs1 (fun _ _ h => h)).keep hs2 (fun _ _ h => h)
        have hs := hs1.same hs2
        have hAE : ∀ k, blockOf A = some k → k ≠ w1.heap.size := fun k hk => by have := (h.keep hs1 (fun _ _ h => h)).lt hk; omega
        clear HF hs1 hs2
        generalize w1.heap.size = eb at *
        have e1 := hE.cell (i := 1) rfl
        have e2 := hE.cell (i := 2) rfl
        have e3 := hE.cell (i := 3) rfl
        have e4 := hE.cell (i := 4) rfl
        have f1 := hE.free 1
        have hnn : n ≤ 500000 := by omega
        go_upto_region 14 with (fail)
        have hst3 := step_put w2 eb 1 (.int .i64 wt)
        have hE3 := hE.set 1 (.int .i64 wt)
        have h3 := h2.keep hst3 (fun k hk e => hAE k hk e)
        have hs3 := hs.trans hst3 (fun j hj e => by omega)
        clear e1 e2 e3 e4 f1 hst3
        generalize w2.setCell ⟨eb, 1, none⟩ (.int .i64 wt) = w3 at *
        have g0 := hE3.cell (i := 0) rfl
        have g1 := hE3.cell (i := 1) rfl
        have g2 := hE3.cell (i := 2) rfl
        have g3 := hE3.cell (i := 3) rfl
        have g4 := hE3.cell (i := 4) rfl
        have HP0 := put_calls h3 hnn x0 wt x2 x3 x4
        rw [hpr.out] at HP0
        go_wp2_with (go_at_call 47; refine HP0.mono ?_; rintro e4 w4 ⟨A4, c4, rfl, hR4, hn4, hs4⟩)
        go_ret2
        exact ⟨A4, c4, rfl, hR4, .inr (fun k hk => Nat.le_trans hs3.size (hn4 k hk)), hs3.same hs4⟩
      · rw [rewR_1 hf h32 hw]
        clear hgt hf hxm hxs hw
        obtain ⟨n, hln0⟩ : ∃ n, l.length = n := ⟨_, rfl⟩
        have hln := Lib.hid hln0
        rw [hln0] at h HF hmax
        try simp only [hln0]
        clear hln0
        go_enter Try.func33, Try.ntmps33
        go_upto_region 2 with (go_at_call 46; refine HF.mono ?_; rintro e1 w1 ⟨rfl, hs1⟩)
        refine alloc_next (cs := [.string x0, .int .i64 x1, .int .i64 x2, .int .i64 x3, .int .i64 x4]) ?_
        intro w2 hE hs2
        have hwE : w.heap.size ≤ w1.heap.size := hs1.size
        have h2 := (h.keep hs1 (fun _ _ h => h)).keep hs2 (fun _ _ h => h)
        have hs := hs1.same hs2
        have hAE : ∀ k, blockOf A = some k → k ≠ w1.heap.size := fun k hk => by have := (h.keep hs1 (fun _ _ h => h)).lt hk; omega
        clear HF hs1 hs2
        generalize w1.heap.size = eb at *
        have e1 := hE.cell (i := 1) rfl
        have e2 := hE.cell (i := 2) rfl
        have e3 := hE.cell (i := 3) rfl
        have e4 := hE.cell (i := 4) rfl
        go_wp2
        go_ret2
        exact ⟨A, c, rfl, out_same (by rw [hln.out]; exact h) hs⟩
      · rw [rewR_1 hf h32 hw]
        clear hgt hf hxm hxs hw
        obtain ⟨n, hln0⟩ : ∃ n, l.length = n := ⟨_, rfl⟩
        have hln := Lib.hid hln0
        rw [hln0] at h HF hmax
        try simp only [hln0]
        clear hln0
        go_enter Try.func33, Try.ntmps33
        go_upto_region 2 with (go_at_call 46; refine HF.mono ?_; rintro e1 w1 ⟨rfl, hs1⟩)
        refine alloc_next (cs := [.string x0, .int .i64 x1, .int .i64 x2, .int .i64 x3, .int .i64 x4]) ?_
        intro w2 hE hs2
        have hwE : w.heap.size ≤ w1.heap.size := hs1.size
        have h2 := (h.keep hs1 (fun _ _ h => h)).keep hs2 (fun _ _ h => h)
        have hs := hs1.same hs2
        have hAE : ∀ k, blockOf A = some k → k ≠ w1.heap.size := fun k hk => by have := (h.keep hs1 (fun _ _ h => h)).lt hk; omega
        clear HF hs1 hs2
        generalize w1.heap.size = eb at *
        have e1 := hE.cell (i := 1) rfl
        have e2 := hE.cell (i := 2) rfl
        have e3 := hE.cell (i := 3) rfl
        have e4 := hE.cell (i := 4) rfl
        go_wp2
        go_ret2
        exact ⟨A, c, rfl, out_same (by rw [hln.out]; exact h) hs⟩

set_option maxRecDepth 100000 in
set_option maxHeartbeats 4000000 in
theorem radd_calls {w : World} {A : Option Addr} {c : Nat} {l : List S38} (h : RRow w A l.length c l) (hg : Good l) (s : ByteArray) (hs : s.size ≤ 1000) (wt cp : Int) :
    Calls Try.prog 32 #[.slice A l.length c, .string s, .int .i64 wt, .int .i64 cp] w fun e w' => ∃ A' c', e = .returned (.tuple #[.slice A' (addR l s wt cp).1.length c', .int .i64 (addR l s wt cp).2]) ∧ Out w w' A c A' c' (addR l s wt cp).1 := by
  obtain ⟨i0, hi0, hp⟩ : ∃ i, Try.prog.info? 67 = some i ∧ (i.zero, i.size, i.bytes) = (some (.agg #[.string ⟨#[]⟩, .int .i64 0, .int .i64 0, .int .i64 0, .int .i64 0]), 5, 48) := by
    exact Option.map_eq_some_iff.1 (by kernel_rfl : (Try.prog.info? 67).map (fun i => (i.zero, i.size, i.bytes)) = some (some (.agg #[.string ⟨#[]⟩, .int .i64 0, .int .i64 0, .int .i64 0, .int .i64 0]), 5, 48))
  simp only [Prod.mk.injEq] at hp
  obtain ⟨hz0, hs0, hy0⟩ := hp
  have hmax := hg.len
  have HN := name04_calls (w := w) s hs
  have HF0 : ∀ w1, Step (fun _ => False) w w1 → ∃ y0 y1 y2 y3 y4, Calls Try.prog 46 #[.slice A l.length c, .string s] w1 fun e w' => e = .returned (.tuple #[.agg #[.string y0, .int .i64 y1, .int .i64 y2, .int .i64 y3, .int .i64 y4], .bool (getB l s).2]) ∧ Step (fun _ => False) w1 w' := fun w1 hs1 => by
    obtain ⟨y0, y1, y2, y3, y4, _, h1⟩ := rfind_open (h.keep hs1 (fun _ _ h => h)) hmax s
    exact ⟨y0, y1, y2, y3, y4, h1⟩
  have HF := Lib.hid HF0
  have hgb : (getB l s).2 = (l.find? (named s)).isSome := by unfold getB; cases l.find? (named s) <;> rfl
  clear HF0
  unfold addR
  obtain ⟨b, hb⟩ : ∃ b, tname s = b := ⟨_, rfl⟩
  rw [hb] at HN ⊢
  clear hb
  obtain ⟨n, hln0⟩ : ∃ n, l.length = n := ⟨_, rfl⟩
  have hln := Lib.hid hln0
  have hend : ∀ w', Step (fun _ => False) w w' → Out w w' A c A c l := fun w' hs => out_same h hs
  rw [hln0] at h HF hmax
  simp only [hln0]
  clear hln0
  cases b with
  | false =>
    rw [if_neg (by simp)]
    go_enter Try.func32, Try.ntmps32
    go_wp2_with (first | (go_at_call 45; refine HN.mono ?_; rintro e1 w1 ⟨rfl, hs1⟩; obtain ⟨y0, y1, y2, y3, y4, HFF⟩ := HF.out _ hs1) | (go_at_call 46; refine HFF.mono ?_; rintro e2 w2 ⟨rfl, hs2⟩))
    go_ret2
    exact ⟨A, c, by rw [hln.out]; rfl, hend _ hs1⟩
  | true =>
    rcases cntok_cases wt with ⟨hw, q1, q2⟩ | ⟨hw, q1⟩ | ⟨hw, q1, q2⟩
    · rcases cntok_cases cp with ⟨hw2, q3, q4⟩ | ⟨hw2, q3⟩ | ⟨hw2, q3, q4⟩
      · rw [if_pos (by simp [hw, hw2])]
        rw [hgb] at HF
        clear hgb hw hw2
        cases hf : (l.find? (named s)).isSome with
        | true =>
          rw [hf] at HF
          simp only [if_true]
          clear hf
          go_enter Try.func32, Try.ntmps32
          go_wp2_with (first | (go_at_call 45; refine HN.mono ?_; rintro e1 w1 ⟨rfl, hs1⟩; obtain ⟨y0, y1, y2, y3, y4, HFF⟩ := HF.out _ hs1) | (go_at_call 46; refine HFF.mono ?_; rintro e2 w2 ⟨rfl, hs2⟩))
          go_ret2
          exact ⟨A, c, by rw [hln.out]; rfl, hend _ ((hs1.same hs2).same ((Step.refl _ _).alloc _))⟩
        | false =>
          rw [hf] at HF
          simp only [Bool.false_eq_true, if_false]
          clear hf
          by_cases hfull : 1024 ≤ n
          · rw [if_pos hfull]
            have q5 : ((n : Int) ≥ 1024) = True := eq_true (by omega)
            go_enter Try.func32, Try.ntmps32
            go_wp2_with (first | (go_at_call 45; refine HN.mono ?_; rintro e1 w1 ⟨rfl, hs1⟩; obtain ⟨y0, y1, y2, y3, y4, HFF⟩ := HF.out _ hs1) | (go_at_call 46; refine HFF.mono ?_; rintro e2 w2 ⟨rfl, hs2⟩))
            go_ret2
            exact ⟨A, c, by rw [hln.out]; rfl, hend _ ((hs1.same hs2).same ((Step.refl _ _).alloc _))⟩
          · rw [if_neg hfull]
            have q5 : ((n : Int) ≥ 1024) = False := eq_false (by omega)
            go_enter Try.func32, Try.ntmps32
            go_upto_region 4 with (first | (go_at_call 45; refine HN.mono ?_; rintro e1 w1 ⟨rfl, hs1⟩; obtain ⟨y0, y1, y2, y3, y4, HFF⟩ := HF.out _ hs1) | (go_at_call 46; refine HFF.mono ?_; rintro e2 w2 ⟨rfl, hs2⟩))
            refine alloc_next (cs := [.string y0, .int .i64 y1, .int .i64 y2, .int .i64 y3, .int .i64 y4]) ?_
            intro w3 hE hs3
            clear hE
            go_upto_region 8 with (fail)
            have h3 := ((h.keep hs1 (fun _ _ h => h)).keep hs2 (fun _ _ h => h)).keep hs3 (fun _ _ h => h)
            have hst3 := (hs1.same hs2).same hs3
            clear HF HN HFF hend hs1 hs2 hs3 h
            have hz : RRow (w3.alloc (.cells #[] 67)) (some ⟨w3.heap.size, 0, none⟩) 0 0 [] := ⟨rfl, .inr ⟨w3.heap.size, #[], rfl, heap_alloc_new w3 _, by omega, by simp, fun j v hj => by simp [bcells] at hj⟩⟩
            have hw3 := hst3.size
            obtain ⟨hl3, ⟨rfl, rfl, rfl, hcs⟩ | ⟨g, cur, rfl, hgh, hle, hsz, hcell⟩⟩ := h3
            · have hl0 : l = [] := List.eq_nil_of_length_eq_zero hln.out
              subst hl0
              have hb5 : Blk ((w3.alloc (.cells #[] 67)).alloc (.cells #[.string s, .int .i64 wt, .int .i64 cp, .int .i64 0, .int .i64 0] 67)) (w3.heap.size + 1) 67 (bc ⟨s, wt, cp, 0, 0⟩) := by
                have h := blk_new (w3.alloc (.cells #[] 67)) (bc ⟨s, wt, cp, 0, 0⟩) 67
                have e : (w3.alloc (.cells #[] 67)).heap.size = w3.heap.size + 1 := by show (w3.heap.push _).size = _; simp
                rw [e] at h
                exact h
              have hz5 := hz.keep ((Step.refl (fun _ => False) _).alloc (.cells #[.string s, .int .i64 wt, .int .i64 cp, .int .i64 0, .int .i64 0] 67)) (fun _ _ h => h)
              have hst5 : Step (fun _ => False) w3 ((w3.alloc (.cells #[] 67)).alloc (.cells #[.string s, .int .i64 wt, .int .i64 cp, .int .i64 0, .int .i64 0] 67)) := ((Step.refl _ _).alloc _).alloc _
              go_wp2_with (first | (at_builtin; refine wpList_append_nilsrc _ rfl (.tmp 44) (.tmp 45) 47 rfl 67 i0 5 Try.underlying47 hi0 hs0 (Nat.le_refl 0) rfl rfl ?_) | (at_builtin; refine wpList_append_flat _ rfl (.tmp 46) (.tmp 51) 47 rfl 67 i0 _ 5 48 Try.underlying47 hi0 hz0 rfl hs0 hy0 (by omega) rfl hz5 rfl (m := 1) (r := bc ⟨s, wt, cp, 0, 0⟩) rfl (fun _ => by omega) (fun v hv => bcells_one [⟨s, wt, cp, 0, 0⟩] v (by simpa [bcells] using hv)) (fun j v hj => by rw [addr_add', Nat.zero_add]; exact hb5.cell hj) (by omega) ?_; intro A6 c6 w6 hE6 hs6 hat6))
              go_ret2
              refine ⟨A6, c6, rfl, by unfold RRow; simpa [bcells] using hE6, .inr (fun k hk => ?_), (hst3.same hst5).trans hs6 (fun j hj e => by have e' : w3.heap.size = j := Option.some.inj e; omega)⟩
              rcases hat6 with e | ⟨j, hj, hjl⟩
              · rw [hk] at e
                have e' : k = w3.heap.size := Option.some.inj e
                omega
              · obtain rfl : j = k := Option.some.inj (hj.symm.trans hk)
                have := hst5.size
                omega
            · have hst4 : Step (fun _ => False) w3 (w3.alloc (.cells #[] 67)) := (Step.refl _ _).alloc _
              have hgl : g < w3.heap.size := lt_of_block hgh
              have hsrc : ∀ j v, (bcells l)[j]? = some v → (w3.alloc (.cells #[] 67)).cell? ((⟨g, 0, none⟩ : Addr).add j) = some v := fun j v hj => by
                rw [addr_add', Nat.zero_add]; exact Lib.cell?_alloc_some _ (by simp [World.cell?, hgh, hcell j v hj])
              go_wp2_with (first | (at_builtin; refine wpList_append_flat _ rfl (.tmp 44) (.tmp 45) 47 rfl 67 i0 _ 5 48 Try.underlying47 hi0 hz0 rfl hs0 hy0 (by omega) rfl hz rfl hl3 (fun e => by cases e) (bcells_one l) hsrc (by omega) ?_; intro A4 c4 w4 hE4 hs4 hat4; rw [Nat.zero_add] at hE4; have hb5 : Blk (w4.alloc (.cells #[.string s, .int .i64 wt, .int .i64 cp, .int .i64 0, .int .i64 0] 67)) w4.heap.size 67 (bc ⟨s, wt, cp, 0, 0⟩) := blk_new _ _ _; have hz5 := FSeg.keep hE4 ((Step.refl (fun _ => False) _).alloc (.cells #[.string s, .int .i64 wt, .int .i64 cp, .int .i64 0, .int .i64 0] 67)) (fun _ _ h => h)) | (at_builtin; refine wpList_append_flat _ rfl (.tmp 46) (.tmp 51) 47 rfl 67 i0 _ 5 48 Try.underlying47 hi0 hz0 rfl hs0 hy0 (by omega) rfl hz5 rfl (m := 1) (r := bc ⟨s, wt, cp, 0, 0⟩) rfl (fun _ => by omega) (fun v hv => bcells_one [⟨s, wt, cp, 0, 0⟩] v (by simpa [bcells] using hv)) (fun j v hj => by rw [addr_add', Nat.zero_add]; exact hb5.cell hj) (by omega) ?_; intro A6 c6 w6 hE6 hs6 hat6))
              go_ret2
              have hst5 : Step (fun _ => False) w4 (w4.alloc (.cells #[.string s, .int .i64 wt, .int .i64 cp, .int .i64 0, .int .i64 0] 67)) := (Step.refl _ _).alloc _
              have hs4' : Step (fun _ => False) w w4 := (hst3.same hst4).trans hs4 (fun j hj e => by have e' : w3.heap.size = j := Option.some.inj e; omega)
              have hA4 : ∀ k, blockOf A4 = some k → w.heap.size ≤ k := fun k hk => by
                rcases hat4 with e | ⟨j, hj, hjl⟩
                · rw [hk] at e
                  have e' : k = w3.heap.size := Option.some.inj e
                  omega
                · obtain rfl : j = k := Option.some.inj (hj.symm.trans hk)
                  have := hst4.size
                  omega
              have hll : (l ++ [(⟨s, wt, cp, 0, 0⟩ : S38)]).length = n + 1 := by rw [List.length_append, hln.out]; simp
              refine ⟨A6, c6, by rw [hll]; rfl, by rw [hll]; unfold RRow; rw [bcells_append, show bcells [(⟨s, wt, cp, 0, 0⟩ : S38)] = bc ⟨s, wt, cp, 0, 0⟩ by simp [bcells]]; simpa [bcells] using hE6, .inr (fun k hk => ?_), (hs4'.same hst5).trans hs6 (fun j hj e => by have := hA4 j e; omega)⟩
              rcases hat6 with e | ⟨j, hj, hjl⟩
              · rw [hk] at e
                exact hA4 k e.symm
              · obtain rfl : j = k := Option.some.inj (hj.symm.trans hk)
                have := (hs4'.same hst5).size
                omega
      · rw [if_neg (by simp [hw2])]
        clear hgb hw hw2
        go_enter Try.func32, Try.ntmps32
        go_wp2_with (first | (go_at_call 45; refine HN.mono ?_; rintro e1 w1 ⟨rfl, hs1⟩; obtain ⟨y0, y1, y2, y3, y4, HFF⟩ := HF.out _ hs1) | (go_at_call 46; refine HFF.mono ?_; rintro e2 w2 ⟨rfl, hs2⟩))
        go_ret2
        exact ⟨A, c, by rw [hln.out]; rfl, hend _ hs1⟩
      · rw [if_neg (by simp [hw2])]
        clear hgb hw hw2
        go_enter Try.func32, Try.ntmps32
        go_wp2_with (first | (go_at_call 45; refine HN.mono ?_; rintro e1 w1 ⟨rfl, hs1⟩; obtain ⟨y0, y1, y2, y3, y4, HFF⟩ := HF.out _ hs1) | (go_at_call 46; refine HFF.mono ?_; rintro e2 w2 ⟨rfl, hs2⟩))
        go_ret2
        exact ⟨A, c, by rw [hln.out]; rfl, hend _ hs1⟩
    · rw [if_neg (by simp [hw])]
      clear hgb hw
      go_enter Try.func32, Try.ntmps32
      go_wp2_with (first | (go_at_call 45; refine HN.mono ?_; rintro e1 w1 ⟨rfl, hs1⟩; obtain ⟨y0, y1, y2, y3, y4, HFF⟩ := HF.out _ hs1) | (go_at_call 46; refine HFF.mono ?_; rintro e2 w2 ⟨rfl, hs2⟩))
      go_ret2
      exact ⟨A, c, by rw [hln.out]; rfl, hend _ hs1⟩
    · rw [if_neg (by simp [hw])]
      clear hgb hw
      go_enter Try.func32, Try.ntmps32
      go_wp2_with (first | (go_at_call 45; refine HN.mono ?_; rintro e1 w1 ⟨rfl, hs1⟩; obtain ⟨y0, y1, y2, y3, y4, HFF⟩ := HF.out _ hs1) | (go_at_call 46; refine HFF.mono ?_; rintro e2 w2 ⟨rfl, hs2⟩))
      go_ret2
      exact ⟨A, c, by rw [hln.out]; rfl, hend _ hs1⟩
end Go.Proofs.Yteebahjpoafhmaa.Pool
