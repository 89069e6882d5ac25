/- the pool beside other things of a law; stewardlaw24.awake. Own work of this seat. -/
import Derived.Test.YteebahjpoafhmaaMapsP
namespace Go.Proofs.Yteebahjpoafhmaa.Pool
open Go.RowKit Go.Proofs.Yteebahjpoafhmaa.Kit Go.Proofs.Yteebahjpoafhmaa.PPoolPlays Go.Proofs.YteebahjpoafhmaaW.PrintWords Go.Proofs.YteebahjpoafhmaaW.PrintLast Go.Proofs.YteebahjpoafhmaaW.PrintMore
set_option linter.unusedVariables false
set_option linter.unusedSimpArgs false

/-- The pool behind p has the backends l; all of it is new since w0. -/
structure PJ (w0 w : World) (p : Nat) (A : Option Addr) (c : Nat) (l : List S38) : Prop where
  pa : PAt w p A c l
  good : Good l
  lowp : w0.heap.size ≤ p
  lowA : ∀ k, blockOf A = some k → w0.heap.size ≤ k
  bel : Below w0.heap.size w0 w
section
variable {w0 w w' : World} {p : Nat} {A A' : Option Addr} {c c' : Nat} {l l' : List S38}
theorem PJ.big (h : PJ w0 w p A c l) : w0.heap.size ≤ w.heap.size := h.bel.size
theorem PJ.still (h : PJ w0 w p A c l) (hs : Step (fun _ => False) w w') : PJ w0 w' p A c l :=
  ⟨h.pa.still hs, h.good, h.lowp, h.lowA, h.bel.trans (hs.below h.big (fun _ h => h.elim))⟩
theorem PJ.keep {F : Nat → Prop} (h : PJ w0 w p A c l) (hs : Step F w w') (hp : ¬ F p) (hA : ∀ k, blockOf A = some k → ¬ F k) (hF : ∀ k, F k → w0.heap.size ≤ k) : PJ w0 w' p A c l :=
  ⟨h.pa.keep hs hp hA, h.good, h.lowp, h.lowA, h.bel.trans (hs.below h.big hF)⟩
theorem PJ.pool (h : PJ w0 w p A c l) (hP : PAt w' p A' c' l') (hs : PStep p A w w') (hn : Near w A A') (hg : Good l') : PJ w0 w' p A' c' l' :=
  ⟨hP, hg, h.lowp, fun k hk => by
      rcases hn k hk with e' | e'
      · exact h.lowA k e'
      · exact Nat.le_trans h.big e', h.bel.trans (Step.below hs h.big (fun k hk => by
      rcases hk with e | e
      · rw [e]; exact h.lowp
      · exact h.lowA k e))⟩
end
theorem good_nil : Good [] := ⟨⟨by simp, fun x hx => (by cases hx), by simp⟩, fun x hx => (by cases hx)⟩
theorem pj_new {w : World} {p : Nat} (hp : PAt w p none 0 []) {w0 : World} (hl : w0.heap.size ≤ p) (hb : Below w0.heap.size w0 w) : PJ w0 w p none 0 [] :=
  ⟨hp, good_nil, hl, fun k hk => (by cases hk), hb⟩

theorem tname_a : tname ⟨#[97]⟩ = true := by decide +kernel
theorem aw1 : addR [] ⟨#[97]⟩ 1 1 = ([⟨⟨#[97]⟩, 1, 1, 0, 0⟩], 0) := by
  unfold addR
  rw [tname_a]
  rfl
theorem aw2 : takeR [⟨⟨#[97]⟩, 1, 1, 0, 0⟩] ⟨#[97]⟩ = ([⟨⟨#[97]⟩, 1, 1, 0, 1⟩], 0) := by kernel_rfl
theorem aw3 : takeR [⟨⟨#[97]⟩, 1, 1, 0, 1⟩] ⟨#[97]⟩ = ([⟨⟨#[97]⟩, 1, 1, 0, 1⟩], 8) := by kernel_rfl
theorem aw4 : chgR [⟨⟨#[97]⟩, 1, 1, 0, 1⟩] ⟨#[97]⟩ (toS 1) = ([⟨⟨#[97]⟩, 1, 1, 1, 1⟩], 0) := by kernel_rfl
theorem aw5 : takeR [⟨⟨#[97]⟩, 1, 1, 1, 1⟩] ⟨#[97]⟩ = ([⟨⟨#[97]⟩, 1, 1, 1, 1⟩], 9) := by kernel_rfl
theorem aw6 : giveR [⟨⟨#[97]⟩, 1, 1, 1, 1⟩] ⟨#[97]⟩ = ([⟨⟨#[97]⟩, 1, 1, 1, 0⟩], true, 0) := by kernel_rfl
theorem aw7 : getB [⟨⟨#[97]⟩, 1, 1, 1, 0⟩] ⟨#[97]⟩ = (⟨⟨#[97]⟩, 1, 1, 1, 0⟩, true) := by kernel_rfl

set_option maxRecDepth 100000 in
set_option maxHeartbeats 1000000 in
theorem awake_calls (w : World) : Calls Try.prog 18 #[] w fun e w' => e = .returned (.bool true) ∧ Below w.heap.size w w' := by
  go_enter Try.func18, Try.ntmps18
  go_upto_region 5 with (first | (go_at_call 7; refine new_calls.mono ?_; rintro e1 w1 ⟨p, rfl, hP1, hp1, hs1⟩; have hJ1 := pj_new hP1 hp1 (hs1.below (Nat.le_refl _) (fun _ h => h.elim)); have HA := add_calls hP1 hJ1.good.toGood0 ⟨#[97]⟩ 1 1; have hg := add_good hJ1.good ⟨#[97]⟩ 1 1; rw [aw1] at HA hg) | (go_at_call 8; refine HA.mono ?_; rintro e2 w2 ⟨rfl, A2, c2, hP2, hs2, hn2⟩))
  have hJ2 := hJ1.pool hP2 hs2 hn2 hg
  clear hP1 hp1 hs1 hJ1 HA hg hP2 hs2 hn2
  have HT1 := take_calls hJ2.pa hJ2.good.toGood0 ⟨#[97]⟩
  have hg3 := take_good hJ2.good ⟨#[97]⟩
  rw [aw2] at HT1 hg3
  go_upto_region 6 with (first | (go_at_call 13; refine HT1.mono ?_; rintro e3 w3 ⟨rfl, hP3, hs3⟩; have hJ3 := hJ2.pool hP3 hs3 (Near.refl _ _) hg3; have HT2 := take_calls hJ3.pa hJ3.good.toGood0 ⟨#[97]⟩; rw [aw3] at HT2) | (go_at_call 13; refine HT2.mono ?_; rintro e4 w4 ⟨rfl, hP4, hs4⟩))
  have hJ4 := hJ3.pool hP4 hs4 (Near.refl _ _) hg3
  clear HT1 HT2 hP3 hs3 hP4 hs4 hJ2 hJ3 hg3
  have HD := drain_calls hJ4.pa hJ4.good.toGood0 ⟨#[97]⟩
  have hg5 := chg_good hJ4.good ⟨#[97]⟩ 1 (by decide)
  rw [aw4] at HD hg5
  go_upto_region 7 with (go_at_call 10; refine HD.mono ?_; rintro e5 w5 ⟨rfl, hP5, hs5⟩)
  have hJ5 := hJ4.pool hP5 hs5 (Near.refl _ _) hg5
  clear HD hP5 hs5 hJ4
  have HT := take_calls hJ5.pa hJ5.good.toGood0 ⟨#[97]⟩
  rw [aw5] at HT
  go_upto_region 8 with (go_at_call 13; refine HT.mono ?_; rintro e6 w6 ⟨rfl, hP6, hs6⟩)
  have hJ6 := hJ5.pool hP6 hs6 (Near.refl _ _) hg5
  clear HT hP6 hs6 hJ5
  have HG := give_calls hJ6.pa hJ6.good.toGood0 ⟨#[97]⟩
  have hg7 := give_good hJ6.good ⟨#[97]⟩
  rw [aw6] at HG hg7
  go_upto_region 9 with (go_at_call 15; refine HG.mono ?_; rintro e7 w7 ⟨rfl, hP7, hs7⟩)
  have hJ7 := hJ6.pool hP7 hs7 (Near.refl _ _) hg7
  clear HG hP7 hs7 hJ6
  have HX := drained_calls hJ7.pa (Nat.le_trans hJ7.good.len (by omega)) ⟨#[97]⟩
  rw [aw7] at HX
  go_wp2_with (go_at_call 17; refine HX.mono ?_; rintro e8 w8 ⟨rfl, hs8⟩)
  go_ret
  exact ⟨rfl, (hJ7.still hs8).bel⟩
end Go.Proofs.Yteebahjpoafhmaa.Pool
