/- The walk of stewardlaw24.PoolPlays. Own work of this seat. -/
import Derived.Test.YteebahjpoafhmaaIs
namespace Go.Proofs.Yteebahjpoafhmaa.Pool
open Go.RowKit Go.Proofs.Yteebahjpoafhmaa.Kit Go.Proofs.Yteebahjpoafhmaa.PPoolPlays Go.Proofs.YteebahjpoafhmaaW.PrintWords Go.Proofs.YteebahjpoafhmaaW.PrintLast Go.Proofs.YteebahjpoafhmaaW.PrintMore
set_option linter.unusedVariables false
set_option linter.unusedSimpArgs false

/-- The pool behind p and the document's row R have the backends l. -/
structure PP (w : World) (p : Nat) (A R : Option Addr) (c cR : Nat) (l : List S38) : Prop where
  pa : PAt w p A c l
  good : Good l
  tn : TN l
  row : RRow w R l.length cR l
  sep : Sep p A R
theorem PP.still {w w' : World} {p : Nat} {A R : Option Addr} {c cR : Nat} {l : List S38} (h : PP w p A R c cR l) (hs : Step (fun _ => False) w w') : PP w' p A R c cR l :=
  ⟨h.pa.still hs, h.good, h.tn, h.row.keep hs (fun _ _ h => h), h.sep⟩
theorem PP.keep {F : Nat → Prop} {w w' : World} {p : Nat} {A R : Option Addr} {c cR : Nat} {l : List S38} (h : PP w p A R c cR l) (hs : Step F w w') (hp : ¬ F p) (hA : ∀ k, blockOf A = some k → ¬ F k) (hR : ∀ k, blockOf R = some k → ¬ F k) : PP w' p A R c cR l :=
  ⟨h.pa.keep hs hp hA, h.good, h.tn, h.row.keep hs hR, h.sep⟩
theorem PP.of_both {w w' : World} {p : Nat} {A R A' R' : Option Addr} {c cR c' cR' : Nat} {l l' : List S38} (h : PP w p A R c cR l) (hb : Both w w' p A R l A' R' c' cR' l') : PP w' p A' R' c' cR' l' :=
  ⟨hb.1, hb.2.1, hb.2.2.1 h.tn, hb.2.2.2.1, hb.2.2.2.2.1⟩
/-- All that the pool may write is new since base. -/
def Low (base p : Nat) (A : Option Addr) : Prop := base ≤ p ∧ ∀ k, blockOf A = some k → base ≤ k
theorem Low.both {w w' : World} {base p : Nat} {A R A' R' : Option Addr} {c cR' : Nat} {l l' : List S38} (h : Low base p A) (hw : base ≤ w.heap.size) (hb : Both w w' p A R l A' R' c cR' l') : Low base p A' :=
  ⟨h.1, fun k hk => by
    rcases hb.2.2.2.2.2.2.1 k hk with e | e
    · exact h.2 k e
    · exact Nat.le_trans hw e⟩
theorem Low.step {w w' : World} {base p : Nat} {A : Option Addr} (h : Low base p A) (hs : PStep p A w w') : Step (fun k => base ≤ k) w w' :=
  Step.mono hs (fun k _ hk => by
    rcases hk with e | e
    · rw [e]; exact h.1
    · exact h.2 k e)
theorem tname_nosuch : tname ⟨#[110, 111, 32, 115, 117, 99, 104, 32, 110, 97, 109, 101]⟩ = false := by decide +kernel
theorem no_such {l : List S38} (h : TN l) : (getB l ⟨#[110, 111, 32, 115, 117, 99, 104, 32, 110, 97, 109, 101]⟩).2 = false := by
  cases hf : l.find? (named ⟨#[110, 111, 32, 115, 117, 99, 104, 32, 110, 97, 109, 101]⟩) with
  | none => exact getB_none hf
  | some x =>
    obtain ⟨hx, hs⟩ := find_mem hf
    have := h x hx
    rw [hs, tname_nosuch] at this
    cases this

set_option maxRecDepth 100000 in
set_option maxHeartbeats 8000000 in
theorem plays_calls (A0 : Option Addr) (c0 : Nat) (acts : List Act4) (A1 : Option Addr) (c1 : Nat) (more : List Act4) (w : World) (hr : Kd.C kAct w A0 acts.length acts) (hc : acts.length ≤ c0) (hr1 : Kd.C kAct w A1 more.length more) (hc1 : more.length ≤ c1) :
    Calls Try.prog 6 #[.slice A0 acts.length c0, .slice A1 more.length c1] w fun e w' => e = .returned (.bool true) ∧ Below w.heap.size w w' := by
  have hact0 : ∀ w1, Below w.heap.size w w1 → ∀ i, i < acts.length → _ := fun w1 hb i hi => act_at (Kd.C_below hr hb) i hi
  have hact := Lib.hid hact0
  have hmore0 : ∀ w1, Below w.heap.size w w1 → ∀ i, i < more.length → _ := fun w1 hb i hi => act_at (Kd.C_below hr1 hb) i hi
  have hmore := Lib.hid hmore0
  clear hact0 hmore0
  generalize acts.length = n at *
  generalize more.length = n1 at *
  go_enter Try.func6, Try.ntmps6
  go_upto_region 6 with (first | (go_at_call 18; refine (awake_calls _).mono ?_; rintro e0 w1 ⟨rfl, hb1⟩) | (go_at_call 7; refine new_calls.mono ?_; rintro e1 w2 ⟨p, rfl, hP2, hp2, hs2⟩))
  have hB2 : Below w.heap.size w w2 := hb1.trans ((hs2.below (Nat.le_refl _) (fun _ h => h.elim)).mono hb1.size)
  have hL2 : Low w.heap.size p none := ⟨Nat.le_trans hb1.size hp2, fun k hk => (by cases hk)⟩
  have hQ2 : PP w2 p none none 0 0 [] := ⟨hP2, good_nil, fun x hx => (by cases hx), rrow_nil w2, fun k hk => (by cases hk)⟩
  clear hP2 hp2 hs2 hb1 hr hr1
  go_wp2
  go_loopw [6, 7, 8] (fun v6 v7 v8 wr => ∃ (i : Nat) (A R : Option Addr) (c cR : Nat) (l : List S38) (b : Bool), v8 = .int .i64 (i : Int) ∧ v6 = .slice R l.length cR ∧ v7 = .bool b ∧ i ≤ 50 ∧ PP wr p A R c cR l ∧ Low w.heap.size p A ∧ Below w.heap.size w wr) (fun _ _ v _ => 50 - (intOf v).toNat)
  case atStart => exact ⟨0, none, none, 0, 0, [], false, rfl, rfl, rfl, by omega, hQ2, hL2, hB2⟩
  case round =>
    clear hQ2 hL2 hB2
    obtain ⟨i, A, R, c, cR, l, b, rfl, rfl, rfl, hi, hQ, hL, hB⟩ := hrel
    by_cases hgo : i < n ∧ i < 50
    · as_aux_lemma =>
        obtain ⟨hin, hi50⟩ := hgo
        have hin' : ((i : Int) < (n : Int)) := by omega
        have hi50' : ((i : Int) < 50) := by omega
        obtain ⟨ad, ⟨k, wt, cp, nm⟩, rfl, a0, a1, a2, a3⟩ := hact.out wr hB i hin
        have HD := do_calls hQ.pa hQ.good hQ.row hQ.sep k wt cp nm
        have hfin := fun w4 A4 c4 l4 R4 cR4 (hb : Both wr w4 p A R l A4 R4 c4 cR4 l4) => (show PP w4 p A4 R4 c4 cR4 l4 ∧ Low w.heap.size p A4 ∧ Below w.heap.size w w4 from ⟨hQ.of_both hb, hL.both hB.size hb, hB.trans ((hL.step hb.2.2.2.2.2.1).below hB.size (fun k h => h))⟩)
        have hfin := Lib.hid hfin
        clear hact hmore
        obtain ⟨ln, hln0⟩ : ∃ ln, l.length = ln := ⟨_, rfl⟩
        rw [hln0] at HD
        simp only [hln0]
        clear hln0
        go_upto_region 12 with (go_at_call 21; refine HD.mono ?_; rintro e4 w4 ⟨A4, c4, l4, R4, cR4, rfl, hb4⟩)
        obtain ⟨hQ4, hL4, hB4⟩ := hfin.out w4 A4 c4 l4 R4 cR4 hb4
        have HI := is_calls hQ4.pa hQ4.good hQ4.row
        clear HD hfin hb4 a0 a1 a2 a3
        have hln4 : ∃ ln4, l4.length = ln4 := ⟨_, rfl⟩
        go_wp2_with (go_at_call 22; refine HI.mono ?_; rintro e5 w5 ⟨rfl, hs5⟩)
        exact ⟨⟨i + 1, A4, R4, c4, cR4, l4, true, by go_num, rfl, rfl, by omega, hQ4.still hs5, hL4, hB4.trans (hs5.below hB4.size (fun _ h => h.elim))⟩, by simp [intOf]; omega⟩
    · have hends : ¬ i < n ∨ (i < n ∧ ¬ i < 50) := by omega
      have HC := pclone_calls hQ.pa (Nat.le_trans hQ.good.len (by omega))
      clear hact
      rcases hends with h1 | ⟨h1, h2⟩
      all_goals (try have q1 : ((i : Int) < (n : Int)) = False := eq_false (by omega))
      all_goals (try have q1 : ((i : Int) < (n : Int)) = True := eq_true (by omega))
      all_goals (try have q2 : ((i : Int) < 50) = False := eq_false (by omega))
      all_goals (go_upto_region 14 with (fail))
      all_goals (
        clear hi hgo
        go_upto_region 17 with (go_at_call 23; refine HC.mono ?_; rintro e6 w6 ⟨q, A6, c6, rfl, hP6, hq6, hA6, hs6⟩)
        have hs6' : Step (fun _ => False) wr w6 := hs6
        have hQ6 := hQ.still hs6
        have hB6 := hB.trans (hs6.below hB.size (fun _ h => h.elim))
        have hsz := hB.size
        have hQq : PP w6 q A6 R c6 cR l := ⟨hP6, hQ.good, hQ.tn, hQ6.row, fun k hk => by
          have := hQ.row.lt hk
          exact ⟨by omega, fun e => by have := hA6 k e; omega⟩⟩
        have hLq : Low wr.heap.size q A6 := ⟨hq6, hA6⟩
        have hpl := hQ.pa.lt
        have hAl : ∀ k, blockOf A = some k → k < wr.heap.size := fun k hk => hQ.pa.ltA hk
        have hRl : ∀ k, blockOf R = some k → k < wr.heap.size := fun k hk => hQ.row.lt hk
        have hAl := Lib.hid hAl
        have hRl := Lib.hid hRl
        have hw6 := hs6.size
        clear HC hP6 hq6 hA6 hs6 hs6' hQ hL hB
        obtain ⟨ln, hln0⟩ : ∃ ln, l.length = ln := ⟨_, rfl⟩
        have hln := Lib.hid hln0
        rw [show l.length = ln from hln0]
        generalize wr.heap.size = base at *
        go_wp2
        go_loopw [7, 10, 11] (fun v7 v10 v11 wx => ∃ (i : Nat) (A' R' : Option Addr) (c' cR' : Nat) (m : List S38) (b : Bool), v11 = .int .i64 (i : Int) ∧ v10 = .slice R' m.length cR' ∧ v7 = .bool b ∧ i ≤ 20 ∧ PP wx q A' R' c' cR' m ∧ Low base q A' ∧ PP wx p A R c cR l ∧ Below w.heap.size w wx ∧ base ≤ wx.heap.size) (fun _ _ v _ => 20 - (intOf v).toNat)
        case atStart => exact ⟨0, A6, R, c6, cR, l, _, rfl, by rw [hln.out], rfl, by omega, hQq, hLq, hQ6, hB6, hw6⟩
        case round =>
          clear hQq hLq hQ6 hB6 hw6
          obtain ⟨i, A', R', c', cR', m, b2, rfl, rfl, rfl, hi, hQ, hL, hQp, hB, hbw⟩ := hrel
          by_cases hgo : i < n1 ∧ i < 20
          · as_aux_lemma =>
              obtain ⟨hin, hi50⟩ := hgo
              have hin' : ((i : Int) < (n1 : Int)) := by omega
              have hi50' : ((i : Int) < 20) := by omega
              obtain ⟨ad, ⟨k, wt, cp, nm⟩, rfl, a0, a1, a2, a3⟩ := hmore.out wr hB i hin
              have HD := do_calls hQ.pa hQ.good hQ.row hQ.sep k wt cp nm
              have hfin := fun w4 A4 c4 l4 R4 cR4 (hb : Both wr w4 q A' R' m A4 R4 c4 cR4 l4) => (show PP w4 q A4 R4 c4 cR4 l4 ∧ Low base q A4 ∧ PP w4 p A R c cR l ∧ Below w.heap.size w w4 ∧ base ≤ w4.heap.size from
                have hst := hL.step hb.2.2.2.2.2.1
                ⟨hQ.of_both hb, hL.both hbw hb, hQp.keep hst (show ¬ base ≤ p by omega) (fun k hk => show ¬ base ≤ k by have := hAl.out k hk; omega) (fun k hk => show ¬ base ≤ k by have := hRl.out k hk; omega), hB.trans (hst.below hB.size (fun k h => by have h' : base ≤ k := h; omega)), Nat.le_trans hbw hst.size⟩)
              have hfin := Lib.hid hfin
              clear hmore hln
              obtain ⟨lm, hlm0⟩ : ∃ lm, m.length = lm := ⟨_, rfl⟩
              rw [hlm0] at HD
              simp only [hlm0]
              clear hlm0
              go_wp2_with (go_at_call 21; refine HD.mono ?_; rintro e4 w4 ⟨A4, c4, l4, R4, cR4, rfl, hb4⟩)
              obtain ⟨hQ4, hL4, hQp4, hB4, hbw4⟩ := hfin.out w4 A4 c4 l4 R4 cR4 hb4
              exact ⟨⟨i + 1, A4, R4, c4, cR4, l4, true, by go_num, rfl, rfl, by omega, hQ4, hL4, hQp4, hB4, hbw4⟩, by simp [intOf]; omega⟩
          · have hends2 : ¬ i < n1 ∨ (i < n1 ∧ ¬ i < 20) := by omega
            have HG0 := get_open hQp.pa hQp.good.len ⟨#[110, 111, 32, 115, 117, 99, 104, 32, 110, 97, 109, 101]⟩
            rw [no_such hQp.tn] at HG0
            obtain ⟨y0, y1, y2, y3, y4, _, HG⟩ := HG0
            have HI1 := fun W (h : Step (fun _ => False) wr W) => is_calls (hQp.pa.still h) hQp.good (hQp.still h).row
            have HI2 := fun W (h : Step (fun _ => False) wr W) => is_calls (hQ.pa.still h) hQ.good (hQ.still h).row
            rw [hln.out] at HI1
            have HI1 := Lib.hid HI1
            have HI2 := Lib.hid HI2
            clear hmore
            rcases hends2 with h1 | ⟨h1, h2⟩
            all_goals (try have q1 : ((i : Int) < (n1 : Int)) = False := eq_false (by omega))
            all_goals (try have q1 : ((i : Int) < (n1 : Int)) = True := eq_true (by omega))
            all_goals (try have q2 : ((i : Int) < 20) = False := eq_false (by omega))
            all_goals (
              go_upto_region 24 with (go_at_call 19; refine HG.mono ?_; rintro e7 w7 ⟨rfl, hs7⟩)
              refine alloc_next (cs := [.string y0, .int .i64 y1, .int .i64 y2, .int .i64 y3, .int .i64 y4]) ?_
              intro w8 hE8 hs8
              have hs78 := hs7.same hs8
              have HI1 := HI1.out w8 hs78
              go_wp2_with (first | (go_at_call_of 22 (Value.pointer (some ⟨p, 0, none⟩)); refine HI1.mono ?_; rintro e9 w9 ⟨rfl, hs9⟩; have HI2 := HI2.out w9 (hs78.same hs9)) | (go_at_call_of 22 (Value.pointer (some ⟨q, 0, none⟩)); refine HI2.mono ?_; rintro e10 w10 ⟨rfl, hs10⟩))
              go_ret
              exact ⟨rfl, hB.trans (((hs78.same hs9).same hs10).below hB.size (fun _ h => h.elim))⟩))
end Go.Proofs.Yteebahjpoafhmaa.Pool
