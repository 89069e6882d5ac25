/- The walk of stewardlaw21.ProbeResults. Own work of this seat. -/
import Derived.Test.YtlmppdpjjkdoaaaKit
import Derived.Test.YtlmppdpjjkdoaaaProbePure4
import Derived.Deep.RegionHeld3
import Derived.WalkSpells
namespace Go.Proofs.Ytlmppdpjjkdoaaa.ProbeR
open Go.RowKit Go.Proofs.Ytlmppdpjjkdoaaa.Kit Go.Proofs.Ytlmppdpjjkdoaaa.PProbeResults Go.Proofs.YtlmppdpjjkdoaaaW.PrintWords Go.Proofs.YtlmppdpjjkdoaaaW.PrintLast Go.Proofs.YtlmppdpjjkdoaaaW.PrintMore
set_option linter.unusedVariables false
set_option linter.unusedSimpArgs false

theorem results_awake : stewardlaw21_awake.f 40 = some true := by decide +kernel

theorem hide2 {F : World → Prop} {W wr : World} {o x : Nat} {To Tx : TypeId} {cs ds : List Value} (ho : Blk W o To cs) (hx : Blk W x Tx ds) (hS : Step (fun _ => False) wr W) (k : ∀ W', Blk W' o To cs → Blk W' x Tx ds → Step (fun _ => False) wr W' → F W') : F W := k W ho hx hS
theorem blk_new2 (w : World) (X : Obj) (ds : List Value) (T : TypeId) : Blk ((w.alloc X).alloc (.cells ds.toArray T)) (w.heap.size + 1) T ds := by
  have h := blk_new (w.alloc X) ds T
  rwa [show (w.alloc X).heap.size = w.heap.size + 1 from by show (w.heap.push _).size = _; simp] at h

theorem world_hide {F : World → Prop} {W wr : World} {q : Nat} {T : TypeId} {cs : List Value} (hq : wr.heap.size ≤ q) (hB : Blk W q T cs) (hS : Step (fun _ => False) wr W) (k : ∀ W', wr.heap.size ≤ q → Blk W' q T cs → Step (fun _ => False) wr W' → F W') : F W := k W hq hB hS
theorem eqA23 (d : Nat) (w : World) (x0 y0 : Bool) (x1 y1 : Int) (x2 y2 : Int) (x3 y3 : Int) :
    (Op.equalIn (d + 2) 23 (.agg #[.bool x0, .int .i64 x1, .int .i64 x2, .int .i64 x3]) (.agg #[.bool y0, .int .i64 y1, .int .i64 y2, .int .i64 y3])).run Try.prog w = .ok (x0 == y0 && (x1 == y1 && (x2 == y2 && (x3 == y3)))) w := by
  refine eqA_of Try.underlying23 (by kernel_rfl) ?_
  refine eqf_cons (by rfl) (by go_simp; rfl) (by go_simp; rfl) (by go_simp) ?_
  refine eqf_cons (by rfl) (by go_simp; rfl) (by go_simp; rfl) (by go_simp) ?_
  refine eqf_cons (by rfl) (by go_simp; rfl) (by go_simp; rfl) (by go_simp) ?_
  exact eqf_last (by rfl) (by go_simp; rfl) (by go_simp; rfl) (by go_simp)
theorem eqA25 (d : Nat) (w : World) (x0 y0 : Int) (x1 y1 : Int) (x2 y2 : Int) (x3 y3 : Int) :
    (Op.equalIn (d + 2) 25 (.agg #[.int .i64 x0, .int .i64 x1, .int .i64 x2, .int .i64 x3]) (.agg #[.int .i64 y0, .int .i64 y1, .int .i64 y2, .int .i64 y3])).run Try.prog w = .ok (x0 == y0 && (x1 == y1 && (x2 == y2 && (x3 == y3)))) w := by
  refine eqA_of Try.underlying25 (by kernel_rfl) ?_
  refine eqf_cons (by rfl) (by go_simp; rfl) (by go_simp; rfl) (by go_simp) ?_
  refine eqf_cons (by rfl) (by go_simp; rfl) (by go_simp; rfl) (by go_simp) ?_
  refine eqf_cons (by rfl) (by go_simp; rfl) (by go_simp; rfl) (by go_simp) ?_
  exact eqf_last (by rfl) (by go_simp; rfl) (by go_simp; rfl) (by go_simp)
/-- Two structs of four cells stored one behind the other. -/
theorem put8 {F : World → Prop} {w w9 : World} {o x qb yb kb : Nat} {To Tx Tq Ty Tp Tc : TypeId} {o0 o1 o2 o3 x0 x1 x2 x3 u0 u1 u2 u3 : Value} {qs ys ps cs : List Value} (hO : Blk w9 o To [o0, o1, o2, o3]) (hX : Blk w9 x Tx [x0, x1, x2, x3]) (hQ : Blk w9 qb Tq qs) (hY : Blk w9 yb Ty ys) (hP : Blk w9 kb Tp ps) (hC : Blk w9 (kb + 1) Tc cs) (hS : Step (fun _ => False) w w9) (hw : w.heap.size = kb)
    (hne : o ≠ x) (hqo : qb ≠ o) (hqx : qb ≠ x) (hyo : yb ≠ o) (hyx : yb ≠ x) (hge : kb + 1 < o) (hge2 : kb + 1 < x)
    (k : ∀ W, Blk W o To [u0, u1, u2, u3] → Blk W x Tx [u0, u1, u2, u3] → Blk W qb Tq qs → Blk W yb Ty ys → Blk W kb Tp ps → Blk W (kb + 1) Tc cs → Step (fun _ => False) w W → F W) :
    F ((((((((w9.setCell ⟨o, 0, none⟩ u0).setCell ⟨o, 1, none⟩ u1).setCell ⟨o, 2, none⟩ u2).setCell ⟨o, 3, none⟩ u3).setCell ⟨x, 0, none⟩ u0).setCell ⟨x, 1, none⟩ u1).setCell ⟨x, 2, none⟩ u2).setCell ⟨x, 3, none⟩ u3).drew := by
  have hs : Step (fun j => j = o ∨ j = x) w9 ((((((((w9.setCell ⟨o, 0, none⟩ u0).setCell ⟨o, 1, none⟩ u1).setCell ⟨o, 2, none⟩ u2).setCell ⟨o, 3, none⟩ u3).setCell ⟨x, 0, none⟩ u0).setCell ⟨x, 1, none⟩ u1).setCell ⟨x, 2, none⟩ u2).setCell ⟨x, 3, none⟩ u3).drew :=
    (((((((((Step.refl _ _).setCell (fun _ => Or.inl rfl) _).setCell (fun _ => Or.inl rfl) _).setCell (fun _ => Or.inl rfl) _).setCell (fun _ => Or.inl rfl) _).setCell (fun _ => Or.inr rfl) _).setCell (fun _ => Or.inr rfl) _).setCell (fun _ => Or.inr rfl) _).setCell (fun _ => Or.inr rfl) _).drew
  refine k _ ?_ ?_ (hQ.keep hs (fun h => h.elim hqo hqx)) (hY.keep hs (fun h => h.elim hyo hyx)) (hP.keep hs (fun h => h.elim (by omega) (by omega))) (hC.keep hs (fun h => h.elim (by omega) (by omega))) ?_
  · exact ((((((((hO.set 0 _).set 1 _).set 2 _).set 3 _).other (p := ⟨x, 0, none⟩) hne _).other (p := ⟨x, 1, none⟩) hne _).other (p := ⟨x, 2, none⟩) hne _).other (p := ⟨x, 3, none⟩) hne _).drew
  · exact ((((((((hX.other (p := ⟨o, 0, none⟩) (Ne.symm hne) _).other (p := ⟨o, 1, none⟩) (Ne.symm hne) _).other (p := ⟨o, 2, none⟩) (Ne.symm hne) _).other (p := ⟨o, 3, none⟩) (Ne.symm hne) _).set 0 _).set 1 _).set 2 _).set 3 _).drew
  · exact ⟨hs.os.trans hS.os, hs.tape.trans hS.tape, hs.output.trans hS.output, Nat.le_trans hS.size hs.size, fun j hj _ => (hs.block j (Nat.lt_of_lt_of_le hj hS.size) (fun h => h.elim (by omega) (by omega))).trans (hS.block j hj (fun h => h))⟩
attribute [local go_sem high] eqA23 eqA25
attribute [local go_sem] max2_int min2_int max_two min_two

set_option maxRecDepth 100000 in
set_option maxHeartbeats 40000000 in
theorem results_calls (up : Bool) (good bad since e w0 r f : Int) (g0 : -9223372036854775808 ≤ good) (g1 : good ≤ 9223372036854775807) (b0 : -9223372036854775808 ≤ bad) (b1 : bad ≤ 9223372036854775807) (A : Option Addr) (c : Nat) (l : List Bool) (w : World) (hr0 : Kd.C Kd.bool w A l.length l) (hc0 : l.length ≤ c) :
    Calls Try.prog 3 #[.agg #[.bool up, .int .i64 good, .int .i64 bad, .int .i64 since], .agg #[.int .i64 e, .int .i64 w0, .int .i64 r, .int .i64 f], .slice A l.length c] w fun e w' => e = .returned (.bool true) ∧ Below w.heap.size w w' := by
  go_enter Try.func3, Try.ntmps3
  go_upto_region 1 with (fail)
  refine alloc_next2 (cs := [.bool up, .int .i64 good, .int .i64 bad, .int .i64 since]) (ds := [.int .i64 e, .int .i64 w0, .int .i64 r, .int .i64 f]) ?_
  intro w1 hP1 hC1 hs1 hlt1
  generalize hkbe : w.heap.size = kb at *
  have Hkb := Lib.hid hkbe
  clear hkbe
  go_wp2_with fail
  refine (stewardlaw21_awake.calls 40 true _ results_awake).mono ?_
  rintro e2 w2 ⟨rfl, hb2⟩
  have hS0 : Step (fun _ => False) w1 w2 := (Step.of_below hb2)
  have hS : Step (fun _ => False) w w2 := hs1.same hS0
  have hP := hP1.keep hS0 (fun h => h)
  have hC := hC1.keep hS0 (fun h => h)
  clear hb2 hS0 hs1 hP1 hC1
  have p0 := hP.cell (i := 0) rfl
  have p1 := hP.cell (i := 1) rfl
  have p2 := hP.cell (i := 2) rfl
  have p3 := hP.cell (i := 3) rfl
  go_wp2
  have Hmk : ∀ W, Step (fun _ => False) w2 W → Step (fun _ => False) w2 W ∧ W.cell? ⟨kb, 0, none⟩ = some (.bool up) ∧ W.cell? ⟨kb, 1, none⟩ = some (.int .i64 good) ∧ W.cell? ⟨kb, 2, none⟩ = some (.int .i64 bad) ∧ W.cell? ⟨kb, 3, none⟩ = some (.int .i64 since) := fun W h => ⟨h, (hP.keep h (fun h => h)).cell (i := 0) rfl, (hP.keep h (fun h => h)).cell (i := 1) rfl, (hP.keep h (fun h => h)).cell (i := 2) rfl, (hP.keep h (fun h => h)).cell (i := 3) rfl⟩
  have HMK := Lib.hid Hmk
  clear Hmk
  have hst0 : Step (fun _ => False) w2 w2 := Step.refl _ _
  go_region_held3 (fun W => Step (fun _ => False) w2 W ∧ W.cell? ⟨kb, 0, none⟩ = some (.bool up) ∧ W.cell? ⟨kb, 1, none⟩ = some (.int .i64 good) ∧ W.cell? ⟨kb, 2, none⟩ = some (.int .i64 bad) ∧ W.cell? ⟨kb, 3, none⟩ = some (.int .i64 since))
    ((refine HMK.out _ ?_; (repeat (first | exact hst0 | refine Step.drew ?_ | refine Step.alloc ?_ _ | refine Step.setCell ?_ (fun h => absurd h (by first | exact Nat.lt_irrefl _ | (simp [World.alloc, World.drew]))) _))))
    (fail)
  all_goals
    have hge : kb + 1 < w2.heap.size := hC.lt
    first
      | (refine hide2 (o := w2.heap.size) (x := w2.heap.size + 1) (wr := w2) (To := 28) (Tx := 23) (cs := [.bool up, .int .i64 good, .int .i64 bad, .int .i64 since]) (ds := [.bool up, .int .i64 good, .int .i64 bad, .int .i64 since]) ((blk_new w2 _ _).alloc _).drew (blk_new2 w2 _ _ _).drew (((hst0.alloc _).alloc _).drew) ?_; intro w3 hO hX hS3; have hne : w2.heap.size ≠ w2.heap.size + 1 := by omega
         have hge2 : kb + 1 < w2.heap.size + 1 := by omega
         generalize w2.heap.size + 1 = x at *; generalize w2.heap.size = o at *)
      | (refine hide2 (o := w2.heap.size + 1) (x := w2.heap.size) (wr := w2) (To := 28) (Tx := 23) (cs := [.bool up, .int .i64 good, .int .i64 bad, .int .i64 since]) (ds := [.bool up, .int .i64 good, .int .i64 bad, .int .i64 since]) (blk_new2 w2 _ _ _).drew ((blk_new w2 _ _).alloc _).drew (((hst0.alloc _).alloc _).drew) ?_; intro w3 hO hX hS3; have hne : w2.heap.size + 1 ≠ w2.heap.size := by omega
         have hge2 : kb + 1 < w2.heap.size + 1 := by omega
         generalize w2.heap.size + 1 = o at *; generalize w2.heap.size = x at *)
  all_goals
    have hP3 := hP.keep hS3 (fun h => h)
    have hC3 := hC.keep hS3 (fun h => h)
    have hS4 := hS.same hS3
    clear hP hC hS3 hS hst0 HMK p0 p1 p2 p3
  all_goals
    go_wp2
    have hq0 : (⟨up, good, bad, since, 0⟩ : St).fits := ⟨g0, g1, b0, b1⟩
    go_loopw [9, 10] (fun n i wr => ∃ (k : Nat), k ≤ l.length ∧ k ≤ 60 ∧ i = .int .i64 k ∧ n = .int .i64 (St.after (cl r 1000) (cl f 1000) l (fun j => (j : Int)) ⟨up, good, bad, since, 0⟩ k).n ∧ Blk wr o 28 [.bool (St.after (cl r 1000) (cl f 1000) l (fun j => (j : Int)) ⟨up, good, bad, since, 0⟩ k).up, .int .i64 (St.after (cl r 1000) (cl f 1000) l (fun j => (j : Int)) ⟨up, good, bad, since, 0⟩ k).good, .int .i64 (St.after (cl r 1000) (cl f 1000) l (fun j => (j : Int)) ⟨up, good, bad, since, 0⟩ k).bad, .int .i64 (St.after (cl r 1000) (cl f 1000) l (fun j => (j : Int)) ⟨up, good, bad, since, 0⟩ k).since] ∧ Blk wr x 23 [.bool (St.after (cl r 1000) (cl f 1000) l (fun j => (j : Int)) ⟨up, good, bad, since, 0⟩ k).up, .int .i64 (St.after (cl r 1000) (cl f 1000) l (fun j => (j : Int)) ⟨up, good, bad, since, 0⟩ k).good, .int .i64 (St.after (cl r 1000) (cl f 1000) l (fun j => (j : Int)) ⟨up, good, bad, since, 0⟩ k).bad, .int .i64 (St.after (cl r 1000) (cl f 1000) l (fun j => (j : Int)) ⟨up, good, bad, since, 0⟩ k).since] ∧ Blk wr kb 23 [.bool up, .int .i64 good, .int .i64 bad, .int .i64 since] ∧ Blk wr (kb + 1) 25 [.int .i64 e, .int .i64 w0, .int .i64 r, .int .i64 f] ∧ Step (fun _ => False) w wr) (fun _ i _ => l.length - (intOf i).toNat)
    case atStart => exact ⟨0, by omega, by omega, rfl, rfl, hO, hX, hP3, hC3, hS4⟩
    case round =>
      obtain ⟨k, hkl, hk60, rfl, rfl, hO, hX, hP, hC, hS⟩ := hrel
      have hr5 := Kd.C_below hr0 (hS.below (Nat.le_refl _) (fun _ h => h.elim))
      have hfit := St.after_fits hq0 (cl_hi r 1000 (by omega)) (cl_hi f 1000 (by omega)) l (fun j => (j : Int)) k
      have hcnt := St.after_n (q := ⟨up, good, bad, since, 0⟩) rfl l (fun j => (j : Int)) k (R := cl r 1000) (F := cl f 1000)
      have hnx : St.after (cl r 1000) (cl f 1000) l (fun j => (j : Int)) ⟨up, good, bad, since, 0⟩ (k + 1) = (St.after (cl r 1000) (cl f 1000) l (fun j => (j : Int)) ⟨up, good, bad, since, 0⟩ k).step (cl r 1000) (cl f 1000) (rdOf false l (k : Int)) (k : Int) := rfl
      have Hnx := Lib.hid hnx
      clear hnx
      by_cases hlt : k < l.length
      · by_cases hlt60 : k < 60
        · obtain ⟨ad, e, hcell⟩ := Kd.at_bool hr5 (k : Int) (by omega) (by omega)
          subst e
          rw [Int.toNat_natCast] at hcell
          generalize rdOf false l (k : Int) = g at *
          generalize St.after (cl r 1000) (cl f 1000) l (fun j => (j : Int)) ⟨up, good, bad, since, 0⟩ k = q at *
          obtain ⟨u5, g5, b5, s5, n5⟩ := q
          obtain ⟨f0, f1, f2, f3⟩ := hfit
          have h1 := result_is u5 g g5 b5 s5 e w0 r f (k : Int) f0 f1 f2 f3
          have h2 := ref_is u5 g g5 b5 s5 e w0 r f (k : Int) f0 f1 f2 f3
          generalize hv : rv u5 g5 b5 s5 (cl r 1000) (cl f 1000) g (k : Int) = v at *
          obtain ⟨v1, v2, v3, v4, v5⟩ := v
          have H1r : ∀ W, Calls Try.prog 16 #[.agg #[.bool u5, .int .i64 g5, .int .i64 b5, .int .i64 s5], .agg #[.int .i64 e, .int .i64 w0, .int .i64 r, .int .i64 f], .bool g, .int .i64 (k : Int)] W fun e w' => e = .returned (.tuple #[.agg #[.bool v1, .int .i64 v2, .int .i64 v3, .int .i64 v4], .bool v5]) ∧ Below W.heap.size W w' := fun W => probe_Probe_Result.calls 6 _ _ _ _ _ _ _ _ _ _ _ _ _ _ _ W h1
          have H1 := Lib.hid H1r
          clear H1r
          have H2r : ∀ W, Calls Try.prog 17 #[.agg #[.bool u5, .int .i64 g5, .int .i64 b5, .int .i64 s5], .agg #[.int .i64 e, .int .i64 w0, .int .i64 r, .int .i64 f], .bool g, .int .i64 (k : Int)] W fun e w' => e = .returned (.tuple #[.agg #[.bool v1, .int .i64 v2, .int .i64 v3, .int .i64 v4], .bool v5]) ∧ Below W.heap.size W w' := fun W => stewardref21_Result.calls _ _ _ _ _ _ _ _ _ _ _ _ _ _ _ W h2
          have H2 := Lib.hid H2r
          clear H2r
          clear h1 h2
          have hnx := Hnx.out
          simp only [St.step, hv] at hnx
          have HNX := Lib.hid hnx
          clear hnx Hnx hv
          have Hmk : ∀ W, Step (fun _ => False) wr W → (fun W => Step (fun _ => False) wr W ∧ W.cell? ⟨o, 0, none⟩ = some (.bool u5) ∧ W.cell? ⟨o, 1, none⟩ = some (.int .i64 g5) ∧ W.cell? ⟨o, 2, none⟩ = some (.int .i64 b5) ∧ W.cell? ⟨o, 3, none⟩ = some (.int .i64 s5) ∧ W.cell? ⟨kb + 1, 0, none⟩ = some (.int .i64 e) ∧ W.cell? ⟨kb + 1, 1, none⟩ = some (.int .i64 w0) ∧ W.cell? ⟨kb + 1, 2, none⟩ = some (.int .i64 r) ∧ W.cell? ⟨kb + 1, 3, none⟩ = some (.int .i64 f) ∧ W.cell? (ad.add k) = some (.bool g)) W := fun W h => ⟨h, (hO.keep h (fun h => h)).cell (i := 0) rfl, (hO.keep h (fun h => h)).cell (i := 1) rfl, (hO.keep h (fun h => h)).cell (i := 2) rfl, (hO.keep h (fun h => h)).cell (i := 3) rfl, (hC.keep h (fun h => h)).cell (i := 0) rfl, (hC.keep h (fun h => h)).cell (i := 1) rfl, (hC.keep h (fun h => h)).cell (i := 2) rfl, (hC.keep h (fun h => h)).cell (i := 3) rfl, cell_later (h.below (Nat.le_refl _) (fun _ h => h.elim)) hcell⟩
          have HMK := Lib.hid Hmk
          clear Hmk
          have hst0 : Step (fun _ => False) wr wr := Step.refl _ _
          go_upto_region 8 with (fail)
          go_region_held3 (fun W => Step (fun _ => False) wr W ∧ W.cell? ⟨o, 0, none⟩ = some (.bool u5) ∧ W.cell? ⟨o, 1, none⟩ = some (.int .i64 g5) ∧ W.cell? ⟨o, 2, none⟩ = some (.int .i64 b5) ∧ W.cell? ⟨o, 3, none⟩ = some (.int .i64 s5) ∧ W.cell? ⟨kb + 1, 0, none⟩ = some (.int .i64 e) ∧ W.cell? ⟨kb + 1, 1, none⟩ = some (.int .i64 w0) ∧ W.cell? ⟨kb + 1, 2, none⟩ = some (.int .i64 r) ∧ W.cell? ⟨kb + 1, 3, none⟩ = some (.int .i64 f) ∧ W.cell? (ad.add k) = some (.bool g))
            ((refine HMK.out _ ?_; first | exact Step.drew hst0 | exact Step.then_below (Step.drew hst0) hb5 | exact (Step.then_below (Step.drew (Step.alloc hst0 _)) hb5) | exact (Step.alloc (Step.then_below (Step.drew hst0) hb5) _) | exact Step.drew (Step.alloc hst0 _) | exact (((((Step.then_below (Step.drew (Step.alloc hst0 _)) hb5).setCell (fun h => absurd h (Nat.lt_irrefl _)) _).setCell (fun h => absurd h (Nat.lt_irrefl _)) _).setCell (fun h => absurd h (Nat.lt_irrefl _)) _).setCell (fun h => absurd h (Nat.lt_irrefl _)) _) | exact (((((Step.alloc (Step.then_below (Step.drew hst0) hb5) _).setCell (fun h => absurd h (Nat.not_lt.2 (Step.size (Step.then_below (Step.drew hst0) hb5)))) _).setCell (fun h => absurd h (Nat.not_lt.2 (Step.size (Step.then_below (Step.drew hst0) hb5)))) _).setCell (fun h => absurd h (Nat.not_lt.2 (Step.size (Step.then_below (Step.drew hst0) hb5)))) _).setCell (fun h => absurd h (Nat.not_lt.2 (Step.size (Step.then_below (Step.drew hst0) hb5)))) _)))
            (first | (go_at_call 16; refine (H1.out _).mono ?_; rintro e5 w5 ⟨rfl, hb5⟩; try (have hx := (blk_new wr [.bool false, .int .i64 0, .int .i64 0, .int .i64 0] 28).drew.keep (Step.of_below (F := fun _ => False) hb5) (fun h => h); have x0 := hx.cell (i := 0) rfl; have x1 := hx.cell (i := 1) rfl; have x2 := hx.cell (i := 2) rfl; have x3 := hx.cell (i := 3) rfl; have f0 := hx.free 0; have f1 := hx.free 1; have f2 := hx.free 2; have f3 := hx.free 3)))
          all_goals
            first
              | (refine world_hide (q := wr.heap.size) (wr := wr) (T := 28) (cs := [.bool v1, .int .i64 v2, .int .i64 v3, .int .i64 v4]) (Nat.le_refl _) ((((hx.set 0 _).set 1 _).set 2 _).set 3 _) ((((((Step.then_below (Step.drew (Step.alloc hst0 _)) hb5).setCell (fun h => absurd h (Nat.lt_irrefl _)) _).setCell (fun h => absurd h (Nat.lt_irrefl _)) _).setCell (fun h => absurd h (Nat.lt_irrefl _)) _).setCell (fun h => absurd h (Nat.lt_irrefl _)) _)) ?_; clear hx x0 x1 x2 x3 f0 f1 f2 f3; intro w6 hqq hQ hSn; have hqo := Nat.ne_of_gt (Nat.lt_of_lt_of_le hO.lt hqq); have hqx := Nat.ne_of_gt (Nat.lt_of_lt_of_le hX.lt hqq); clear hqq; generalize wr.heap.size = qb at hQ hqo hqx ⊢)
              | (refine world_hide (q := w5.heap.size) (wr := wr) (T := 28) (cs := [.bool v1, .int .i64 v2, .int .i64 v3, .int .i64 v4]) (Step.size (Step.then_below (Step.drew hst0) hb5)) (blk_new w5 [.bool v1, .int .i64 v2, .int .i64 v3, .int .i64 v4] _) (Step.alloc (Step.then_below (Step.drew hst0) hb5) _) ?_; intro w6 hqq hQ hSn; have hqo := Nat.ne_of_gt (Nat.lt_of_lt_of_le hO.lt hqq); have hqx := Nat.ne_of_gt (Nat.lt_of_lt_of_le hX.lt hqq); clear hqq; generalize w5.heap.size = qb at hQ hqo hqx ⊢)
              | (refine world_hide (q := w5.heap.size) (wr := wr) (T := 28) (cs := [.bool v1, .int .i64 v2, .int .i64 v3, .int .i64 v4]) (Step.size (Step.then_below (Step.drew hst0) hb5)) (((((blk_new w5 [.bool false, .int .i64 0, .int .i64 0, .int .i64 0] _).set 0 _).set 1 _).set 2 _).set 3 _) ((((((Step.alloc (Step.then_below (Step.drew hst0) hb5) _).setCell (fun h => absurd h (Nat.not_lt.2 (Step.size (Step.then_below (Step.drew hst0) hb5)))) _).setCell (fun h => absurd h (Nat.not_lt.2 (Step.size (Step.then_below (Step.drew hst0) hb5)))) _).setCell (fun h => absurd h (Nat.not_lt.2 (Step.size (Step.then_below (Step.drew hst0) hb5)))) _).setCell (fun h => absurd h (Nat.not_lt.2 (Step.size (Step.then_below (Step.drew hst0) hb5)))) _)) ?_; intro w6 hqq hQ hSn; have hqo := Nat.ne_of_gt (Nat.lt_of_lt_of_le hO.lt hqq); have hqx := Nat.ne_of_gt (Nat.lt_of_lt_of_le hX.lt hqq); clear hqq; generalize w5.heap.size = qb at hQ hqo hqx ⊢)
          all_goals
            have hS6 := hSn
            have hO6 := hO.keep hS6 (fun h => h)
            have hX6 := hX.keep hS6 (fun h => h)
            have hP6 := hP.keep hS6 (fun h => h)
            have hC6 := hC.keep hS6 (fun h => h)
            have hcell6 := cell_later (hS6.below (Nat.le_refl _) (fun _ h => h.elim)) hcell
            have hS7 := hS.same hS6
            clear hSn hb5 HMK H1 hst0 hO hX hP hC hcell hS6 hS hr5
            have Hmk : ∀ W, Step (fun _ => False) w6 W → (fun W => Step (fun _ => False) w6 W ∧ W.cell? ⟨x, 0, none⟩ = some (.bool u5) ∧ W.cell? ⟨x, 1, none⟩ = some (.int .i64 g5) ∧ W.cell? ⟨x, 2, none⟩ = some (.int .i64 b5) ∧ W.cell? ⟨x, 3, none⟩ = some (.int .i64 s5) ∧ W.cell? ⟨kb + 1, 0, none⟩ = some (.int .i64 e) ∧ W.cell? ⟨kb + 1, 1, none⟩ = some (.int .i64 w0) ∧ W.cell? ⟨kb + 1, 2, none⟩ = some (.int .i64 r) ∧ W.cell? ⟨kb + 1, 3, none⟩ = some (.int .i64 f) ∧ W.cell? (ad.add k) = some (.bool g)) W := fun W h => ⟨h, (hX6.keep h (fun h => h)).cell (i := 0) rfl, (hX6.keep h (fun h => h)).cell (i := 1) rfl, (hX6.keep h (fun h => h)).cell (i := 2) rfl, (hX6.keep h (fun h => h)).cell (i := 3) rfl, (hC6.keep h (fun h => h)).cell (i := 0) rfl, (hC6.keep h (fun h => h)).cell (i := 1) rfl, (hC6.keep h (fun h => h)).cell (i := 2) rfl, (hC6.keep h (fun h => h)).cell (i := 3) rfl, cell_later (h.below (Nat.le_refl _) (fun _ h => h.elim)) hcell6⟩
            have HMK := Lib.hid Hmk
            clear Hmk
            have hst0 : Step (fun _ => False) w6 w6 := Step.refl _ _
            go_upto_region 9 with (fail)
            go_region_held3 (fun W => Step (fun _ => False) w6 W ∧ W.cell? ⟨x, 0, none⟩ = some (.bool u5) ∧ W.cell? ⟨x, 1, none⟩ = some (.int .i64 g5) ∧ W.cell? ⟨x, 2, none⟩ = some (.int .i64 b5) ∧ W.cell? ⟨x, 3, none⟩ = some (.int .i64 s5) ∧ W.cell? ⟨kb + 1, 0, none⟩ = some (.int .i64 e) ∧ W.cell? ⟨kb + 1, 1, none⟩ = some (.int .i64 w0) ∧ W.cell? ⟨kb + 1, 2, none⟩ = some (.int .i64 r) ∧ W.cell? ⟨kb + 1, 3, none⟩ = some (.int .i64 f) ∧ W.cell? (ad.add k) = some (.bool g))
              ((refine HMK.out _ ?_; first | exact Step.drew hst0 | exact Step.then_below (Step.drew hst0) hb5 | exact (Step.then_below (Step.drew (Step.alloc hst0 _)) hb5) | exact (Step.alloc (Step.then_below (Step.drew hst0) hb5) _) | exact Step.drew (Step.alloc hst0 _) | exact (((((Step.then_below (Step.drew (Step.alloc hst0 _)) hb5).setCell (fun h => absurd h (Nat.lt_irrefl _)) _).setCell (fun h => absurd h (Nat.lt_irrefl _)) _).setCell (fun h => absurd h (Nat.lt_irrefl _)) _).setCell (fun h => absurd h (Nat.lt_irrefl _)) _) | exact (((((Step.alloc (Step.then_below (Step.drew hst0) hb5) _).setCell (fun h => absurd h (Nat.not_lt.2 (Step.size (Step.then_below (Step.drew hst0) hb5)))) _).setCell (fun h => absurd h (Nat.not_lt.2 (Step.size (Step.then_below (Step.drew hst0) hb5)))) _).setCell (fun h => absurd h (Nat.not_lt.2 (Step.size (Step.then_below (Step.drew hst0) hb5)))) _).setCell (fun h => absurd h (Nat.not_lt.2 (Step.size (Step.then_below (Step.drew hst0) hb5)))) _)))
              (first | (go_at_call 17; refine (H2.out _).mono ?_; rintro e5 w8 ⟨rfl, hb5⟩; try (have hx := (blk_new w6 [.bool false, .int .i64 0, .int .i64 0, .int .i64 0] 23).drew.keep (Step.of_below (F := fun _ => False) hb5) (fun h => h); have x0 := hx.cell (i := 0) rfl; have x1 := hx.cell (i := 1) rfl; have x2 := hx.cell (i := 2) rfl; have x3 := hx.cell (i := 3) rfl; have f0 := hx.free 0; have f1 := hx.free 1; have f2 := hx.free 2; have f3 := hx.free 3)))
            all_goals
              first
                | (refine world_hide (q := w6.heap.size) (wr := w6) (T := 23) (cs := [.bool v1, .int .i64 v2, .int .i64 v3, .int .i64 v4]) (Nat.le_refl _) ((((hx.set 0 _).set 1 _).set 2 _).set 3 _) ((((((Step.then_below (Step.drew (Step.alloc hst0 _)) hb5).setCell (fun h => absurd h (Nat.lt_irrefl _)) _).setCell (fun h => absurd h (Nat.lt_irrefl _)) _).setCell (fun h => absurd h (Nat.lt_irrefl _)) _).setCell (fun h => absurd h (Nat.lt_irrefl _)) _)) ?_; clear hx x0 x1 x2 x3 f0 f1 f2 f3; intro w9 hqq hY hSn; have hyo := Nat.ne_of_gt (Nat.lt_of_lt_of_le hO6.lt hqq); have hyx := Nat.ne_of_gt (Nat.lt_of_lt_of_le hX6.lt hqq); clear hqq; generalize w6.heap.size = yb at hY hyo hyx ⊢)
                | (refine world_hide (q := w8.heap.size) (wr := w6) (T := 23) (cs := [.bool v1, .int .i64 v2, .int .i64 v3, .int .i64 v4]) (Step.size (Step.then_below (Step.drew hst0) hb5)) (blk_new w8 [.bool v1, .int .i64 v2, .int .i64 v3, .int .i64 v4] _) (Step.alloc (Step.then_below (Step.drew hst0) hb5) _) ?_; intro w9 hqq hY hSn; have hyo := Nat.ne_of_gt (Nat.lt_of_lt_of_le hO6.lt hqq); have hyx := Nat.ne_of_gt (Nat.lt_of_lt_of_le hX6.lt hqq); clear hqq; generalize w8.heap.size = yb at hY hyo hyx ⊢)
                | (refine world_hide (q := w8.heap.size) (wr := w6) (T := 23) (cs := [.bool v1, .int .i64 v2, .int .i64 v3, .int .i64 v4]) (Step.size (Step.then_below (Step.drew hst0) hb5)) (((((blk_new w8 [.bool false, .int .i64 0, .int .i64 0, .int .i64 0] _).set 0 _).set 1 _).set 2 _).set 3 _) ((((((Step.alloc (Step.then_below (Step.drew hst0) hb5) _).setCell (fun h => absurd h (Nat.not_lt.2 (Step.size (Step.then_below (Step.drew hst0) hb5)))) _).setCell (fun h => absurd h (Nat.not_lt.2 (Step.size (Step.then_below (Step.drew hst0) hb5)))) _).setCell (fun h => absurd h (Nat.not_lt.2 (Step.size (Step.then_below (Step.drew hst0) hb5)))) _).setCell (fun h => absurd h (Nat.not_lt.2 (Step.size (Step.then_below (Step.drew hst0) hb5)))) _)) ?_; intro w9 hqq hY hSn; have hyo := Nat.ne_of_gt (Nat.lt_of_lt_of_le hO6.lt hqq); have hyx := Nat.ne_of_gt (Nat.lt_of_lt_of_le hX6.lt hqq); clear hqq; generalize w8.heap.size = yb at hY hyo hyx ⊢)
            all_goals
              have hS9 := hSn
              have hO9 := hO6.keep hS9 (fun h => h)
              have hX9 := hX6.keep hS9 (fun h => h)
              have hP9 := hP6.keep hS9 (fun h => h)
              have hC9 := hC6.keep hS9 (fun h => h)
              have hQ9 := hQ.keep hS9 (fun h => h)
              have hS10 := hS7.same hS9
              clear hSn hb5 HMK H2 hst0 hO6 hX6 hP6 hC6 hcell6 hS9 hS7 hQ
              have q0 := hQ9.cell (i := 0) rfl
              have q1 := hQ9.cell (i := 1) rfl
              have q2 := hQ9.cell (i := 2) rfl
              have q3 := hQ9.cell (i := 3) rfl
              have y0 := hY.cell (i := 0) rfl
              have y1 := hY.cell (i := 1) rfl
              have y2 := hY.cell (i := 2) rfl
              have y3 := hY.cell (i := 3) rfl
              have o0 := hO9.cell (i := 0) rfl
              have o1 := hO9.cell (i := 1) rfl
              have o2 := hO9.cell (i := 2) rfl
              have o3 := hO9.cell (i := 3) rfl
              have x0 := hX9.cell (i := 0) rfl
              have x1 := hX9.cell (i := 1) rfl
              have x2 := hX9.cell (i := 2) rfl
              have x3 := hX9.cell (i := 3) rfl
              have fo0 := hO9.free 0
              have fo1 := hO9.free 1
              have fo2 := hO9.free 2
              have fo3 := hO9.free 3
              have fx0 := hX9.free 0
              have fx1 := hX9.free 1
              have fx2 := hX9.free 2
              have fx3 := hX9.free 3
              have hne2 : x ≠ o := fun h => hne h.symm
              go_upto_region 10 with (fail)
              go_region
              refine put8 hO9 hX9 hQ9 hY hP9 hC9 hS10 Hkb.out hne hqo hqx hyo hyx (by omega) (by omega) ?_
              clear q0 q1 q2 q3 y0 y1 y2 y3 o0 o1 o2 o3 x0 x1 x2 x3 fo0 fo1 fo2 fo3 fx0 fx1 fx2 fx3 hO9 hX9 hQ9 hY hP9 hC9 hS10 hqo hqx hyo hyx hne2
              intro w11 hO11 hX11 hQ11 hY11 hP11 hC11 hS11
              have q0 := hQ11.cell (i := 0) rfl
              have q1 := hQ11.cell (i := 1) rfl
              have q2 := hQ11.cell (i := 2) rfl
              have q3 := hQ11.cell (i := 3) rfl
              have y0 := hY11.cell (i := 0) rfl
              have y1 := hY11.cell (i := 1) rfl
              have y2 := hY11.cell (i := 2) rfl
              have y3 := hY11.cell (i := 3) rfl
              clear hQ11 hY11
              go_wp2
              all_goals
                refine ⟨⟨k + 1, by omega, by omega, by go_num, ?_, ?_, ?_, hP11, hC11, hS11⟩, ?_⟩
                · rw [HNX.out]; simp_all
                · rw [HNX.out]; exact hO11
                · rw [HNX.out]; exact hX11
                · simp [intOf]; omega
              
        · skip
          obtain ⟨z, hz⟩ := run_end l e w0 r f ⟨up, good, bad, since, 0⟩ hq0 rfl k hkl hk60 _ rfl
          generalize hqe : St.after (cl r 1000) (cl f 1000) l (fun j => (j : Int)) ⟨up, good, bad, since, 0⟩ k = q at *
          clear hqe Hnx hfit hcnt
          obtain ⟨u5, g5, b5, s5, n5⟩ := q
          have hlk : (l.take k).length = k := by rw [List.length_take]; omega
          have HRr : ∀ W, Step (fun _ => False) wr W → Calls Try.prog 18 #[.agg #[.bool up, .int .i64 good, .int .i64 bad, .int .i64 since], .agg #[.int .i64 e, .int .i64 w0, .int .i64 r, .int .i64 f], .int .i64 7, .slice A k c] W fun e w' => e = .returned (.tuple #[.agg #[.bool u5, .int .i64 g5, .int .i64 b5, .int .i64 z], .int .i64 n5]) ∧ Below W.heap.size W w' := fun W h => by
            have h1 := Kd.C_take (Kd.C_below hr5 (h.below (Nat.le_refl _) (fun _ h => h.elim))) hkl
            have h2 := probe_Probe_Run.calls (k + 7) up good bad since e w0 r f 7 A c (l.take k) u5 g5 b5 z n5 W h1 (by rw [hlk]; omega) hz
            rw [hlk] at h2
            exact h2
          obtain rfl : k = 60 := by omega
          have hcb : (60 : Int) ≤ (c : Int) := by omega
          have hml : (60 : Int) < (l.length : Int) := by omega
          have HR := Lib.hid HRr
          clear HRr hz hlk
          have Hmk : ∀ W, Step (fun _ => False) wr W → (fun W => Step (fun _ => False) wr W ∧ W.cell? ⟨kb, 0, none⟩ = some (.bool up) ∧ W.cell? ⟨kb, 1, none⟩ = some (.int .i64 good) ∧ W.cell? ⟨kb, 2, none⟩ = some (.int .i64 bad) ∧ W.cell? ⟨kb, 3, none⟩ = some (.int .i64 since) ∧ W.cell? ⟨kb + 1, 0, none⟩ = some (.int .i64 e) ∧ W.cell? ⟨kb + 1, 1, none⟩ = some (.int .i64 w0) ∧ W.cell? ⟨kb + 1, 2, none⟩ = some (.int .i64 r) ∧ W.cell? ⟨kb + 1, 3, none⟩ = some (.int .i64 f)) W := fun W h => ⟨h, (hP.keep h (fun h => h)).cell (i := 0) rfl, (hP.keep h (fun h => h)).cell (i := 1) rfl, (hP.keep h (fun h => h)).cell (i := 2) rfl, (hP.keep h (fun h => h)).cell (i := 3) rfl, (hC.keep h (fun h => h)).cell (i := 0) rfl, (hC.keep h (fun h => h)).cell (i := 1) rfl, (hC.keep h (fun h => h)).cell (i := 2) rfl, (hC.keep h (fun h => h)).cell (i := 3) rfl⟩
          have HMK := Lib.hid Hmk
          clear Hmk
          have hst0 : Step (fun _ => False) wr wr := Step.refl _ _
          go_upto_region 15 with (fail)
          go_region_held3 (fun W => Step (fun _ => False) wr W ∧ W.cell? ⟨kb, 0, none⟩ = some (.bool up) ∧ W.cell? ⟨kb, 1, none⟩ = some (.int .i64 good) ∧ W.cell? ⟨kb, 2, none⟩ = some (.int .i64 bad) ∧ W.cell? ⟨kb, 3, none⟩ = some (.int .i64 since) ∧ W.cell? ⟨kb + 1, 0, none⟩ = some (.int .i64 e) ∧ W.cell? ⟨kb + 1, 1, none⟩ = some (.int .i64 w0) ∧ W.cell? ⟨kb + 1, 2, none⟩ = some (.int .i64 r) ∧ W.cell? ⟨kb + 1, 3, none⟩ = some (.int .i64 f))
            ((refine HMK.out _ ?_; first | exact Step.drew hst0 | exact Step.then_below (Step.drew hst0) hb5 | exact (Step.then_below (Step.drew (Step.alloc hst0 _)) hb5) | exact (Step.alloc (Step.then_below (Step.drew hst0) hb5) _) | exact Step.drew (Step.alloc hst0 _) | exact (((((Step.then_below (Step.drew (Step.alloc hst0 _)) hb5).setCell (fun h => absurd h (Nat.lt_irrefl _)) _).setCell (fun h => absurd h (Nat.lt_irrefl _)) _).setCell (fun h => absurd h (Nat.lt_irrefl _)) _).setCell (fun h => absurd h (Nat.lt_irrefl _)) _) | exact (((((Step.alloc (Step.then_below (Step.drew hst0) hb5) _).setCell (fun h => absurd h (Nat.not_lt.2 (Step.size (Step.then_below (Step.drew hst0) hb5)))) _).setCell (fun h => absurd h (Nat.not_lt.2 (Step.size (Step.then_below (Step.drew hst0) hb5)))) _).setCell (fun h => absurd h (Nat.not_lt.2 (Step.size (Step.then_below (Step.drew hst0) hb5)))) _).setCell (fun h => absurd h (Nat.not_lt.2 (Step.size (Step.then_below (Step.drew hst0) hb5)))) _)))
            (first | (go_at_call 18; first | (refine (HR.out _ (Step.drew (Step.alloc hst0 _))).mono ?_; rintro e5 w5 ⟨rfl, hb5⟩; have hx := (blk_new wr [.bool false, .int .i64 0, .int .i64 0, .int .i64 0] 28).drew.keep (Step.of_below (F := fun _ => False) hb5) (fun h => h); have x0 := hx.cell (i := 0) rfl; have x1 := hx.cell (i := 1) rfl; have x2 := hx.cell (i := 2) rfl; have x3 := hx.cell (i := 3) rfl; have f0 := hx.free 0; have f1 := hx.free 1; have f2 := hx.free 2; have f3 := hx.free 3) | (refine (HR.out _ (Step.drew hst0)).mono ?_; rintro e5 w5 ⟨rfl, hb5⟩)))
          all_goals
            first
              | (refine world_hide (q := wr.heap.size) (wr := wr) (T := 28) (cs := [.bool u5, .int .i64 g5, .int .i64 b5, .int .i64 z]) (Nat.le_refl _) ((((hx.set 0 _).set 1 _).set 2 _).set 3 _) ((((((Step.then_below (Step.drew (Step.alloc hst0 _)) hb5).setCell (fun h => absurd h (Nat.lt_irrefl _)) _).setCell (fun h => absurd h (Nat.lt_irrefl _)) _).setCell (fun h => absurd h (Nat.lt_irrefl _)) _).setCell (fun h => absurd h (Nat.lt_irrefl _)) _)) ?_; clear hx x0 x1 x2 x3 f0 f1 f2 f3; intro w16 hqq hE hS16; generalize wr.heap.size = eb at hE ⊢)
              | (refine world_hide (q := w5.heap.size) (wr := wr) (T := 28) (cs := [.bool u5, .int .i64 g5, .int .i64 b5, .int .i64 z]) (Step.size (Step.then_below (Step.drew hst0) hb5)) (blk_new w5 [.bool u5, .int .i64 g5, .int .i64 b5, .int .i64 z] _) (Step.alloc (Step.then_below (Step.drew hst0) hb5) _) ?_; intro w16 hqq hE hS16; generalize w5.heap.size = eb at hE ⊢)
              | (refine world_hide (q := w5.heap.size) (wr := wr) (T := 28) (cs := [.bool u5, .int .i64 g5, .int .i64 b5, .int .i64 z]) (Step.size (Step.then_below (Step.drew hst0) hb5)) (((((blk_new w5 [.bool false, .int .i64 0, .int .i64 0, .int .i64 0] _).set 0 _).set 1 _).set 2 _).set 3 _) ((((((Step.alloc (Step.then_below (Step.drew hst0) hb5) _).setCell (fun h => absurd h (Nat.not_lt.2 (Step.size (Step.then_below (Step.drew hst0) hb5)))) _).setCell (fun h => absurd h (Nat.not_lt.2 (Step.size (Step.then_below (Step.drew hst0) hb5)))) _).setCell (fun h => absurd h (Nat.not_lt.2 (Step.size (Step.then_below (Step.drew hst0) hb5)))) _).setCell (fun h => absurd h (Nat.not_lt.2 (Step.size (Step.then_below (Step.drew hst0) hb5)))) _)) ?_; intro w16 hqq hE hS16; generalize w5.heap.size = eb at hE ⊢)
          all_goals
            have hC16 := hC.keep hS16 (fun h => h)
            have hO16 := hO.keep hS16 (fun h => h)
            have hS17 := hS.same hS16
            clear hqq hb5 HMK hst0 hO hX hP hC hS hS16 hr5 HR
            have HAr : ∀ W, Calls Try.prog 19 #[.agg #[.int .i64 e, .int .i64 w0, .int .i64 r, .int .i64 f]] W fun e' w' => e' = .returned (.agg #[.int .i64 (cl e 1048576), .int .i64 (cl w0 1048576), .int .i64 (cl r 1000), .int .i64 (cl f 1000)]) ∧ Below W.heap.size W w' := fun W => probe_Config_Clip.calls e w0 r f _ _ _ _ W (clip_is e w0 r f)
            have HBr : ∀ W, Calls Try.prog 20 #[.agg #[.int .i64 e, .int .i64 w0, .int .i64 r, .int .i64 f]] W fun e' w' => e' = .returned (.agg #[.int .i64 (cl e 1048576), .int .i64 (cl w0 1048576), .int .i64 (cl r 1000), .int .i64 (cl f 1000)]) ∧ Below W.heap.size W w' := fun W => stewardref21_Clip.calls e w0 r f _ _ _ _ W (refclip_is e w0 r f)
            generalize cl e 1048576 = C1 at HAr HBr
            generalize cl w0 1048576 = C2 at HAr HBr
            generalize cl r 1000 = C3 at HAr HBr
            generalize cl f 1000 = C4 at HAr HBr
            have HA := Lib.hid HAr
            have HB := Lib.hid HBr
            clear HAr HBr
            have Hmk : ∀ W, Step (fun _ => False) w16 W → (fun W => Step (fun _ => False) w16 W ∧ W.cell? ⟨kb + 1, 0, none⟩ = some (.int .i64 e) ∧ W.cell? ⟨kb + 1, 1, none⟩ = some (.int .i64 w0) ∧ W.cell? ⟨kb + 1, 2, none⟩ = some (.int .i64 r) ∧ W.cell? ⟨kb + 1, 3, none⟩ = some (.int .i64 f) ∧ W.cell? ⟨eb, 0, none⟩ = some (.bool u5) ∧ W.cell? ⟨eb, 1, none⟩ = some (.int .i64 g5) ∧ W.cell? ⟨eb, 2, none⟩ = some (.int .i64 b5) ∧ W.cell? ⟨o, 0, none⟩ = some (.bool u5) ∧ W.cell? ⟨o, 1, none⟩ = some (.int .i64 g5) ∧ W.cell? ⟨o, 2, none⟩ = some (.int .i64 b5)) W := fun W h => ⟨h, (hC16.keep h (fun h => h)).cell (i := 0) rfl, (hC16.keep h (fun h => h)).cell (i := 1) rfl, (hC16.keep h (fun h => h)).cell (i := 2) rfl, (hC16.keep h (fun h => h)).cell (i := 3) rfl, (hE.keep h (fun h => h)).cell (i := 0) rfl, (hE.keep h (fun h => h)).cell (i := 1) rfl, (hE.keep h (fun h => h)).cell (i := 2) rfl, (hO16.keep h (fun h => h)).cell (i := 0) rfl, (hO16.keep h (fun h => h)).cell (i := 1) rfl, (hO16.keep h (fun h => h)).cell (i := 2) rfl⟩
            have HMK := Lib.hid Hmk
            clear Hmk
            have hst0 : Step (fun _ => False) w16 w16 := Step.refl _ _
            go_upto_region 16 with (fail)
            go_region_held3 (fun W => Step (fun _ => False) w16 W ∧ W.cell? ⟨kb + 1, 0, none⟩ = some (.int .i64 e) ∧ W.cell? ⟨kb + 1, 1, none⟩ = some (.int .i64 w0) ∧ W.cell? ⟨kb + 1, 2, none⟩ = some (.int .i64 r) ∧ W.cell? ⟨kb + 1, 3, none⟩ = some (.int .i64 f) ∧ W.cell? ⟨eb, 0, none⟩ = some (.bool u5) ∧ W.cell? ⟨eb, 1, none⟩ = some (.int .i64 g5) ∧ W.cell? ⟨eb, 2, none⟩ = some (.int .i64 b5) ∧ W.cell? ⟨o, 0, none⟩ = some (.bool u5) ∧ W.cell? ⟨o, 1, none⟩ = some (.int .i64 g5) ∧ W.cell? ⟨o, 2, none⟩ = some (.int .i64 b5))
              ((refine HMK.out _ ?_; first | exact Step.drew hst0 | exact Step.then_below (Step.drew hst0) hbA | exact Step.then_below (Step.then_below (Step.drew hst0) hbA) hbB))
              (first | (go_at_call 19; refine (HA.out _).mono ?_; rintro e17 w17 ⟨rfl, hbA⟩) | (go_at_call 20; refine (HB.out _).mono ?_; rintro e18 w18 ⟨rfl, hbB⟩))
            all_goals
              go_wp2
              go_ret
              exact ⟨rfl, (hS17.same (Step.then_below (Step.then_below (Step.drew hst0) hbA) hbB)).below (by first | exact Nat.le_refl _ | (rw [Hkb.out]; exact Nat.le_refl _)) (fun _ h => h.elim)⟩
      · skip
        obtain ⟨z, hz⟩ := run_end l e w0 r f ⟨up, good, bad, since, 0⟩ hq0 rfl k hkl hk60 _ rfl
        generalize hqe : St.after (cl r 1000) (cl f 1000) l (fun j => (j : Int)) ⟨up, good, bad, since, 0⟩ k = q at *
        clear hqe Hnx hfit hcnt
        obtain ⟨u5, g5, b5, s5, n5⟩ := q
        have hlk : (l.take k).length = k := by rw [List.length_take]; omega
        have HRr : ∀ W, Step (fun _ => False) wr W → Calls Try.prog 18 #[.agg #[.bool up, .int .i64 good, .int .i64 bad, .int .i64 since], .agg #[.int .i64 e, .int .i64 w0, .int .i64 r, .int .i64 f], .int .i64 7, .slice A k c] W fun e w' => e = .returned (.tuple #[.agg #[.bool u5, .int .i64 g5, .int .i64 b5, .int .i64 z], .int .i64 n5]) ∧ Below W.heap.size W w' := fun W h => by
          have h1 := Kd.C_take (Kd.C_below hr5 (h.below (Nat.le_refl _) (fun _ h => h.elim))) hkl
          have h2 := probe_Probe_Run.calls (k + 7) up good bad since e w0 r f 7 A c (l.take k) u5 g5 b5 z n5 W h1 (by rw [hlk]; omega) hz
          rw [hlk] at h2
          exact h2
        obtain rfl : k = l.length := by omega
        have hcb : (l.length : Int) ≤ (c : Int) := by omega
        have hml : ¬ ((60 : Int) < (l.length : Int)) := by omega
        have HR := Lib.hid HRr
        clear HRr hz hlk
        have Hmk : ∀ W, Step (fun _ => False) wr W → (fun W => Step (fun _ => False) wr W ∧ W.cell? ⟨kb, 0, none⟩ = some (.bool up) ∧ W.cell? ⟨kb, 1, none⟩ = some (.int .i64 good) ∧ W.cell? ⟨kb, 2, none⟩ = some (.int .i64 bad) ∧ W.cell? ⟨kb, 3, none⟩ = some (.int .i64 since) ∧ W.cell? ⟨kb + 1, 0, none⟩ = some (.int .i64 e) ∧ W.cell? ⟨kb + 1, 1, none⟩ = some (.int .i64 w0) ∧ W.cell? ⟨kb + 1, 2, none⟩ = some (.int .i64 r) ∧ W.cell? ⟨kb + 1, 3, none⟩ = some (.int .i64 f)) W := fun W h => ⟨h, (hP.keep h (fun h => h)).cell (i := 0) rfl, (hP.keep h (fun h => h)).cell (i := 1) rfl, (hP.keep h (fun h => h)).cell (i := 2) rfl, (hP.keep h (fun h => h)).cell (i := 3) rfl, (hC.keep h (fun h => h)).cell (i := 0) rfl, (hC.keep h (fun h => h)).cell (i := 1) rfl, (hC.keep h (fun h => h)).cell (i := 2) rfl, (hC.keep h (fun h => h)).cell (i := 3) rfl⟩
        have HMK := Lib.hid Hmk
        clear Hmk
        have hst0 : Step (fun _ => False) wr wr := Step.refl _ _
        go_upto_region 15 with (fail)
        go_region_held3 (fun W => Step (fun _ => False) wr W ∧ W.cell? ⟨kb, 0, none⟩ = some (.bool up) ∧ W.cell? ⟨kb, 1, none⟩ = some (.int .i64 good) ∧ W.cell? ⟨kb, 2, none⟩ = some (.int .i64 bad) ∧ W.cell? ⟨kb, 3, none⟩ = some (.int .i64 since) ∧ W.cell? ⟨kb + 1, 0, none⟩ = some (.int .i64 e) ∧ W.cell? ⟨kb + 1, 1, none⟩ = some (.int .i64 w0) ∧ W.cell? ⟨kb + 1, 2, none⟩ = some (.int .i64 r) ∧ W.cell? ⟨kb + 1, 3, none⟩ = some (.int .i64 f))
          ((refine HMK.out _ ?_; first | exact Step.drew hst0 | exact Step.then_below (Step.drew hst0) hb5 | exact (Step.then_below (Step.drew (Step.alloc hst0 _)) hb5) | exact (Step.alloc (Step.then_below (Step.drew hst0) hb5) _) | exact Step.drew (Step.alloc hst0 _) | exact (((((Step.then_below (Step.drew (Step.alloc hst0 _)) hb5).setCell (fun h => absurd h (Nat.lt_irrefl _)) _).setCell (fun h => absurd h (Nat.lt_irrefl _)) _).setCell (fun h => absurd h (Nat.lt_irrefl _)) _).setCell (fun h => absurd h (Nat.lt_irrefl _)) _) | exact (((((Step.alloc (Step.then_below (Step.drew hst0) hb5) _).setCell (fun h => absurd h (Nat.not_lt.2 (Step.size (Step.then_below (Step.drew hst0) hb5)))) _).setCell (fun h => absurd h (Nat.not_lt.2 (Step.size (Step.then_below (Step.drew hst0) hb5)))) _).setCell (fun h => absurd h (Nat.not_lt.2 (Step.size (Step.then_below (Step.drew hst0) hb5)))) _).setCell (fun h => absurd h (Nat.not_lt.2 (Step.size (Step.then_below (Step.drew hst0) hb5)))) _)))
          (first | (go_at_call 18; first | (refine (HR.out _ (Step.drew (Step.alloc hst0 _))).mono ?_; rintro e5 w5 ⟨rfl, hb5⟩; have hx := (blk_new wr [.bool false, .int .i64 0, .int .i64 0, .int .i64 0] 28).drew.keep (Step.of_below (F := fun _ => False) hb5) (fun h => h); have x0 := hx.cell (i := 0) rfl; have x1 := hx.cell (i := 1) rfl; have x2 := hx.cell (i := 2) rfl; have x3 := hx.cell (i := 3) rfl; have f0 := hx.free 0; have f1 := hx.free 1; have f2 := hx.free 2; have f3 := hx.free 3) | (refine (HR.out _ (Step.drew hst0)).mono ?_; rintro e5 w5 ⟨rfl, hb5⟩)))
        all_goals
          first
            | (refine world_hide (q := wr.heap.size) (wr := wr) (T := 28) (cs := [.bool u5, .int .i64 g5, .int .i64 b5, .int .i64 z]) (Nat.le_refl _) ((((hx.set 0 _).set 1 _).set 2 _).set 3 _) ((((((Step.then_below (Step.drew (Step.alloc hst0 _)) hb5).setCell (fun h => absurd h (Nat.lt_irrefl _)) _).setCell (fun h => absurd h (Nat.lt_irrefl _)) _).setCell (fun h => absurd h (Nat.lt_irrefl _)) _).setCell (fun h => absurd h (Nat.lt_irrefl _)) _)) ?_; clear hx x0 x1 x2 x3 f0 f1 f2 f3; intro w16 hqq hE hS16; generalize wr.heap.size = eb at hE ⊢)
            | (refine world_hide (q := w5.heap.size) (wr := wr) (T := 28) (cs := [.bool u5, .int .i64 g5, .int .i64 b5, .int .i64 z]) (Step.size (Step.then_below (Step.drew hst0) hb5)) (blk_new w5 [.bool u5, .int .i64 g5, .int .i64 b5, .int .i64 z] _) (Step.alloc (Step.then_below (Step.drew hst0) hb5) _) ?_; intro w16 hqq hE hS16; generalize w5.heap.size = eb at hE ⊢)
            | (refine world_hide (q := w5.heap.size) (wr := wr) (T := 28) (cs := [.bool u5, .int .i64 g5, .int .i64 b5, .int .i64 z]) (Step.size (Step.then_below (Step.drew hst0) hb5)) (((((blk_new w5 [.bool false, .int .i64 0, .int .i64 0, .int .i64 0] _).set 0 _).set 1 _).set 2 _).set 3 _) ((((((Step.alloc (Step.then_below (Step.drew hst0) hb5) _).setCell (fun h => absurd h (Nat.not_lt.2 (Step.size (Step.then_below (Step.drew hst0) hb5)))) _).setCell (fun h => absurd h (Nat.not_lt.2 (Step.size (Step.then_below (Step.drew hst0) hb5)))) _).setCell (fun h => absurd h (Nat.not_lt.2 (Step.size (Step.then_below (Step.drew hst0) hb5)))) _).setCell (fun h => absurd h (Nat.not_lt.2 (Step.size (Step.then_below (Step.drew hst0) hb5)))) _)) ?_; intro w16 hqq hE hS16; generalize w5.heap.size = eb at hE ⊢)
        all_goals
          have hC16 := hC.keep hS16 (fun h => h)
          have hO16 := hO.keep hS16 (fun h => h)
          have hS17 := hS.same hS16
          clear hqq hb5 HMK hst0 hO hX hP hC hS hS16 hr5 HR
          have HAr : ∀ W, Calls Try.prog 19 #[.agg #[.int .i64 e, .int .i64 w0, .int .i64 r, .int .i64 f]] W fun e' w' => e' = .returned (.agg #[.int .i64 (cl e 1048576), .int .i64 (cl w0 1048576), .int .i64 (cl r 1000), .int .i64 (cl f 1000)]) ∧ Below W.heap.size W w' := fun W => probe_Config_Clip.calls e w0 r f _ _ _ _ W (clip_is e w0 r f)
          have HBr : ∀ W, Calls Try.prog 20 #[.agg #[.int .i64 e, .int .i64 w0, .int .i64 r, .int .i64 f]] W fun e' w' => e' = .returned (.agg #[.int .i64 (cl e 1048576), .int .i64 (cl w0 1048576), .int .i64 (cl r 1000), .int .i64 (cl f 1000)]) ∧ Below W.heap.size W w' := fun W => stewardref21_Clip.calls e w0 r f _ _ _ _ W (refclip_is e w0 r f)
          generalize cl e 1048576 = C1 at HAr HBr
          generalize cl w0 1048576 = C2 at HAr HBr
          generalize cl r 1000 = C3 at HAr HBr
          generalize cl f 1000 = C4 at HAr HBr
          have HA := Lib.hid HAr
          have HB := Lib.hid HBr
          clear HAr HBr
          have Hmk : ∀ W, Step (fun _ => False) w16 W → (fun W => Step (fun _ => False) w16 W ∧ W.cell? ⟨kb + 1, 0, none⟩ = some (.int .i64 e) ∧ W.cell? ⟨kb + 1, 1, none⟩ = some (.int .i64 w0) ∧ W.cell? ⟨kb + 1, 2, none⟩ = some (.int .i64 r) ∧ W.cell? ⟨kb + 1, 3, none⟩ = some (.int .i64 f) ∧ W.cell? ⟨eb, 0, none⟩ = some (.bool u5) ∧ W.cell? ⟨eb, 1, none⟩ = some (.int .i64 g5) ∧ W.cell? ⟨eb, 2, none⟩ = some (.int .i64 b5) ∧ W.cell? ⟨o, 0, none⟩ = some (.bool u5) ∧ W.cell? ⟨o, 1, none⟩ = some (.int .i64 g5) ∧ W.cell? ⟨o, 2, none⟩ = some (.int .i64 b5)) W := fun W h => ⟨h, (hC16.keep h (fun h => h)).cell (i := 0) rfl, (hC16.keep h (fun h => h)).cell (i := 1) rfl, (hC16.keep h (fun h => h)).cell (i := 2) rfl, (hC16.keep h (fun h => h)).cell (i := 3) rfl, (hE.keep h (fun h => h)).cell (i := 0) rfl, (hE.keep h (fun h => h)).cell (i := 1) rfl, (hE.keep h (fun h => h)).cell (i := 2) rfl, (hO16.keep h (fun h => h)).cell (i := 0) rfl, (hO16.keep h (fun h => h)).cell (i := 1) rfl, (hO16.keep h (fun h => h)).cell (i := 2) rfl⟩
          have HMK := Lib.hid Hmk
          clear Hmk
          have hst0 : Step (fun _ => False) w16 w16 := Step.refl _ _
          go_upto_region 16 with (fail)
          go_region_held3 (fun W => Step (fun _ => False) w16 W ∧ W.cell? ⟨kb + 1, 0, none⟩ = some (.int .i64 e) ∧ W.cell? ⟨kb + 1, 1, none⟩ = some (.int .i64 w0) ∧ W.cell? ⟨kb + 1, 2, none⟩ = some (.int .i64 r) ∧ W.cell? ⟨kb + 1, 3, none⟩ = some (.int .i64 f) ∧ W.cell? ⟨eb, 0, none⟩ = some (.bool u5) ∧ W.cell? ⟨eb, 1, none⟩ = some (.int .i64 g5) ∧ W.cell? ⟨eb, 2, none⟩ = some (.int .i64 b5) ∧ W.cell? ⟨o, 0, none⟩ = some (.bool u5) ∧ W.cell? ⟨o, 1, none⟩ = some (.int .i64 g5) ∧ W.cell? ⟨o, 2, none⟩ = some (.int .i64 b5))
            ((refine HMK.out _ ?_; first | exact Step.drew hst0 | exact Step.then_below (Step.drew hst0) hbA | exact Step.then_below (Step.then_below (Step.drew hst0) hbA) hbB))
            (first | (go_at_call 19; refine (HA.out _).mono ?_; rintro e17 w17 ⟨rfl, hbA⟩) | (go_at_call 20; refine (HB.out _).mono ?_; rintro e18 w18 ⟨rfl, hbB⟩))
          all_goals
            go_wp2
            go_ret
            exact ⟨rfl, (hS17.same (Step.then_below (Step.then_below (Step.drew hst0) hbA) hbB)).below (by first | exact Nat.le_refl _ | (rw [Hkb.out]; exact Nat.le_refl _)) (fun _ h => h.elim)⟩
end Go.Proofs.Ytlmppdpjjkdoaaa.ProbeR
