/- The walk of stewardlaw15.RotorPlays. Own work of this seat. -/
import Derived.Test.YtlmppdpjjkdoaabRotO
import Derived.Deep.RegionHeld3
namespace Go.Proofs.Ytlmppdpjjkdoaab.Rot
open Go.RowKit Go.Proofs.Ytlmppdpjjkdoaab.Kit Go.Proofs.Ytlmppdpjjkdoaab.PRotorPlays Go.Proofs.YtlmppdpjjkdoaabW.PrintWords Go.Proofs.YtlmppdpjjkdoaabW.PrintLast Go.Proofs.YtlmppdpjjkdoaabW.PrintMore
set_option linter.unusedVariables false
set_option linter.unusedSimpArgs false

/-- The rotor behind p and the document's row have the same marks, after at most i calls. -/
structure PQ (w : World) (p b : Nat) (A : Option Addr) (c : Nat) (x : List S49) (i : Nat) : Prop where
  ra : ∃ N, N ≤ 9 * i ∧ RAt w p b N (ofP x)
  row : MRow w A c x
  sep : ∀ k, blockOf A = some k → k ≠ b
  len : x.length ≤ 9 * i
  bd : Bd (1048560 * i) (ofP x)
theorem PQ.keep {F : Nat → Prop} {w w' : World} {p b : Nat} {A : Option Addr} {c : Nat} {x : List S49} {i : Nat} (h : PQ w p b A c x i) (hs : Step F w w') (hp : ¬ F p) (hb : ¬ F b) (hA : ∀ k, blockOf A = some k → ¬ F k) : PQ w' p b A c x i := by
  obtain ⟨N, hN, hR⟩ := h.ra
  exact ⟨⟨N, hN, hR.keep hs hp hb⟩, h.row.far hs hA, h.sep, h.len, h.bd⟩
theorem PQ.still {w w' : World} {p b : Nat} {A : Option Addr} {c : Nat} {x : List S49} {i : Nat} (h : PQ w p b A c x i) (hs : Step (fun _ => False) w w') : PQ w' p b A c x i := h.keep hs (fun h => h) (fun h => h) (fun _ _ h => h)
theorem PQ.le {w : World} {p b : Nat} {A : Option Addr} {c : Nat} {x : List S49} {i : Nat} (h : PQ w p b A c x i) {j : Nat} (hj : i ≤ j) : PQ w p b A c x j := by
  obtain ⟨N, hN, hR⟩ := h.ra
  have := h.len
  exact ⟨⟨N, by omega, hR⟩, h.row, h.sep, by omega, fun s => by have := h.bd s; omega⟩
theorem plays_do {w : World} {p b : Nat} {A : Option Addr} {c : Nat} {x : List S49} {i : Nat} (h : PQ w p b A c x i) (hi : i ≤ 100) {keep : Bool} {L : Option Addr} {cL : Nat} {l : List S45} (hC : Kd.C k45 w L l.length l) (hc : l.length ≤ cL) :
    Calls Try.prog 15 #[.pointer (some ⟨p, 0, none⟩), .slice A x.length c, .agg #[.bool keep, .slice L l.length cL]] w fun e w' => ∃ A' c' x', e = .returned (.tuple #[.slice A' x'.length c', .bool true]) ∧ PQ w' p b A' c' x' (i + 1) ∧ Step (· = b) w w' := by
  obtain ⟨N, hN, hR⟩ := h.ra
  have hl := h.len
  refine (do_calls hR h.row h.sep (by omega) (by omega) h.bd (by omega) (by omega) hC hc).mono ?_
  rintro e w' ⟨A', c', x', N', rfl, h1, h2, h3, h4, h5, h6, h7⟩
  exact ⟨A', c', x', rfl, ⟨⟨N', by omega, h1⟩, h2, h6, by omega, fun s => by have := h5 s; omega⟩, h7⟩
theorem PQ.mark {w : World} {p b : Nat} {A : Option Addr} {c : Nat} {x : List S49} {i : Nat} (h : PQ w p b A c x i) (s : ByteArray) (hs : s.size ≤ 1000) : Calls Try.prog 17 #[.pointer (some ⟨p, 0, none⟩), .string s] w fun e w' => e = .returned (.int .i64 (ofP x s)) ∧ w' = w := by
  obtain ⟨N, hN, hR⟩ := h.ra
  exact mark_calls hR s hs
theorem PQ.clone {w : World} {p b : Nat} {A : Option Addr} {c : Nat} {x : List S49} {i : Nat} (h : PQ w p b A c x i) : Calls Try.prog 19 #[.pointer (some ⟨p, 0, none⟩)] w fun e w' => ∃ q b', e = .returned (.pointer (some ⟨q, 0, none⟩)) ∧ PQ w' q b' A c x i ∧ w.heap.size ≤ q ∧ w.heap.size ≤ b' ∧ Step (fun _ => False) w w' := by
  obtain ⟨N, hN, hR⟩ := h.ra
  refine (rclone_calls hR).mono ?_
  rintro e w' ⟨q, b', rfl, h1, h2, h3, h4⟩
  exact ⟨q, b', rfl, ⟨⟨N, hN, h1⟩, h.row.still h4, fun k hk e => (by have := h.row.lt k hk; omega), h.len, h.bd⟩, h2, h3, h4⟩
theorem PQ.lt {w : World} {p b : Nat} {A : Option Addr} {c : Nat} {x : List S49} {i : Nat} (h : PQ w p b A c x i) : p < w.heap.size ∧ b < w.heap.size ∧ p ≠ b := by
  obtain ⟨N, hN, hR⟩ := h.ra
  exact ⟨hR.blk.lt, hR.map.lt, hR.ne⟩

set_option maxRecDepth 100000 in
set_option maxHeartbeats 8000000 in
theorem plays_calls (A0 : Option Addr) (c0 : Nat) (acts : List Act2) (A1 : Option Addr) (c1 : Nat) (more : List Act2) (w : World) (hr : Kd.C kAct w A0 acts.length acts) (hc : acts.length ≤ c0) (hr1 : Kd.C kAct w A1 more.length more) (hc1 : more.length ≤ c1) :
    Calls Try.prog 5 #[.slice A0 acts.length c0, .slice A1 more.length c1] w fun e w' => e = .returned (.bool true) ∧ Below w.heap.size w w' := by
  have hact0 : ∀ i, i < acts.length → _ := fun i hi => act_at hr i hi
  have hact := Lib.hid hact0
  have hmore0 : ∀ i, i < more.length → _ := fun i hi => act_at hr1 i hi
  have hmore := Lib.hid hmore0
  clear hact0 hmore0 hr hr1
  generalize acts.length = n at *
  generalize more.length = n1 at *
  go_enter Try.func5, Try.ntmps5
  go_upto_region 6 with (first | (go_at_call 13; refine (awake_calls _).mono ?_; rintro e0 w1 ⟨rfl, hb1⟩) | (go_at_call 14; refine (new_calls _).mono ?_; rintro e1 w2 ⟨p, b, rfl, hP2, hp2, hbb2, hb2⟩))
  have hB2 : Below w.heap.size w w2 := hb1.trans (hb2.mono hb1.size)
  have hQ2 : PQ w2 p b none 0 [] 0 := ⟨⟨0, by omega, hP2⟩, mrow_nil _, fun k hk => (by cases hk), by simp, bd_zero⟩
  have hL2 : w.heap.size ≤ p ∧ w.heap.size ≤ b := ⟨Nat.le_trans hb1.size hp2, Nat.le_trans hb1.size hbb2⟩
  clear hP2 hp2 hbb2 hb1 hb2
  go_wp2
  go_loopw [6, 7, 8] (fun v6 v7 v8 wr => ∃ (i : Nat) (A : Option Addr) (c : Nat) (x : List S49) (ok : Bool), v8 = .int .i64 (i : Int) ∧ v6 = .slice A x.length c ∧ v7 = .bool ok ∧ i ≤ 30 ∧ PQ wr p b A c x i ∧ Below w.heap.size w wr) (fun _ _ v _ => 30 - (intOf v).toNat)
  case atStart => exact ⟨0, none, 0, [], false, rfl, rfl, rfl, by omega, hQ2, hB2⟩
  case round =>
    clear hQ2 hB2
    obtain ⟨i, A, c, x, ok, rfl, rfl, rfl, hi, hQ, hB⟩ := hrel
    by_cases hgo : i < n ∧ i < 30
    · as_aux_lemma =>
        obtain ⟨hin, hi30⟩ := hgo
        have hin' : ((i : Int) < (n : Int)) := by omega
        have hi30' : ((i : Int) < 30) := by omega
        obtain ⟨ad, keep, L, cL, l, rfl, hcL, hrd⟩ := hact.out i hin
        obtain ⟨a0, a1, hCL⟩ := hrd wr hB
        have hrd := Lib.hid hrd
        have HD := plays_do (keep := keep) hQ (by omega) hCL hcL
        have hfin := fun w4 A4 c4 x4 (hs : Step (· = b) wr w4) (hQ4 : PQ w4 p b A4 c4 x4 (i + 1)) => (show Below w.heap.size w w4 from hB.trans (hs.below hB.size (fun k h => by have e : k = b := h; omega)))
        have hfin := Lib.hid hfin
        clear hact hmore
        obtain ⟨ln, hln0⟩ : ∃ ln, x.length = ln := ⟨_, rfl⟩
        rw [hln0] at HD
        simp only [hln0]
        clear hln0
        go_upto_region 12 with (go_at_call 15; refine HD.mono ?_; rintro e4 w4 ⟨A4, c4, x4, rfl, hQ4, hs4⟩)
        have hB4 := hfin.out w4 A4 c4 x4 hs4 hQ4
        have HF := few8_calls (hrd.out w4 hB4).2.2 hcL
        have hsh := fewl_short l
        have b1 := (hrd.out w4 hB4).2.1
        have h8 := fewl_length l
        clear HD hfin a0 a1 hs4
        generalize fewl l = r at *
        go_upto_region 15 with (go_at_call 16; refine HF.mono ?_; rintro e5 w5 ⟨E, cE, rfl, hcE, hCE, hE, hEf, hs5⟩)
        have hQ5 := hQ4.still hs5
        have hB5 := hB4.trans (hs5.below hB4.size (fun _ h => h.elim))
        clear HF b1 hQ4 hB4 hcE hCE hEf hs5
        have hel := es_length r
        have hQH := Lib.hid hQ5
        obtain ⟨ln, hln0⟩ : ∃ ln, x4.length = ln := ⟨_, rfl⟩
        have hln := Lib.hid hln0
        have hlb := hQ5.len
        rw [hln0] at hlb
        simp only [hln0]
        clear hln0 hQ5
        generalize r.length = rn at *
        go_loopw [52] (fun v52 wy => ∃ (k : Nat), k ≤ rn ∧ v52 = .int .i64 (k : Int) ∧ Step (fun _ => False) w5 wy) (fun v _ => rn - (intOf v).toNat)
        case atStart => exact ⟨0, by omega, rfl, Step.refl _ _⟩
        case round =>
          obtain ⟨k, hk, rfl, hS⟩ := hrel
          by_cases hlt : k < rn
          · have hlt' : (k : Int) < (rn : Int) := by omega
            rcases hE.keep hS (fun _ _ h => h) with h0 | ⟨g, o, rfl, hcell⟩
            · rw [h0] at hel
              exact absurd hel (by simp; omega)
            · have hke : k < (es r).length := by omega
              obtain ⟨⟨s, z⟩, he⟩ : ∃ e, (es r)[k]? = some e := ⟨_, List.getElem?_eq_getElem hke⟩
              obtain ⟨q0, q1⟩ := hcell k _ he
              have hsz := hsh _ (List.mem_of_getElem? he)
              simp only at q0 q1 hsz
              clear hcell he hE hke hel
              go_upto_region 17 with (fail)
              refine alloc_next (cs := [.string s, .int .i64 z]) ?_
              intro w8 hV hs8
              have hS8 := hS.same hs8
              have hQ8 := hQH.out.still hS8
              have hst0 : Step (fun _ => False) w8 w8 := Step.refl _ _
              have HMa := (hQ8.still hst0.drew).mark s hsz
              have HOf := fun W (hW : Step (fun _ => False) w8 W) => ofm_calls (hQ8.still hW).row (by have := hQ8.len; omega) s
              rw [hln.out] at HOf
              have HOf := Lib.hid HOf
              have HMK := Lib.hid (fun W (h : Step (fun _ => False) w8 W) => (show Step (fun _ => False) w8 W ∧ W.cell? ⟨wr.heap.size, 0, none⟩ = some (.string s) ∧ W.cell? ⟨wr.heap.size, 1, none⟩ = some (.int .i64 z) from ⟨h, (hV.keep h (fun h => h)).cell (i := 0) rfl, (hV.keep h (fun h => h)).cell (i := 1) rfl⟩))
              clear q0 q1
              generalize wr.heap.size = eb at *
              go_region_held3 (fun V => Step (fun _ => False) w8 V ∧ V.cell? ⟨eb, 0, none⟩ = some (.string s) ∧ V.cell? ⟨eb, 1, none⟩ = some (.int .i64 z))
                ((refine HMK.out _ ?_; first | exact hst0 | exact hst0.drew | exact hst10))
                (first | (go_at_call 17; refine HMa.mono ?_; rintro e9 w9 ⟨rfl, rfl⟩) | (go_at_call 18; refine (HOf.out w8.drew hst0.drew).mono ?_; rintro e10 w10 ⟨rfl, hs10⟩; have hst10 := hst0.drew.same hs10))
              all_goals
                go_wp2
                exact ⟨⟨k + 1, by omega, by go_num, hS8.same hst10⟩, by simp [intOf]; omega⟩
          · obtain rfl : k = rn := by omega
            go_wp2
            exact ⟨⟨i + 1, A4, c4, x4, true, by go_num, by rw [hln.out], rfl, by omega, hQH.out.still hS, hB5.trans (hS.below hB5.size (fun _ h => h.elim))⟩, by simp [intOf]; omega⟩
    · have hends : ¬ i < n ∨ (i < n ∧ ¬ i < 30) := by omega
      have HC := hQ.clone
      clear hact
      rcases hends with h1 | ⟨h1, h2⟩
      all_goals (try have q1 : ((i : Int) < (n : Int)) = False := eq_false (by omega))
      all_goals (try have q1 : ((i : Int) < (n : Int)) = True := eq_true (by omega))
      all_goals (try have q2 : ((i : Int) < 30) = False := eq_false (by omega))
      all_goals (
        clear hgo
        obtain ⟨ln, hln0⟩ : ∃ ln, x.length = ln := ⟨_, rfl⟩
        have hln := Lib.hid hln0
        have hlb := hQ.len
        rw [hln0] at hlb
        simp only [hln0]
        clear hln0
        go_upto_region 23 with (go_at_call 19; refine HC.mono ?_; rintro e6 w6 ⟨q, b', rfl, hQq, hq6, hb6, hs6⟩)
        have hQ6 := hQ.still hs6
        have hB6 := hB.trans (hs6.below hB.size (fun _ h => h.elim))
        have hsz := hB.size
        obtain ⟨hpl, hbl, _⟩ := hQ.lt
        have hAl := Lib.hid hQ.row.lt
        have hw6 := hs6.size
        clear HC hs6 hQ hB
        generalize wr.heap.size = base at *
        go_wp2
        go_loopw [7, 12, 13] (fun v7 v12 v13 wx => ∃ (j : Nat) (A' : Option Addr) (c' : Nat) (y : List S49) (ok' : Bool), v13 = .int .i64 (j : Int) ∧ v12 = .slice A' y.length c' ∧ v7 = .bool ok' ∧ j ≤ 10 ∧ PQ wx q b' A' c' y (i + j) ∧ PQ wx p b A c x i ∧ Below w.heap.size w wx) (fun _ _ v _ => 10 - (intOf v).toNat)
        case atStart => exact ⟨0, A, c, x, _, rfl, by rw [hln.out], rfl, by omega, hQq, hQ6, hB6⟩
        case round =>
          clear hQq hQ6 hB6
          obtain ⟨j, A', c', y, ok', rfl, rfl, rfl, hj, hQq, hQ6, hB6⟩ := hrel
          by_cases hgo : j < n1 ∧ j < 10
          · as_aux_lemma =>
              obtain ⟨hin, hi30⟩ := hgo
              have hin' : ((j : Int) < (n1 : Int)) := by omega
              have hi30' : ((j : Int) < 10) := by omega
              obtain ⟨ad, keep, L, cL, l, rfl, hcL, hrd⟩ := hmore.out j hin
              obtain ⟨a0, a1, hCL⟩ := hrd wr hB6
              have HD := plays_do (keep := keep) hQq (by omega) hCL hcL
              have hfin := fun w4 A4 c4 x4 (hs : Step (· = b') wr w4) (hQ4 : PQ w4 q b' A4 c4 x4 (i + j + 1)) => (show PQ w4 p b A c x i ∧ Below w.heap.size w w4 from ⟨hQ6.keep hs (fun e => by have e : p = b' := e; omega) (fun e => by have e : b = b' := e; omega) (fun k hk e => by have := hAl.out k hk; have e : k = b' := e; omega), hB6.trans (hs.below hB6.size (fun k h => by have e : k = b' := h; omega))⟩)
              have hfin := Lib.hid hfin
              clear hmore hrd
              obtain ⟨lm, hlm0⟩ : ∃ lm, y.length = lm := ⟨_, rfl⟩
              rw [hlm0] at HD
              simp only [hlm0]
              clear hlm0
              go_wp2_with (go_at_call 15; refine HD.mono ?_; rintro e4 w4 ⟨A4, c4, x4, rfl, hQ4, hs4⟩)
              obtain ⟨hQ7, hB7⟩ := hfin.out w4 A4 c4 x4 hs4 hQ4
              exact ⟨⟨j + 1, A4, c4, x4, true, by go_num, rfl, rfl, by omega, hQ4, hQ7, hB7⟩, by simp [intOf]; omega⟩
          · have hends : ¬ j < n1 ∨ (j < n1 ∧ ¬ j < 10) := by omega
            clear hmore
            rcases hends with h3 | ⟨h3, h4⟩
            all_goals (try have r1 : ((j : Int) < (n1 : Int)) = False := eq_false (by omega))
            all_goals (try have r1 : ((j : Int) < (n1 : Int)) = True := eq_true (by omega))
            all_goals (try have r2 : ((j : Int) < 10) = False := eq_false (by omega))
            all_goals (
              clear hgo
              obtain ⟨lm, hlm0⟩ : ∃ lm, y.length = lm := ⟨_, rfl⟩
              have hlm := Lib.hid hlm0
              have hmb := hQq.len
              rw [hlm0] at hmb
              simp only [hlm0]
              clear hlm0
              generalize hwz : wr = wz at *
              clear hwz
              go_wp2
              go_loopw [95] (fun v95 wx => ∃ (k : Nat), k ≤ ln ∧ v95 = .int .i64 (k : Int) ∧ Step (fun _ => False) wz wx) (fun v _ => ln - (intOf v).toNat)
              case atStart => exact ⟨0, by omega, rfl, Step.refl _ _⟩
              case round =>
                obtain ⟨k, hk, rfl, hS⟩ := hrel
                by_cases hlt : k < ln
                · as_aux_lemma =>
                    have hlt' : (k : Int) < (ln : Int) := by omega
                    obtain ⟨ad, s, z, rfl, d0, d1, hof, hss⟩ := mrow_at (hQ6.still hS).row k (by rw [hln.out]; exact hlt)
                    go_upto_region 32 with (fail)
                    refine alloc_next (cs := [.string s, .int .i64 z]) ?_
                    intro w8 hV hs8
                    have hS8 := hS.same hs8
                    have hst0 : Step (fun _ => False) w8 w8 := Step.refl _ _
                    have HMa := ((hQ6.still hS8).still hst0.drew).mark s hss
                    rw [hof] at HMa
                    have HMK := Lib.hid (fun W (h : Step (fun _ => False) w8 W) => (show Step (fun _ => False) w8 W ∧ W.cell? ⟨wr.heap.size, 0, none⟩ = some (.string s) ∧ W.cell? ⟨wr.heap.size, 1, none⟩ = some (.int .i64 z) from ⟨h, (hV.keep h (fun h => h)).cell (i := 0) rfl, (hV.keep h (fun h => h)).cell (i := 1) rfl⟩))
                    clear d0 d1 hof
                    generalize wr.heap.size = eb at *
                    go_region_held3 (fun V => Step (fun _ => False) w8 V ∧ V.cell? ⟨eb, 0, none⟩ = some (.string s) ∧ V.cell? ⟨eb, 1, none⟩ = some (.int .i64 z))
                      ((refine HMK.out _ ?_; first | exact hst0 | exact hst0.drew))
                      (first | (go_at_call 17; refine HMa.mono ?_; rintro e9 w9 ⟨rfl, rfl⟩))
                    all_goals
                      go_wp2
                      exact ⟨⟨k + 1, by omega, by go_num, hS8.same hst0.drew⟩, by simp [intOf]; omega⟩
                · obtain rfl : k = ln := by omega
                  have hB8 := hB6.trans (hS.below hB6.size (fun _ h => h.elim))
                  have hQ8 := hQq.still hS
                  generalize hwy : wr = wy at *
                  clear hwy
                  go_wp2
                  go_loopw [109] (fun v109 wx => ∃ (k : Nat), k ≤ lm ∧ v109 = .int .i64 (k : Int) ∧ Step (fun _ => False) wy wx) (fun v _ => lm - (intOf v).toNat)
                  case atStart => exact ⟨0, by omega, rfl, Step.refl _ _⟩
                  case round =>
                    obtain ⟨m, hm, rfl, hT⟩ := hrel
                    by_cases hlt : m < lm
                    · as_aux_lemma =>
                        have hlt' : (m : Int) < (lm : Int) := by omega
                        obtain ⟨ad, s, z, rfl, d0, d1, hof, hss⟩ := mrow_at (hQ8.still hT).row m (by rw [hlm.out]; exact hlt)
                        go_upto_region 38 with (fail)
                        refine alloc_next (cs := [.string s, .int .i64 z]) ?_
                        intro w8 hV hs8
                        have hS8 := hT.same hs8
                        have hst0 : Step (fun _ => False) w8 w8 := Step.refl _ _
                        have HMa := ((hQ8.still hS8).still hst0.drew).mark s hss
                        rw [hof] at HMa
                        have HMK := Lib.hid (fun W (h : Step (fun _ => False) w8 W) => (show Step (fun _ => False) w8 W ∧ W.cell? ⟨wr.heap.size, 0, none⟩ = some (.string s) ∧ W.cell? ⟨wr.heap.size, 1, none⟩ = some (.int .i64 z) from ⟨h, (hV.keep h (fun h => h)).cell (i := 0) rfl, (hV.keep h (fun h => h)).cell (i := 1) rfl⟩))
                        clear d0 d1 hof
                        generalize wr.heap.size = eb at *
                        go_region_held3 (fun V => Step (fun _ => False) w8 V ∧ V.cell? ⟨eb, 0, none⟩ = some (.string s) ∧ V.cell? ⟨eb, 1, none⟩ = some (.int .i64 z))
                          ((refine HMK.out _ ?_; first | exact hst0 | exact hst0.drew))
                          (first | (go_at_call 17; refine HMa.mono ?_; rintro e9 w9 ⟨rfl, rfl⟩))
                        all_goals
                          go_wp2
                          exact ⟨⟨m + 1, by omega, by go_num, hS8.same hst0.drew⟩, by simp [intOf]; omega⟩
                    · obtain rfl : m = lm := by omega
                      go_wp2
                      go_ret
                      exact ⟨rfl, hB8.trans (hT.below hB8.size (fun _ h => h.elim))⟩))
end Go.Proofs.Ytlmppdpjjkdoaab.Rot
