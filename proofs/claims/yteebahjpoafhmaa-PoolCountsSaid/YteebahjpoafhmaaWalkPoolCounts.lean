/- The walk of stewardlaw24.PoolCounts. Own work of this seat. -/
import Derived.Test.YteebahjpoafhmaaPoolN
import Derived.Deep.CutRange
namespace Go.Proofs.Yteebahjpoafhmaa.Pool
open Go.RowKit Go.Proofs.Yteebahjpoafhmaa.Kit Go.Proofs.Yteebahjpoafhmaa.PPoolPlays Go.Proofs.YteebahjpoafhmaaW.PrintWords Go.Proofs.YteebahjpoafhmaaW.PrintLast Go.Proofs.YteebahjpoafhmaaW.PrintMore
set_option linter.unusedVariables false
set_option linter.unusedSimpArgs false

set_option maxRecDepth 100000 in
set_option maxHeartbeats 8000000 in
theorem pcounts_calls (A0 : Option Addr) (c0 : Nat) (acts : List Act4) (w : World) (hr : Kd.C kAct w A0 acts.length acts) (hc : acts.length ≤ c0) :
    Calls Try.prog 5 #[.slice A0 acts.length c0] w fun e w' => e = .returned (.bool true) ∧ Below w.heap.size w w' := by
  have hact0 : ∀ w1, Below w.heap.size w w1 → ∀ i, i < acts.length → _ := fun w1 hb i hi => act_at (Kd.C_below hr hb) i hi
  have hact := Lib.hid hact0
  clear hact0
  generalize acts.length = n at *
  have hmm := @run_makeMap Try.prog
  go_enter Try.func5, Try.ntmps5
  go_upto_region 6 with (first | (go_at_call 18; refine (awake_calls _).mono ?_; rintro e0 w1 ⟨rfl, hb1⟩) | (go_at_call 7; refine new_calls.mono ?_; rintro e1 w2 ⟨p, rfl, hP2, hp2, hs2⟩))
  have hJ2 := pj_new hP2 (Nat.le_trans hb1.size hp2) (hb1.trans ((hs2.below (Nat.le_refl _) (fun _ h => h.elim)).mono hb1.size))
  clear hP2 hp2 hs2 hb1
  go_upto_region 7 with (fail)
  have hst3 : Step (fun _ => False) w2 (w2.alloc (.map #[] 0)) := (Step.refl _ _).alloc _
  have hM3 := mint_new w2
  have hJ3 := hJ2.still hst3
  have hB3 : BJ w (w2.alloc (.map #[] 0)) p none 0 [] w2.heap.size := ⟨hJ3, by have := hJ2.pa.lt; omega, fun e => by simp [blockOf] at e, hJ2.big, hM3.lt⟩
  clear hJ2 hJ3 hst3 hr
  generalize w2.heap.size = b at *
  generalize w2.alloc (.map #[] 0) = w3 at *
  have hT3 : TN [] := fun x hx => (by cases hx)
  go_wp2
  go_loopw [5] (fun v5 wr => ∃ (i : Nat) (A : Option Addr) (c : Nat) (l : List S38) (m : Nat) (f : ByteArray → Int), v5 = .int .i64 (i : Int) ∧ m ≤ i ∧ i ≤ 60 ∧ BJ w wr p A c l b ∧ MInt wr b m f ∧ NN l f ∧ TN l) (fun v _ => 60 - (intOf v).toNat)
  case atStart => exact ⟨0, none, 0, [], 0, fun _ => 0, rfl, by omega, by omega, hB3, hM3, nn_nil, hT3⟩
  case round =>
    clear hB3 hM3 hT3 hmm
    obtain ⟨i, A, c, l, m, f, rfl, hm, hi, hB, hM, hN, hT⟩ := hrel
    by_cases hgo : i < n ∧ i < 60
    · obtain ⟨hin, hi60⟩ := hgo
      have hin' : ((i : Int) < (n : Int)) := by omega
      have hi60' : ((i : Int) < 60) := by omega
      obtain ⟨ad, ⟨k, wt, cp, nm⟩, rfl, a0, a1, a2, a3⟩ := hact.out wr hB.pj.bel i hin
      obtain ⟨s, hs40, HS0⟩ := cut_short nm
      have HS := Lib.hid HS0
      clear HS0 hact
      go_upto_region 11 with (fail)
      refine alloc_next (cs := [.int .i64 k, .int .i64 wt, .int .i64 cp, .string nm]) ?_
      intro w4 hE hs4
      have hB4 := hB.still hs4
      have hM4 := hM.keep hs4 (fun h => h)
      clear a0 a1 a2 a3 hB hM
      generalize wr.heap.size = eb at *
      have e3 := hE.cell (i := 3) rfl
      go_upto_region 12 with (go_at_call 9; refine (HS.out _).mono ?_; rintro e5 w5 ⟨rfl, hs5⟩)
      have hE7 := hE.keep hs5 (fun h => h)
      have hB7 := hB4.still hs5
      have hM7 := hM4.keep hs5 (fun h => h)
      clear e3 hE hs4 hs5 HS hB4 hM4
      have e0 := hE7.cell (i := 0) rfl
      have e1 := hE7.cell (i := 1) rfl
      have e2 := hE7.cell (i := 2) rfl
      have e3 := hE7.cell (i := 3) rfl
      have hg := hB7.pj.good.toGood0
      have hs1000 : s.size ≤ 1000 := by omega
      rename_i hKx
      have hKh := Lib.hid hKx
      clear hKx
      go_wp2
      refine hKh.out _ _ ?_
      clear hKh
      go_cut [8, 9] from 20 to 110 (fun s8 s9 wx => ∃ (A8 : Option Addr) (c8 : Nat) (l8 : List S38) (m8 : Nat) (f8 : ByteArray → Int), m8 ≤ i + 1 ∧ BJ w wx p A8 c8 l8 b ∧ MInt wx b m8 f8 ∧ NN l8 f8 ∧ TN l8)
      case first => as_aux_lemma =>
        by_cases k5 : k = 5
        · subst k5
          have HA := take_calls hB7.pj.pa hg s
          have hgA := take_good hB7.pj.good s
          have hT8 := tn_take (s := s) hT
          obtain ⟨hN0, hNn⟩ := hN.take (s := s) hB7.pj.good
          by_cases he : (takeR l s).2 = 0
          · obtain ⟨hN8, hf0, hf1⟩ := hN0 he
            rw [he] at HA
            clear he hN0 hNn
            generalize (takeR l s).1 = l8 at *
            have hw : wrap64 (f s + 1) = f s + 1 := by unfold wrap64; omega
            go_upto_region 18 with (go_at_call 13; refine HA.mono ?_; rintro e8 w8 ⟨rfl, hP8, hs8⟩)
            have hB8 := hB7.pool hP8 hs8 (Near.refl _ _) hgA
            have hM8 := hM7.keep hs8 hB7.free
            clear HA hP8 hs8 hgA
            go_wp2_with (first | (at_lookup; refine wpList_mint_look rfl _ _ rfl hM8 hs1000 rfl rfl ?_) | (at_mapUpdate; refine wpList_mint_put (i := f s + 1) rfl _ _ _ rfl hM8 (by omega) hs1000 (by omega) (by omega) rfl rfl rfl ?_; intro w11 hM11 hs11))
            go_meet
            exact ⟨A, c, l8, m + 1, _, by omega, hB8.map hs11, hM11, hN8, hT8⟩
          · have hN8 := hNn he
            have he' : ((takeR l s).2 == 0) = false := by simp [he]
            clear hN0 hNn
            generalize (takeR l s).2 = er at *
            generalize (takeR l s).1 = l8 at *
            go_wp2_with (go_at_call 13; refine HA.mono ?_; rintro e8 w8 ⟨rfl, hP8, hs8⟩)
            have hB8 := hB7.pool hP8 hs8 (Near.refl _ _) hgA
            have hM8 := hM7.keep hs8 hB7.free
            go_meet
            exact ⟨A, c, l8, m, f, by omega, hB8, hM8, hN8, hT8⟩
        · have q5 : (k == 5) = false := by simp [k5]
          by_cases hk : k = 0 ∨ k = 1 ∨ k = 2 ∨ k = 3 ∨ k = 4
          · have HD := do0_calls hB7.pj.pa hB7.pj.good k wt cp nm hk
            rcases hk with rfl | rfl | rfl | rfl | rfl
            all_goals
              go_wp2_with (go_at_call 21; refine HD.mono ?_; rintro e8 w8 ⟨⟨v8, b8, rfl⟩, A8, c8, l8, hP8, hs8, hn8, hgA, ht8, hnn8⟩)
              have hB8 := hB7.pool hP8 hs8 hn8 hgA
              have hM8 := hM7.keep hs8 hB7.free
              go_meet
              exact ⟨A8, c8, l8, m, f, by omega, hB8, hM8, hnn8 f hN, ht8 hT⟩
          · have q0 : (k == 0) = false := by simp; omega
            have q1 : (k == 1) = false := by simp; omega
            have q2 : (k == 2) = false := by simp; omega
            have q3 : (k == 3) = false := by simp; omega
            have q4 : (k == 4) = false := by simp; omega
            clear hk
            have HA := give_calls hB7.pj.pa hg s
            have hgA := give_good hB7.pj.good s
            have hT8 := tn_give (s := s) hT
            obtain ⟨hN0, hNn⟩ := hN.give (s := s) hB7.pj.good
            by_cases he : (giveR l s).2.2 = 0
            · obtain ⟨hN8, hf0, hf1⟩ := hN0 he
              rw [he] at HA
              clear he hN0 hNn
              generalize (giveR l s).1 = l8 at *
              generalize (giveR l s).2.1 = dr at *
              have hw : wrap64 (f s - 1) = f s - 1 := by unfold wrap64; omega
              go_upto_region 15 with (go_at_call 15; refine HA.mono ?_; rintro e8 w8 ⟨rfl, hP8, hs8⟩)
              have hB8 := hB7.pool hP8 hs8 (Near.refl _ _) hgA
              have hM8 := hM7.keep hs8 hB7.free
              clear HA hP8 hs8 hgA
              go_wp2_with (first | (at_lookup; refine wpList_mint_look rfl _ _ rfl hM8 hs1000 rfl rfl ?_) | (at_mapUpdate; refine wpList_mint_put (i := f s - 1) rfl _ _ _ rfl hM8 (by omega) hs1000 (by omega) (by omega) rfl rfl rfl ?_; intro w11 hM11 hs11))
              go_meet
              exact ⟨A, c, l8, m + 1, _, by omega, hB8.map hs11, hM11, hN8, hT8⟩
            · have hN8 := hNn he
              have he' : ((giveR l s).2.2 == 0) = false := by simp [he]
              clear hN0 hNn
              generalize (giveR l s).2.2 = er at *
              generalize (giveR l s).1 = l8 at *
              generalize (giveR l s).2.1 = dr at *
              go_wp2_with (go_at_call 15; refine HA.mono ?_; rintro e8 w8 ⟨rfl, hP8, hs8⟩)
              have hB8 := hB7.pool hP8 hs8 (Near.refl _ _) hgA
              have hM8 := hM7.keep hs8 hB7.free
              go_meet
              exact ⟨A, c, l8, m, f, by omega, hB8, hM8, hN8, hT8⟩
      case rest => as_aux_lemma =>
        obtain ⟨A8, c8, l8, m8, f8, hmm8, hB8, hM8, hN8, hT8⟩ := hcut
        clear e0 e1 e2 e3 hB7 hM7 hE7 hN hT hg
        have HL := list_calls hB8.pj.pa (Nat.le_trans hB8.len (by omega))
        go_wp2_with (go_at_call 16; refine HL.mono ?_; rintro e9 w9 ⟨A9, c9, rfl, hL9, hn9, hs9⟩)
        have hB9 := hB8.still hs9
        have hM9 := hM8.keep hs9 (fun h => h)
        obtain ⟨ln, hln0⟩ : ∃ ln, l8.length = ln := ⟨_, rfl⟩
        have hlnb : ln ≤ 1024 := by have := hB9.len; omega
        rw [hln0] at hL9
        have hln := Lib.hid hln0
        simp only [hln0]
        clear hln0 HL hB8 hM8 hs9
        have hcnt := Lib.hid hN8.cnt
        have hnum := Lib.hid hB9.pj.good.num
        go_loopw [73] (fun v73 wq => ∃ (q : Nat), v73 = .int .i64 (q : Int) ∧ q ≤ ln ∧ Step (fun _ => False) w9 wq) (fun v _ => ln - (intOf v).toNat)
        case atStart => exact ⟨0, rfl, by omega, Step.refl _ _⟩
        case round =>
          obtain ⟨q, rfl, hq, hS⟩ := hrel
          by_cases hql : q < ln
          · have hql' : ((q : Int) < (ln : Int)) := by omega
            have hqll : q < l8.length := by have := hln.out; omega
            have hq8 := hL9.keep hS (fun _ _ h => h)
            obtain ⟨g, rfl⟩ := hq8.one hql
            have hx : l8[q]? = some l8[q] := List.getElem?_eq_getElem hqll
            obtain ⟨d0, d1, d2, d3, d4⟩ := hq8.cells hx
            have hxm := List.mem_of_getElem? hx
            have hx4 := hcnt.out _ hxm
            have hxn := hnum.out _ hxm
            have hxz := tn_size (hT8 _ hxm)
            have hMq := hM9.keep hS (fun h => h)
            clear hx hxm hq8 hcnt hnum hln
            generalize l8[q] = x at *
            obtain ⟨x0, x1, x2, x3, x4⟩ := x
            have hx4 := Lib.hid (show x4 = f8 x0 from hx4)
            have hxn : 0 ≤ x4 ∧ x4 ≤ x2 := ⟨hxn.1, hxn.2.1⟩
            go_upto_region 28 with (fail)
            refine alloc_next (cs := [.string x0, .int .i64 x1, .int .i64 x2, .int .i64 x3, .int .i64 x4]) ?_
            intro w10 hE10 hs10
            have hlk := mint_run (hMq.keep hs10 (fun h => h)) (s := x0) (by have : x0.size ≤ 32 := hxz; omega)
            rw [← hx4.out] at hlk
            have z0 := hE10.cell (i := 0) rfl
            have z2 := hE10.cell (i := 2) rfl
            have z4 := hE10.cell (i := 4) rfl
            have q40 : (x4 < 0) = False := eq_false (by omega)
            have q42 : (x4 > x2) = False := eq_false (by omega)
            clear d0 d1 d2 d3 d4 hx4 hxn hMq hE10
            generalize wr.heap.size = eb2 at *
            go_wp2
            exact ⟨⟨q + 1, by go_num, by omega, hS.same hs10⟩, by simp [intOf]; omega⟩
          · obtain rfl : q = ln := by omega
            have hB10 := hB9.still hS
            have hM10 := hM9.keep hS (fun h => h)
            obtain ⟨y0, y1, y2, y3, y4, _, HG⟩ := get_open hB10.pj.pa hB10.len s
            have hz0 : (getB l8 s).2 = false → f8 s = 0 := fun h => by
              cases hf : l8.find? (named s) with
              | none => exact hN8.none s (find_none hf)
              | some x => rw [getB_there ⟨x, find_mem hf⟩] at h; cases h
            clear hcnt hnum hln hB9 hM9 hL9
            generalize (getB l8 s).2 = is at *
            go_upto_region 32 with (go_at_call 19; refine HG.mono ?_; rintro e11 w11 ⟨rfl, hs11⟩)
            refine alloc_next (cs := [.string y0, .int .i64 y1, .int .i64 y2, .int .i64 y3, .int .i64 y4]) ?_
            intro w12 hE12 hs12
            have hB12 := (hB10.still hs11).still hs12
            have hM12 := (hM10.keep hs11 (fun h => h)).keep hs12 (fun h => h)
            have hlk := mint_run hM12 hs1000
            clear HG hE12
            cases is with
            | true =>
              go_wp2
              exact ⟨⟨i + 1, A8, c8, l8, m8, f8, by go_num, by omega, by omega, hB12, hM12, hN8, hT8⟩, by simp [intOf]; omega⟩
            | false =>
              rw [hz0 rfl] at hlk
              clear hz0
              go_wp2
              exact ⟨⟨i + 1, A8, c8, l8, m8, f8, by go_num, by omega, by omega, hB12, hM12, hN8, hT8⟩, by simp [intOf]; omega⟩
    · have hends : ¬ i < n ∨ (i < n ∧ ¬ i < 60) := by omega
      clear hact
      rcases hends with h1 | ⟨h1, h2⟩
      · have q1 : ((i : Int) < (n : Int)) = False := eq_false (by omega)
        go_wp2
        go_ret
        exact ⟨rfl, hB.pj.bel⟩
      · have q1 : ((i : Int) < (n : Int)) = True := eq_true (by omega)
        have q2 : ((i : Int) < 60) = False := eq_false (by omega)
        go_wp2
        go_ret
        exact ⟨rfl, hB.pj.bel⟩
end Go.Proofs.Yteebahjpoafhmaa.Pool