/- The walk of stewardlaw24.PoolDrains. Own work of this seat. -/
import Derived.Test.YteebahjpoafhmaaPoolD
namespace Go.Proofs.Yteebahjpoafhmaa.Pool
open Go.RowKit Go.Proofs.Yteebahjpoafhmaa.Kit Go.Proofs.Yteebahjpoafhmaa.PPoolPlays Go.Proofs.YteebahjpoafhmaaW.PrintWords Go.Proofs.YteebahjpoafhmaaW.PrintLast Go.Proofs.YteebahjpoafhmaaW.PrintMore
set_option linter.unusedVariables false
set_option linter.unusedSimpArgs false

set_option maxRecDepth 100000 in
set_option maxHeartbeats 8000000 in
theorem drains_calls (A0 : Option Addr) (c0 : Nat) (acts : List Act4) (w : World) (hr : Kd.C kAct w A0 acts.length acts) (hc : acts.length ≤ c0) :
    Calls Try.prog 4 #[.slice A0 acts.length c0] w fun e w' => e = .returned (.bool true) ∧ Below w.heap.size w w' := by
  have hact0 : ∀ w1, Below w.heap.size w w1 → ∀ i, i < acts.length → _ := fun w1 hb i hi => act_at (Kd.C_below hr hb) i hi
  have hact := Lib.hid hact0
  clear hact0
  generalize acts.length = n at *
  have hmm := @run_makeMap Try.prog
  go_enter Try.func4, Try.ntmps4
  go_upto_region 6 with (first | (go_at_call 18; refine (awake_calls _).mono ?_; rintro e0 w1 ⟨rfl, hb1⟩) | (go_at_call 7; refine new_calls.mono ?_; rintro e1 w2 ⟨p, rfl, hP2, hp2, hs2⟩))
  have hJ2 := pj_new hP2 (Nat.le_trans hb1.size hp2) (hb1.trans ((hs2.below (Nat.le_refl _) (fun _ h => h.elim)).mono hb1.size))
  clear hP2 hp2 hs2 hb1
  go_upto_region 7 with (fail)
  have hst3 : Step (fun _ => False) w2 (w2.alloc (.map #[] 0)) := (Step.refl _ _).alloc _
  have hM3 := mbool_new w2
  have hJ3 := hJ2.still hst3
  have hB3 : BJ w (w2.alloc (.map #[] 0)) p none 0 [] w2.heap.size := ⟨hJ3, by have := hJ2.pa.lt; omega, fun e => by simp [blockOf] at e, hJ2.big, hM3.lt⟩
  have hD3 : DD [] (fun _ => false) := fun x hx => (by cases hx)
  clear hJ2 hJ3 hst3 hr
  generalize w2.heap.size = b at *
  generalize w2.alloc (.map #[] 0) = w3 at *
  go_wp2
  go_loopw [5] (fun v5 wr => ∃ (i : Nat) (A : Option Addr) (c : Nat) (l : List S38) (m : Nat) (f : ByteArray → Bool), v5 = .int .i64 (i : Int) ∧ m ≤ i ∧ i ≤ 60 ∧ BJ w wr p A c l b ∧ MBool wr b m f ∧ DD l f) (fun v _ => 60 - (intOf v).toNat)
  case atStart => exact ⟨0, none, 0, [], 0, fun _ => false, rfl, by omega, by omega, hB3, hM3, hD3⟩
  case round =>
    clear hB3 hM3 hD3 hmm
    obtain ⟨i, A, c, l, m, f, rfl, hm, hi, hB, hM, hD⟩ := hrel
    by_cases hgo : i < n ∧ i < 60
    · obtain ⟨hin, hi60⟩ := hgo
      have hin' : ((i : Int) < (n : Int)) := by omega
      have hi60' : ((i : Int) < 60) := by omega
      obtain ⟨ad, ⟨k, wt, cp, nm⟩, rfl, a0, a1, a2, a3⟩ := hact.out wr hB.pj.bel i hin
      obtain ⟨s, hs40, HS0⟩ := cut_short nm
      have HS := Lib.hid HS0
      clear HS0 hact
      go_upto_region 11 with (fail)
      refine alloc_next (cs := [.int .i64 k, .int .i64 wt, .int .i64 cp, .string nm]) ?_
      intro w4 hE hs4
      have hB4 := hB.still hs4
      have hM4 := hM.keep hs4 (fun h => h)
      clear a0 a1 a2 a3 hB hM
      generalize wr.heap.size = eb at *
      have e3 := hE.cell (i := 3) rfl
      go_upto_region 12 with (go_at_call 9; refine (HS.out _).mono ?_; rintro e5 w5 ⟨rfl, hs5⟩)
      have hE5 := hE.keep hs5 (fun h => h)
      have hB5 := hB4.still hs5
      have hM5 := hM4.keep hs5 (fun h => h)
      clear e3 hE hs4 hs5 HS hB4 hM4
      obtain ⟨x0, x1, x2, x3, x4, hx, HG⟩ := get_open hB5.pj.pa hB5.len s
      have hgf : ∀ x, l.find? (named s) = some x → (getB l s).2 = true := fun x h => by unfold getB; rw [h]
      have hgn : l.find? (named s) = none → (getB l s).2 = false := fun h => by unfold getB; rw [h]
      have hth : (getB l s).2 = true → ∃ x, l.find? (named s) = some x := fun h => by
        cases hf : l.find? (named s) with
        | none => rw [hgn hf] at h; cases h
        | some x => exact ⟨x, rfl⟩
      obtain ⟨th, hth0⟩ : ∃ th, (getB l s).2 = th := ⟨_, rfl⟩
      rw [hth0] at HG hgf hgn hth
      have hst0 : ∀ l8, Stays l s l8 → th = true → 1 < x4 → (getB l8 s).2 = true := fun l8 h e h1 => by
        obtain ⟨x, hf⟩ := hth e
        obtain rfl := hx x hf
        exact h _ hf h1
      have hst0 := Lib.hid hst0
      have hfacts := Lib.hid (And.intro hgf (And.intro hgn (And.intro hth hx)))
      clear hgf hgn hth hx
      go_upto_region 13 with (go_at_call 19; refine HG.mono ?_; rintro e6 w6 ⟨rfl, hs6⟩)
      refine alloc_next (cs := [.string x0, .int .i64 x1, .int .i64 x2, .int .i64 x3, .int .i64 x4]) ?_
      intro w7 hW7 hs7
      have hB6 := hB5.still hs6
      have hB7 := hB6.still hs7
      have hM7 := (hM5.keep hs6 (fun h => h)).keep hs7 (fun h => h)
      have hE7 := (hE5.keep hs6 (fun h => h)).keep hs7 (fun h => h)
      have hwp : ¬ (w6.heap.size = p ∨ blockOf A = some w6.heap.size) := fun e => by
        rcases e with e | e
        · have := hB6.pj.pa.lt; omega
        · have := hB6.pj.pa.ltA e; omega
      have hwb : w6.heap.size ≠ b := by have := hB6.ltb; omega
      clear HG hB5 hB6 hM5 hE5 hs6 hs7
      generalize w6.heap.size = wb at *
      have e0 := hE7.cell (i := 0) rfl
      have e1 := hE7.cell (i := 1) rfl
      have e2 := hE7.cell (i := 2) rfl
      have hg := hB7.pj.good.toGood0
      have hs1000 : s.size ≤ 1000 := by omega
      by_cases k0 : k = 0
      · as_aux_lemma =>
          subst k0
          have HA := add_calls hB7.pj.pa hg s wt cp
          have hgA := add_good hB7.pj.good s wt cp
          obtain ⟨hD0, hDn, hSt⟩ := add_facts (s := s) hD wt cp
          generalize addR l s wt cp = r at *
          obtain ⟨l8, e⟩ := r
          have hDn : e ≠ 0 → DD l8 f := hDn
          have hD0 : e = 0 → DD l8 (bupd f s false) := hD0
          by_cases he : e = 0
          · subst he
            have hD8 := hD0 rfl
            clear hD0 hDn
            go_upto_region 19 with (go_at_call 8; refine HA.mono ?_; rintro e8 w8 ⟨rfl, A8, c8, hP8, hs8, hn8⟩)
            have hB8 := hB7.pool hP8 hs8 hn8 hgA
            have hM8 := hM7.keep hs8 hB7.free
            have hW8 := hW7.keep hs8 hwp
            clear HA hP8 hs8 hgA hn8
            go_upto_region 34 with (first | (at_mapUpdate; refine wpList_mbool_put (i := false) rfl _ _ _ rfl hM8 (by omega) hs1000 rfl rfl rfl ?_; intro w11 hM11 hs11))
            have hB8 := hB8.map hs11
            have hW8 := hW8.keep hs11 hwb
            have hM8 := hM11
            clear hM11 hs11
            obtain ⟨m8, hm8, hmm8⟩ : ∃ m8, m + 1 = m8 ∧ m8 ≤ i + 1 := ⟨_, rfl, by omega⟩
            rw [hm8] at hM8
            clear hm8
            obtain ⟨f8, hf8⟩ : ∃ f8, bupd f s false = f8 := ⟨_, rfl⟩
            rw [hf8] at hM8 hD8
            clear hf8
            have hstl := hst0.out _ hSt
            obtain ⟨y0, y1, y2, y3, y4, _, HG8⟩ := get_open hB8.pj.pa hB8.len s
            clear e0 e1 e2 hB7 hM7 hW7 hE7 hD hst0 hfacts hSt hg
            generalize hsti : (getB l8 s).2 = still at *
            clear hsti
            go_upto_region 35 with (go_at_call 19; refine HG8.mono ?_; rintro e9 w9 ⟨rfl, hs9⟩)
            refine alloc_next (cs := [.string y0, .int .i64 y1, .int .i64 y2, .int .i64 y3, .int .i64 y4]) ?_
            intro w10 hY hs10
            have hB10 := (hB8.still hs9).still hs10
            have hM10 := (hM8.keep hs9 (fun h => h)).keep hs10 (fun h => h)
            have z4 := ((hW8.keep hs9 (fun h => h)).keep hs10 (fun h => h)).cell (i := 4) rfl
            clear HG8 hB8 hM8 hW8 hs9 hs10 hY
            cases th with
            | false =>
              go_wp2
              exact ⟨⟨i + 1, A8, c8, l8, m8, f8, by go_num, by omega, by omega, hB10, hM10, hD8⟩, by simp [intOf]; omega⟩
            | true =>
              by_cases h14 : 1 < x4
              · obtain rfl := hstl rfl h14
                have q14 : (x4 > 1) = True := eq_true h14
                go_wp2
                exact ⟨⟨i + 1, A8, c8, l8, m8, f8, by go_num, by omega, by omega, hB10, hM10, hD8⟩, by simp [intOf]; omega⟩
              · have q14 : (x4 > 1) = False := eq_false h14
                go_wp2
                exact ⟨⟨i + 1, A8, c8, l8, m8, f8, by go_num, by omega, by omega, hB10, hM10, hD8⟩, by simp [intOf]; omega⟩
          · have he' : (e == 0) = false := by simp [he]
            have hD8 := hDn he
            clear hD0 hDn
            go_upto_region 34 with (go_at_call 8; refine HA.mono ?_; rintro e8 w8 ⟨rfl, A8, c8, hP8, hs8, hn8⟩)
            have hB8 := hB7.pool hP8 hs8 hn8 hgA
            have hM8 := hM7.keep hs8 hB7.free
            have hW8 := hW7.keep hs8 hwp
            clear HA hP8 hs8 hgA hn8
            obtain ⟨m8, hm8, hmm8⟩ : ∃ m8, m = m8 ∧ m8 ≤ i + 1 := ⟨_, rfl, by omega⟩
            rw [hm8] at hM8
            clear hm8
            obtain ⟨f8, hf8⟩ : ∃ f8, f = f8 := ⟨_, rfl⟩
            rw [hf8] at hM8 hD8
            clear hf8
            have hstl := hst0.out _ hSt
            obtain ⟨y0, y1, y2, y3, y4, _, HG8⟩ := get_open hB8.pj.pa hB8.len s
            clear e0 e1 e2 hB7 hM7 hW7 hE7 hD hst0 hfacts hSt hg
            generalize hsti : (getB l8 s).2 = still at *
            clear hsti
            go_upto_region 35 with (go_at_call 19; refine HG8.mono ?_; rintro e9 w9 ⟨rfl, hs9⟩)
            refine alloc_next (cs := [.string y0, .int .i64 y1, .int .i64 y2, .int .i64 y3, .int .i64 y4]) ?_
            intro w10 hY hs10
            have hB10 := (hB8.still hs9).still hs10
            have hM10 := (hM8.keep hs9 (fun h => h)).keep hs10 (fun h => h)
            have z4 := ((hW8.keep hs9 (fun h => h)).keep hs10 (fun h => h)).cell (i := 4) rfl
            clear HG8 hB8 hM8 hW8 hs9 hs10 hY
            cases th with
            | false =>
              go_wp2
              exact ⟨⟨i + 1, A8, c8, l8, m8, f8, by go_num, by omega, by omega, hB10, hM10, hD8⟩, by simp [intOf]; omega⟩
            | true =>
              by_cases h14 : 1 < x4
              · obtain rfl := hstl rfl h14
                have q14 : (x4 > 1) = True := eq_true h14
                go_wp2
                exact ⟨⟨i + 1, A8, c8, l8, m8, f8, by go_num, by omega, by omega, hB10, hM10, hD8⟩, by simp [intOf]; omega⟩
              · have q14 : (x4 > 1) = False := eq_false h14
                go_wp2
                exact ⟨⟨i + 1, A8, c8, l8, m8, f8, by go_num, by omega, by omega, hB10, hM10, hD8⟩, by simp [intOf]; omega⟩
      · have q0 : (k == 0) = false := by simp [k0]
        by_cases k1 : k = 1
        · as_aux_lemma =>
            subst k1
            have HA := reweight_calls hB7.pj.pa hg s wt
            have hgA := rew_good hB7.pj.good s wt
            obtain ⟨hD8, hSt⟩ := rew_facts (s := s) hD wt
            generalize rewR l s wt = r at *
            obtain ⟨l8, e⟩ := r
            have hD8 : DD l8 f := hD8
            go_upto_region 34 with (go_at_call 20; refine HA.mono ?_; rintro e8 w8 ⟨rfl, hP8, hs8⟩)
            have hB8 := hB7.pool hP8 hs8 (Near.refl _ _) hgA
            have hM8 := hM7.keep hs8 hB7.free
            have hW8 := hW7.keep hs8 hwp
            clear HA hP8 hs8 hgA
            obtain ⟨A8, hA8⟩ : ∃ A8, A8 = A := ⟨_, rfl⟩
            obtain ⟨c8, hc8⟩ : ∃ c8, c8 = c := ⟨_, rfl⟩
            rw [← hA8, ← hc8] at hB8
            clear hA8 hc8
            obtain ⟨m8, hm8, hmm8⟩ : ∃ m8, m = m8 ∧ m8 ≤ i + 1 := ⟨_, rfl, by omega⟩
            rw [hm8] at hM8
            clear hm8
            obtain ⟨f8, hf8⟩ : ∃ f8, f = f8 := ⟨_, rfl⟩
            rw [hf8] at hM8 hD8
            clear hf8
            have hstl := hst0.out _ hSt
            obtain ⟨y0, y1, y2, y3, y4, _, HG8⟩ := get_open hB8.pj.pa hB8.len s
            clear e0 e1 e2 hB7 hM7 hW7 hE7 hD hst0 hfacts hSt hg
            generalize hsti : (getB l8 s).2 = still at *
            clear hsti
            go_upto_region 35 with (go_at_call 19; refine HG8.mono ?_; rintro e9 w9 ⟨rfl, hs9⟩)
            refine alloc_next (cs := [.string y0, .int .i64 y1, .int .i64 y2, .int .i64 y3, .int .i64 y4]) ?_
            intro w10 hY hs10
            have hB10 := (hB8.still hs9).still hs10
            have hM10 := (hM8.keep hs9 (fun h => h)).keep hs10 (fun h => h)
            have z4 := ((hW8.keep hs9 (fun h => h)).keep hs10 (fun h => h)).cell (i := 4) rfl
            clear HG8 hB8 hM8 hW8 hs9 hs10 hY
            cases th with
            | false =>
              go_wp2
              exact ⟨⟨i + 1, A8, c8, l8, m8, f8, by go_num, by omega, by omega, hB10, hM10, hD8⟩, by simp [intOf]; omega⟩
            | true =>
              by_cases h14 : 1 < x4
              · obtain rfl := hstl rfl h14
                have q14 : (x4 > 1) = True := eq_true h14
                go_wp2
                exact ⟨⟨i + 1, A8, c8, l8, m8, f8, by go_num, by omega, by omega, hB10, hM10, hD8⟩, by simp [intOf]; omega⟩
              · have q14 : (x4 > 1) = False := eq_false h14
                go_wp2
                exact ⟨⟨i + 1, A8, c8, l8, m8, f8, by go_num, by omega, by omega, hB10, hM10, hD8⟩, by simp [intOf]; omega⟩
        · have q1 : (k == 1) = false := by simp [k1]
          by_cases k2 : k = 2
          · as_aux_lemma =>
              subst k2
              have HA := drain_calls hB7.pj.pa hg s
              have hgA := chg_good hB7.pj.good s 1 (by decide)
              obtain ⟨hD0, hDn, hSt⟩ := chg_facts (s := s) hD 1 true rfl
              generalize chgR l s (toS 1) = r at *
              obtain ⟨l8, e⟩ := r
              have hDn : e ≠ 0 → DD l8 f := hDn
              have hD0 : e = 0 → DD l8 (bupd f s true) := hD0
              by_cases he : e = 0
              · subst he
                have hD8 := hD0 rfl
                clear hD0 hDn
                go_upto_region 24 with (go_at_call 10; refine HA.mono ?_; rintro e8 w8 ⟨rfl, hP8, hs8⟩)
                have hB8 := hB7.pool hP8 hs8 (Near.refl _ _) hgA
                have hM8 := hM7.keep hs8 hB7.free
                have hW8 := hW7.keep hs8 hwp
                clear HA hP8 hs8 hgA
                obtain ⟨A8, hA8⟩ : ∃ A8, A8 = A := ⟨_, rfl⟩
                obtain ⟨c8, hc8⟩ : ∃ c8, c8 = c := ⟨_, rfl⟩
                rw [← hA8, ← hc8] at hB8
                clear hA8 hc8
                go_upto_region 34 with (first | (at_mapUpdate; refine wpList_mbool_put (i := true) rfl _ _ _ rfl hM8 (by omega) hs1000 rfl rfl rfl ?_; intro w11 hM11 hs11))
                have hB8 := hB8.map hs11
                have hW8 := hW8.keep hs11 hwb
                have hM8 := hM11
                clear hM11 hs11
                obtain ⟨m8, hm8, hmm8⟩ : ∃ m8, m + 1 = m8 ∧ m8 ≤ i + 1 := ⟨_, rfl, by omega⟩
                rw [hm8] at hM8
                clear hm8
                obtain ⟨f8, hf8⟩ : ∃ f8, bupd f s true = f8 := ⟨_, rfl⟩
                rw [hf8] at hM8 hD8
                clear hf8
                have hstl := hst0.out _ hSt
                obtain ⟨y0, y1, y2, y3, y4, _, HG8⟩ := get_open hB8.pj.pa hB8.len s
                clear e0 e1 e2 hB7 hM7 hW7 hE7 hD hst0 hfacts hSt hg
                generalize hsti : (getB l8 s).2 = still at *
                clear hsti
                go_upto_region 35 with (go_at_call 19; refine HG8.mono ?_; rintro e9 w9 ⟨rfl, hs9⟩)
                refine alloc_next (cs := [.string y0, .int .i64 y1, .int .i64 y2, .int .i64 y3, .int .i64 y4]) ?_
                intro w10 hY hs10
                have hB10 := (hB8.still hs9).still hs10
                have hM10 := (hM8.keep hs9 (fun h => h)).keep hs10 (fun h => h)
                have z4 := ((hW8.keep hs9 (fun h => h)).keep hs10 (fun h => h)).cell (i := 4) rfl
                clear HG8 hB8 hM8 hW8 hs9 hs10 hY
                cases th with
                | false =>
                  go_wp2
                  exact ⟨⟨i + 1, A8, c8, l8, m8, f8, by go_num, by omega, by omega, hB10, hM10, hD8⟩, by simp [intOf]; omega⟩
                | true =>
                  by_cases h14 : 1 < x4
                  · obtain rfl := hstl rfl h14
                    have q14 : (x4 > 1) = True := eq_true h14
                    go_wp2
                    exact ⟨⟨i + 1, A8, c8, l8, m8, f8, by go_num, by omega, by omega, hB10, hM10, hD8⟩, by simp [intOf]; omega⟩
                  · have q14 : (x4 > 1) = False := eq_false h14
                    go_wp2
                    exact ⟨⟨i + 1, A8, c8, l8, m8, f8, by go_num, by omega, by omega, hB10, hM10, hD8⟩, by simp [intOf]; omega⟩
              · have he' : (e == 0) = false := by simp [he]
                have hD8 := hDn he
                clear hD0 hDn
                go_upto_region 34 with (go_at_call 10; refine HA.mono ?_; rintro e8 w8 ⟨rfl, hP8, hs8⟩)
                have hB8 := hB7.pool hP8 hs8 (Near.refl _ _) hgA
                have hM8 := hM7.keep hs8 hB7.free
                have hW8 := hW7.keep hs8 hwp
                clear HA hP8 hs8 hgA
                obtain ⟨A8, hA8⟩ : ∃ A8, A8 = A := ⟨_, rfl⟩
                obtain ⟨c8, hc8⟩ : ∃ c8, c8 = c := ⟨_, rfl⟩
                rw [← hA8, ← hc8] at hB8
                clear hA8 hc8
                obtain ⟨m8, hm8, hmm8⟩ : ∃ m8, m = m8 ∧ m8 ≤ i + 1 := ⟨_, rfl, by omega⟩
                rw [hm8] at hM8
                clear hm8
                obtain ⟨f8, hf8⟩ : ∃ f8, f = f8 := ⟨_, rfl⟩
                rw [hf8] at hM8 hD8
                clear hf8
                have hstl := hst0.out _ hSt
                obtain ⟨y0, y1, y2, y3, y4, _, HG8⟩ := get_open hB8.pj.pa hB8.len s
                clear e0 e1 e2 hB7 hM7 hW7 hE7 hD hst0 hfacts hSt hg
                generalize hsti : (getB l8 s).2 = still at *
                clear hsti
                go_upto_region 35 with (go_at_call 19; refine HG8.mono ?_; rintro e9 w9 ⟨rfl, hs9⟩)
                refine alloc_next (cs := [.string y0, .int .i64 y1, .int .i64 y2, .int .i64 y3, .int .i64 y4]) ?_
                intro w10 hY hs10
                have hB10 := (hB8.still hs9).still hs10
                have hM10 := (hM8.keep hs9 (fun h => h)).keep hs10 (fun h => h)
                have z4 := ((hW8.keep hs9 (fun h => h)).keep hs10 (fun h => h)).cell (i := 4) rfl
                clear HG8 hB8 hM8 hW8 hs9 hs10 hY
                cases th with
                | false =>
                  go_wp2
                  exact ⟨⟨i + 1, A8, c8, l8, m8, f8, by go_num, by omega, by omega, hB10, hM10, hD8⟩, by simp [intOf]; omega⟩
                | true =>
                  by_cases h14 : 1 < x4
                  · obtain rfl := hstl rfl h14
                    have q14 : (x4 > 1) = True := eq_true h14
                    go_wp2
                    exact ⟨⟨i + 1, A8, c8, l8, m8, f8, by go_num, by omega, by omega, hB10, hM10, hD8⟩, by simp [intOf]; omega⟩
                  · have q14 : (x4 > 1) = False := eq_false h14
                    go_wp2
                    exact ⟨⟨i + 1, A8, c8, l8, m8, f8, by go_num, by omega, by omega, hB10, hM10, hD8⟩, by simp [intOf]; omega⟩
          · have q2 : (k == 2) = false := by simp [k2]
            by_cases k3 : k = 3
            · as_aux_lemma =>
                subst k3
                have HA := undrain_calls hB7.pj.pa hg s
                have hgA := chg_good hB7.pj.good s 0 (by decide)
                obtain ⟨hD0, hDn, hSt⟩ := chg_facts (s := s) hD 0 false rfl
                generalize chgR l s (toS 0) = r at *
                obtain ⟨l8, e⟩ := r
                have hDn : e ≠ 0 → DD l8 f := hDn
                have hD0 : e = 0 → DD l8 (bupd f s false) := hD0
                by_cases he : e = 0
                · subst he
                  have hD8 := hD0 rfl
                  clear hD0 hDn
                  go_upto_region 27 with (go_at_call 11; refine HA.mono ?_; rintro e8 w8 ⟨rfl, hP8, hs8⟩)
                  have hB8 := hB7.pool hP8 hs8 (Near.refl _ _) hgA
                  have hM8 := hM7.keep hs8 hB7.free
                  have hW8 := hW7.keep hs8 hwp
                  clear HA hP8 hs8 hgA
                  obtain ⟨A8, hA8⟩ : ∃ A8, A8 = A := ⟨_, rfl⟩
                  obtain ⟨c8, hc8⟩ : ∃ c8, c8 = c := ⟨_, rfl⟩
                  rw [← hA8, ← hc8] at hB8
                  clear hA8 hc8
                  go_upto_region 34 with (first | (at_mapUpdate; refine wpList_mbool_put (i := false) rfl _ _ _ rfl hM8 (by omega) hs1000 rfl rfl rfl ?_; intro w11 hM11 hs11))
                  have hB8 := hB8.map hs11
                  have hW8 := hW8.keep hs11 hwb
                  have hM8 := hM11
                  clear hM11 hs11
                  obtain ⟨m8, hm8, hmm8⟩ : ∃ m8, m + 1 = m8 ∧ m8 ≤ i + 1 := ⟨_, rfl, by omega⟩
                  rw [hm8] at hM8
                  clear hm8
                  obtain ⟨f8, hf8⟩ : ∃ f8, bupd f s false = f8 := ⟨_, rfl⟩
                  rw [hf8] at hM8 hD8
                  clear hf8
                  have hstl := hst0.out _ hSt
                  obtain ⟨y0, y1, y2, y3, y4, _, HG8⟩ := get_open hB8.pj.pa hB8.len s
                  clear e0 e1 e2 hB7 hM7 hW7 hE7 hD hst0 hfacts hSt hg
                  generalize hsti : (getB l8 s).2 = still at *
                  clear hsti
                  go_upto_region 35 with (go_at_call 19; refine HG8.mono ?_; rintro e9 w9 ⟨rfl, hs9⟩)
                  refine alloc_next (cs := [.string y0, .int .i64 y1, .int .i64 y2, .int .i64 y3, .int .i64 y4]) ?_
                  intro w10 hY hs10
                  have hB10 := (hB8.still hs9).still hs10
                  have hM10 := (hM8.keep hs9 (fun h => h)).keep hs10 (fun h => h)
                  have z4 := ((hW8.keep hs9 (fun h => h)).keep hs10 (fun h => h)).cell (i := 4) rfl
                  clear HG8 hB8 hM8 hW8 hs9 hs10 hY
                  cases th with
                  | false =>
                    go_wp2
                    exact ⟨⟨i + 1, A8, c8, l8, m8, f8, by go_num, by omega, by omega, hB10, hM10, hD8⟩, by simp [intOf]; omega⟩
                  | true =>
                    by_cases h14 : 1 < x4
                    · obtain rfl := hstl rfl h14
                      have q14 : (x4 > 1) = True := eq_true h14
                      go_wp2
                      exact ⟨⟨i + 1, A8, c8, l8, m8, f8, by go_num, by omega, by omega, hB10, hM10, hD8⟩, by simp [intOf]; omega⟩
                    · have q14 : (x4 > 1) = False := eq_false h14
                      go_wp2
                      exact ⟨⟨i + 1, A8, c8, l8, m8, f8, by go_num, by omega, by omega, hB10, hM10, hD8⟩, by simp [intOf]; omega⟩
                · have he' : (e == 0) = false := by simp [he]
                  have hD8 := hDn he
                  clear hD0 hDn
                  go_upto_region 34 with (go_at_call 11; refine HA.mono ?_; rintro e8 w8 ⟨rfl, hP8, hs8⟩)
                  have hB8 := hB7.pool hP8 hs8 (Near.refl _ _) hgA
                  have hM8 := hM7.keep hs8 hB7.free
                  have hW8 := hW7.keep hs8 hwp
                  clear HA hP8 hs8 hgA
                  obtain ⟨A8, hA8⟩ : ∃ A8, A8 = A := ⟨_, rfl⟩
                  obtain ⟨c8, hc8⟩ : ∃ c8, c8 = c := ⟨_, rfl⟩
                  rw [← hA8, ← hc8] at hB8
                  clear hA8 hc8
                  obtain ⟨m8, hm8, hmm8⟩ : ∃ m8, m = m8 ∧ m8 ≤ i + 1 := ⟨_, rfl, by omega⟩
                  rw [hm8] at hM8
                  clear hm8
                  obtain ⟨f8, hf8⟩ : ∃ f8, f = f8 := ⟨_, rfl⟩
                  rw [hf8] at hM8 hD8
                  clear hf8
                  have hstl := hst0.out _ hSt
                  obtain ⟨y0, y1, y2, y3, y4, _, HG8⟩ := get_open hB8.pj.pa hB8.len s
                  clear e0 e1 e2 hB7 hM7 hW7 hE7 hD hst0 hfacts hSt hg
                  generalize hsti : (getB l8 s).2 = still at *
                  clear hsti
                  go_upto_region 35 with (go_at_call 19; refine HG8.mono ?_; rintro e9 w9 ⟨rfl, hs9⟩)
                  refine alloc_next (cs := [.string y0, .int .i64 y1, .int .i64 y2, .int .i64 y3, .int .i64 y4]) ?_
                  intro w10 hY hs10
                  have hB10 := (hB8.still hs9).still hs10
                  have hM10 := (hM8.keep hs9 (fun h => h)).keep hs10 (fun h => h)
                  have z4 := ((hW8.keep hs9 (fun h => h)).keep hs10 (fun h => h)).cell (i := 4) rfl
                  clear HG8 hB8 hM8 hW8 hs9 hs10 hY
                  cases th with
                  | false =>
                    go_wp2
                    exact ⟨⟨i + 1, A8, c8, l8, m8, f8, by go_num, by omega, by omega, hB10, hM10, hD8⟩, by simp [intOf]; omega⟩
                  | true =>
                    by_cases h14 : 1 < x4
                    · obtain rfl := hstl rfl h14
                      have q14 : (x4 > 1) = True := eq_true h14
                      go_wp2
                      exact ⟨⟨i + 1, A8, c8, l8, m8, f8, by go_num, by omega, by omega, hB10, hM10, hD8⟩, by simp [intOf]; omega⟩
                    · have q14 : (x4 > 1) = False := eq_false h14
                      go_wp2
                      exact ⟨⟨i + 1, A8, c8, l8, m8, f8, by go_num, by omega, by omega, hB10, hM10, hD8⟩, by simp [intOf]; omega⟩
            · have q3 : (k == 3) = false := by simp [k3]
              by_cases k4 : k = 4
              · as_aux_lemma =>
                  subst k4
                  have HA := remove_calls hB7.pj.pa hg s
                  have hgA := rem_good hB7.pj.good s
                  obtain ⟨hD0, hDn, hSt⟩ := rem_facts (s := s) hD
                  generalize remR l s = r at *
                  obtain ⟨l8, e⟩ := r
                  have hDn : e ≠ 0 → DD l8 f := hDn
                  have hD0 : e = 0 → DD l8 (bupd f s true) := hD0
                  by_cases he : e = 0
                  · subst he
                    have hD8 := hD0 rfl
                    clear hD0 hDn
                    go_upto_region 30 with (go_at_call 12; refine HA.mono ?_; rintro e8 w8 ⟨rfl, hP8, hs8⟩)
                    have hB8 := hB7.pool hP8 hs8 (Near.refl _ _) hgA
                    have hM8 := hM7.keep hs8 hB7.free
                    have hW8 := hW7.keep hs8 hwp
                    clear HA hP8 hs8 hgA
                    obtain ⟨A8, hA8⟩ : ∃ A8, A8 = A := ⟨_, rfl⟩
                    obtain ⟨c8, hc8⟩ : ∃ c8, c8 = c := ⟨_, rfl⟩
                    rw [← hA8, ← hc8] at hB8
                    clear hA8 hc8
                    go_upto_region 34 with (first | (at_mapUpdate; refine wpList_mbool_put (i := true) rfl _ _ _ rfl hM8 (by omega) hs1000 rfl rfl rfl ?_; intro w11 hM11 hs11))
                    have hB8 := hB8.map hs11
                    have hW8 := hW8.keep hs11 hwb
                    have hM8 := hM11
                    clear hM11 hs11
                    obtain ⟨m8, hm8, hmm8⟩ : ∃ m8, m + 1 = m8 ∧ m8 ≤ i + 1 := ⟨_, rfl, by omega⟩
                    rw [hm8] at hM8
                    clear hm8
                    obtain ⟨f8, hf8⟩ : ∃ f8, bupd f s true = f8 := ⟨_, rfl⟩
                    rw [hf8] at hM8 hD8
                    clear hf8
                    have hstl := hst0.out _ hSt
                    obtain ⟨y0, y1, y2, y3, y4, _, HG8⟩ := get_open hB8.pj.pa hB8.len s
                    clear e0 e1 e2 hB7 hM7 hW7 hE7 hD hst0 hfacts hSt hg
                    generalize hsti : (getB l8 s).2 = still at *
                    clear hsti
                    go_upto_region 35 with (go_at_call 19; refine HG8.mono ?_; rintro e9 w9 ⟨rfl, hs9⟩)
                    refine alloc_next (cs := [.string y0, .int .i64 y1, .int .i64 y2, .int .i64 y3, .int .i64 y4]) ?_
                    intro w10 hY hs10
                    have hB10 := (hB8.still hs9).still hs10
                    have hM10 := (hM8.keep hs9 (fun h => h)).keep hs10 (fun h => h)
                    have z4 := ((hW8.keep hs9 (fun h => h)).keep hs10 (fun h => h)).cell (i := 4) rfl
                    clear HG8 hB8 hM8 hW8 hs9 hs10 hY
                    cases th with
                    | false =>
                      go_wp2
                      exact ⟨⟨i + 1, A8, c8, l8, m8, f8, by go_num, by omega, by omega, hB10, hM10, hD8⟩, by simp [intOf]; omega⟩
                    | true =>
                      by_cases h14 : 1 < x4
                      · obtain rfl := hstl rfl h14
                        have q14 : (x4 > 1) = True := eq_true h14
                        go_wp2
                        exact ⟨⟨i + 1, A8, c8, l8, m8, f8, by go_num, by omega, by omega, hB10, hM10, hD8⟩, by simp [intOf]; omega⟩
                      · have q14 : (x4 > 1) = False := eq_false h14
                        go_wp2
                        exact ⟨⟨i + 1, A8, c8, l8, m8, f8, by go_num, by omega, by omega, hB10, hM10, hD8⟩, by simp [intOf]; omega⟩
                  · have he' : (e == 0) = false := by simp [he]
                    have hD8 := hDn he
                    clear hD0 hDn
                    go_upto_region 34 with (go_at_call 12; refine HA.mono ?_; rintro e8 w8 ⟨rfl, hP8, hs8⟩)
                    have hB8 := hB7.pool hP8 hs8 (Near.refl _ _) hgA
                    have hM8 := hM7.keep hs8 hB7.free
                    have hW8 := hW7.keep hs8 hwp
                    clear HA hP8 hs8 hgA
                    obtain ⟨A8, hA8⟩ : ∃ A8, A8 = A := ⟨_, rfl⟩
                    obtain ⟨c8, hc8⟩ : ∃ c8, c8 = c := ⟨_, rfl⟩
                    rw [← hA8, ← hc8] at hB8
                    clear hA8 hc8
                    obtain ⟨m8, hm8, hmm8⟩ : ∃ m8, m = m8 ∧ m8 ≤ i + 1 := ⟨_, rfl, by omega⟩
                    rw [hm8] at hM8
                    clear hm8
                    obtain ⟨f8, hf8⟩ : ∃ f8, f = f8 := ⟨_, rfl⟩
                    rw [hf8] at hM8 hD8
                    clear hf8
                    have hstl := hst0.out _ hSt
                    obtain ⟨y0, y1, y2, y3, y4, _, HG8⟩ := get_open hB8.pj.pa hB8.len s
                    clear e0 e1 e2 hB7 hM7 hW7 hE7 hD hst0 hfacts hSt hg
                    generalize hsti : (getB l8 s).2 = still at *
                    clear hsti
                    go_upto_region 35 with (go_at_call 19; refine HG8.mono ?_; rintro e9 w9 ⟨rfl, hs9⟩)
                    refine alloc_next (cs := [.string y0, .int .i64 y1, .int .i64 y2, .int .i64 y3, .int .i64 y4]) ?_
                    intro w10 hY hs10
                    have hB10 := (hB8.still hs9).still hs10
                    have hM10 := (hM8.keep hs9 (fun h => h)).keep hs10 (fun h => h)
                    have z4 := ((hW8.keep hs9 (fun h => h)).keep hs10 (fun h => h)).cell (i := 4) rfl
                    clear HG8 hB8 hM8 hW8 hs9 hs10 hY
                    cases th with
                    | false =>
                      go_wp2
                      exact ⟨⟨i + 1, A8, c8, l8, m8, f8, by go_num, by omega, by omega, hB10, hM10, hD8⟩, by simp [intOf]; omega⟩
                    | true =>
                      by_cases h14 : 1 < x4
                      · obtain rfl := hstl rfl h14
                        have q14 : (x4 > 1) = True := eq_true h14
                        go_wp2
                        exact ⟨⟨i + 1, A8, c8, l8, m8, f8, by go_num, by omega, by omega, hB10, hM10, hD8⟩, by simp [intOf]; omega⟩
                      · have q14 : (x4 > 1) = False := eq_false h14
                        go_wp2
                        exact ⟨⟨i + 1, A8, c8, l8, m8, f8, by go_num, by omega, by omega, hB10, hM10, hD8⟩, by simp [intOf]; omega⟩
              · have q4 : (k == 4) = false := by simp [k4]
                by_cases k5 : k = 5
                · as_aux_lemma =>
                    subst k5
                    have HA := take_calls hB7.pj.pa hg s
                    have hgA := take_good hB7.pj.good s
                    obtain ⟨hD8, hSt, ht0⟩ := take_facts (s := s) hD
                    rw [hth0] at ht0
                    generalize takeR l s = r at *
                    obtain ⟨l8, e⟩ := r
                    have hD8 : DD l8 f := hD8
                    have ht0 : e = 0 → th = true ∧ f s = false := ht0
                    by_cases he : e = 0
                    · subst he
                      obtain ⟨rfl, hfs⟩ := ht0 rfl
                      clear ht0 hth0
                      go_upto_region 34 with (go_at_call 13; refine HA.mono ?_; rintro e8 w8 ⟨rfl, hP8, hs8⟩; have hlk := mbool_run (hM7.keep hs8 hB7.free) hs1000; rw [hfs] at hlk)
                      have hB8 := hB7.pool hP8 hs8 (Near.refl _ _) hgA
                      have hM8 := hM7.keep hs8 hB7.free
                      have hW8 := hW7.keep hs8 hwp
                      clear HA hP8 hs8 hgA hlk hfs
                      obtain ⟨A8, hA8⟩ : ∃ A8, A8 = A := ⟨_, rfl⟩
                      obtain ⟨c8, hc8⟩ : ∃ c8, c8 = c := ⟨_, rfl⟩
                      rw [← hA8, ← hc8] at hB8
                      clear hA8 hc8
                      obtain ⟨m8, hm8, hmm8⟩ : ∃ m8, m = m8 ∧ m8 ≤ i + 1 := ⟨_, rfl, by omega⟩
                      rw [hm8] at hM8
                      clear hm8
                      obtain ⟨f8, hf8⟩ : ∃ f8, f = f8 := ⟨_, rfl⟩
                      rw [hf8] at hM8 hD8
                      clear hf8
                      have hstl := hst0.out _ hSt
                      obtain ⟨y0, y1, y2, y3, y4, _, HG8⟩ := get_open hB8.pj.pa hB8.len s
                      clear e0 e1 e2 hB7 hM7 hW7 hE7 hD hst0 hfacts hSt hg
                      generalize hsti : (getB l8 s).2 = still at *
                      clear hsti
                      go_upto_region 35 with (go_at_call 19; refine HG8.mono ?_; rintro e9 w9 ⟨rfl, hs9⟩)
                      refine alloc_next (cs := [.string y0, .int .i64 y1, .int .i64 y2, .int .i64 y3, .int .i64 y4]) ?_
                      intro w10 hY hs10
                      have hB10 := (hB8.still hs9).still hs10
                      have hM10 := (hM8.keep hs9 (fun h => h)).keep hs10 (fun h => h)
                      have z4 := ((hW8.keep hs9 (fun h => h)).keep hs10 (fun h => h)).cell (i := 4) rfl
                      clear HG8 hB8 hM8 hW8 hs9 hs10 hY
                      by_cases h14 : 1 < x4
                      · obtain rfl := hstl (by trivial) h14
                        have q14 : (x4 > 1) = True := eq_true h14
                        go_wp2
                        exact ⟨⟨i + 1, A8, c8, l8, m8, f8, by go_num, by omega, by omega, hB10, hM10, hD8⟩, by simp [intOf]; omega⟩
                      · have q14 : (x4 > 1) = False := eq_false h14
                        go_wp2
                        exact ⟨⟨i + 1, A8, c8, l8, m8, f8, by go_num, by omega, by omega, hB10, hM10, hD8⟩, by simp [intOf]; omega⟩
                    · have he' : (e == 0) = false := by simp [he]
                      clear ht0
                      go_upto_region 34 with (go_at_call 13; refine HA.mono ?_; rintro e8 w8 ⟨rfl, hP8, hs8⟩)
                      have hB8 := hB7.pool hP8 hs8 (Near.refl _ _) hgA
                      have hM8 := hM7.keep hs8 hB7.free
                      have hW8 := hW7.keep hs8 hwp
                      clear HA hP8 hs8 hgA
                      obtain ⟨A8, hA8⟩ : ∃ A8, A8 = A := ⟨_, rfl⟩
                      obtain ⟨c8, hc8⟩ : ∃ c8, c8 = c := ⟨_, rfl⟩
                      rw [← hA8, ← hc8] at hB8
                      clear hA8 hc8
                      obtain ⟨m8, hm8, hmm8⟩ : ∃ m8, m = m8 ∧ m8 ≤ i + 1 := ⟨_, rfl, by omega⟩
                      rw [hm8] at hM8
                      clear hm8
                      obtain ⟨f8, hf8⟩ : ∃ f8, f = f8 := ⟨_, rfl⟩
                      rw [hf8] at hM8 hD8
                      clear hf8
                      have hstl := hst0.out _ hSt
                      obtain ⟨y0, y1, y2, y3, y4, _, HG8⟩ := get_open hB8.pj.pa hB8.len s
                      clear e0 e1 e2 hB7 hM7 hW7 hE7 hD hst0 hfacts hSt hg
                      generalize hsti : (getB l8 s).2 = still at *
                      clear hsti
                      go_upto_region 35 with (go_at_call 19; refine HG8.mono ?_; rintro e9 w9 ⟨rfl, hs9⟩)
                      refine alloc_next (cs := [.string y0, .int .i64 y1, .int .i64 y2, .int .i64 y3, .int .i64 y4]) ?_
                      intro w10 hY hs10
                      have hB10 := (hB8.still hs9).still hs10
                      have hM10 := (hM8.keep hs9 (fun h => h)).keep hs10 (fun h => h)
                      have z4 := ((hW8.keep hs9 (fun h => h)).keep hs10 (fun h => h)).cell (i := 4) rfl
                      clear HG8 hB8 hM8 hW8 hs9 hs10 hY
                      cases th with
                      | false =>
                        go_wp2
                        exact ⟨⟨i + 1, A8, c8, l8, m8, f8, by go_num, by omega, by omega, hB10, hM10, hD8⟩, by simp [intOf]; omega⟩
                      | true =>
                        by_cases h14 : 1 < x4
                        · obtain rfl := hstl rfl h14
                          have q14 : (x4 > 1) = True := eq_true h14
                          go_wp2
                          exact ⟨⟨i + 1, A8, c8, l8, m8, f8, by go_num, by omega, by omega, hB10, hM10, hD8⟩, by simp [intOf]; omega⟩
                        · have q14 : (x4 > 1) = False := eq_false h14
                          go_wp2
                          exact ⟨⟨i + 1, A8, c8, l8, m8, f8, by go_num, by omega, by omega, hB10, hM10, hD8⟩, by simp [intOf]; omega⟩
                · have q5 : (k == 5) = false := by simp [k5]
                  have HA := give_calls hB7.pj.pa hg s
                  have hgA := give_good hB7.pj.good s
                  obtain ⟨hD8, hSt⟩ := give_facts (s := s) hD
                  obtain ⟨hgf, hgn, hthf, hx⟩ := hfacts.out
                  cases th with
                  | false =>
                    have hfn : l.find? (named s) = none := by
                      cases hf : l.find? (named s) with
                      | none => rfl
                      | some x => exact absurd (hgf x hf) (by decide)
                    have her0 := give_none hfn
                    clear hfn
                    as_aux_lemma =>
                      have her : (giveR l s).2 = (false, 6) := her0
                      have her1 : (giveR l s).2.1 = false := by rw [her]
                      have her2 : (giveR l s).2.2 = 6 := by rw [her]
                      rw [her1, her2] at HA
                      clear her her0 her1 her2 hgf hgn hthf hx hth0
                      generalize (giveR l s).1 = l8 at *
                      go_upto_region 15 with (go_at_call 15; refine HA.mono ?_; rintro e8 w8 ⟨rfl, hP8, hs8⟩)
                      have hB8 := hB7.pool hP8 hs8 (Near.refl _ _) hgA
                      have hM8 := hM7.keep hs8 hB7.free
                      have hW8 := hW7.keep hs8 hwp
                      have z4 := hW8.cell (i := 4) rfl
                      have hlk := mbool_run hM8 hs1000
                      clear HA hP8 hs8 hgA
                      go_upto_region 34 with (fail)
                      clear z4 hlk
                      obtain ⟨A8, hA8⟩ : ∃ A8, A8 = A := ⟨_, rfl⟩
                      obtain ⟨c8, hc8⟩ : ∃ c8, c8 = c := ⟨_, rfl⟩
                      rw [← hA8, ← hc8] at hB8
                      clear hA8 hc8
                      obtain ⟨m8, hm8, hmm8⟩ : ∃ m8, m = m8 ∧ m8 ≤ i + 1 := ⟨_, rfl, by omega⟩
                      rw [hm8] at hM8
                      clear hm8
                      obtain ⟨f8, hf8⟩ : ∃ f8, f = f8 := ⟨_, rfl⟩
                      rw [hf8] at hM8 hD8
                      clear hf8
                      have hstl := hst0.out _ hSt
                      obtain ⟨y0, y1, y2, y3, y4, _, HG8⟩ := get_open hB8.pj.pa hB8.len s
                      clear e0 e1 e2 hB7 hM7 hW7 hE7 hD hst0 hfacts hSt hg
                      generalize hsti : (getB l8 s).2 = still at *
                      clear hsti
                      go_upto_region 35 with (go_at_call 19; refine HG8.mono ?_; rintro e9 w9 ⟨rfl, hs9⟩)
                      refine alloc_next (cs := [.string y0, .int .i64 y1, .int .i64 y2, .int .i64 y3, .int .i64 y4]) ?_
                      intro w10 hY hs10
                      have hB10 := (hB8.still hs9).still hs10
                      have hM10 := (hM8.keep hs9 (fun h => h)).keep hs10 (fun h => h)
                      have z4 := ((hW8.keep hs9 (fun h => h)).keep hs10 (fun h => h)).cell (i := 4) rfl
                      clear HG8 hB8 hM8 hW8 hs9 hs10 hY
                      go_wp2
                      exact ⟨⟨i + 1, A8, c8, l8, m8, f8, by go_num, by omega, by omega, hB10, hM10, hD8⟩, by simp [intOf]; omega⟩
                  | true =>
                    obtain ⟨x, hf⟩ := hthf rfl
                    obtain rfl := hx x hf
                    obtain ⟨hxm, hxs⟩ := find_mem hf
                    have hxs : x0 = s := hxs
                    have hfs : f s = decide (x3 ≠ 0) := by have := hD _ hxm; rwa [show (⟨x0, x1, x2, x3, x4⟩ : S38).f0 = s from hxs] at this
                    have hnn := (hB7.pj.good.num _ hxm).1
                    have hnn : 0 ≤ x4 := hnn
                    clear hxm hxs
                    by_cases h40 : x4 = 0
                    · have her0 := give_zero hf h40
                      clear hf
                      subst h40
                      as_aux_lemma =>
                        have her : (giveR l s).2 = (false, 9) := her0
                        have her1 : (giveR l s).2.1 = false := by rw [her]
                        have her2 : (giveR l s).2.2 = 9 := by rw [her]
                        rw [her1, her2] at HA
                        clear her her0 her1 her2 hgf hgn hthf hx hth0
                        generalize (giveR l s).1 = l8 at *
                        go_upto_region 15 with (go_at_call 15; refine HA.mono ?_; rintro e8 w8 ⟨rfl, hP8, hs8⟩)
                        have hB8 := hB7.pool hP8 hs8 (Near.refl _ _) hgA
                        have hM8 := hM7.keep hs8 hB7.free
                        have hW8 := hW7.keep hs8 hwp
                        have z4 := hW8.cell (i := 4) rfl
                        have hlk := mbool_run hM8 hs1000
                        clear HA hP8 hs8 hgA
                        go_upto_region 34 with (fail)
                        clear z4 hlk
                        obtain ⟨A8, hA8⟩ : ∃ A8, A8 = A := ⟨_, rfl⟩
                        obtain ⟨c8, hc8⟩ : ∃ c8, c8 = c := ⟨_, rfl⟩
                        rw [← hA8, ← hc8] at hB8
                        clear hA8 hc8
                        obtain ⟨m8, hm8, hmm8⟩ : ∃ m8, m = m8 ∧ m8 ≤ i + 1 := ⟨_, rfl, by omega⟩
                        rw [hm8] at hM8
                        clear hm8
                        obtain ⟨f8, hf8⟩ : ∃ f8, f = f8 := ⟨_, rfl⟩
                        rw [hf8] at hM8 hD8
                        clear hf8
                        have hstl := hst0.out _ hSt
                        obtain ⟨y0, y1, y2, y3, y4, _, HG8⟩ := get_open hB8.pj.pa hB8.len s
                        clear e0 e1 e2 hB7 hM7 hW7 hE7 hD hst0 hfacts hSt hg
                        generalize hsti : (getB l8 s).2 = still at *
                        clear hsti
                        go_upto_region 35 with (go_at_call 19; refine HG8.mono ?_; rintro e9 w9 ⟨rfl, hs9⟩)
                        refine alloc_next (cs := [.string y0, .int .i64 y1, .int .i64 y2, .int .i64 y3, .int .i64 y4]) ?_
                        intro w10 hY hs10
                        have hB10 := (hB8.still hs9).still hs10
                        have hM10 := (hM8.keep hs9 (fun h => h)).keep hs10 (fun h => h)
                        have z4 := ((hW8.keep hs9 (fun h => h)).keep hs10 (fun h => h)).cell (i := 4) rfl
                        clear HG8 hB8 hM8 hW8 hs9 hs10 hY
                        go_wp2
                        exact ⟨⟨i + 1, A8, c8, l8, m8, f8, by go_num, by omega, by omega, hB10, hM10, hD8⟩, by simp [intOf]; omega⟩
                    · have her0 := give_some hf h40
                      have q40 : (x4 > 0) = True := eq_true (by omega)
                      clear hf
                      by_cases h30 : x3 = 0
                      · subst h30
                        have hfs : f s = false := hfs
                        as_aux_lemma =>
                          have her : (giveR l s).2 = (false, 0) := her0
                          have her1 : (giveR l s).2.1 = false := by rw [her]
                          have her2 : (giveR l s).2.2 = 0 := by rw [her]
                          rw [her1, her2] at HA
                          clear her her0 her1 her2 hgf hgn hthf hx hth0
                          generalize (giveR l s).1 = l8 at *
                          go_upto_region 15 with (go_at_call 15; refine HA.mono ?_; rintro e8 w8 ⟨rfl, hP8, hs8⟩)
                          have hB8 := hB7.pool hP8 hs8 (Near.refl _ _) hgA
                          have hM8 := hM7.keep hs8 hB7.free
                          have hW8 := hW7.keep hs8 hwp
                          have z4 := hW8.cell (i := 4) rfl
                          have hlk := mbool_run hM8 hs1000
                          rw [hfs] at hlk
                          clear hfs
                          clear HA hP8 hs8 hgA
                          go_upto_region 34 with (fail)
                          clear z4 hlk
                          obtain ⟨A8, hA8⟩ : ∃ A8, A8 = A := ⟨_, rfl⟩
                          obtain ⟨c8, hc8⟩ : ∃ c8, c8 = c := ⟨_, rfl⟩
                          rw [← hA8, ← hc8] at hB8
                          clear hA8 hc8
                          obtain ⟨m8, hm8, hmm8⟩ : ∃ m8, m = m8 ∧ m8 ≤ i + 1 := ⟨_, rfl, by omega⟩
                          rw [hm8] at hM8
                          clear hm8
                          obtain ⟨f8, hf8⟩ : ∃ f8, f = f8 := ⟨_, rfl⟩
                          rw [hf8] at hM8 hD8
                          clear hf8
                          have hstl := hst0.out _ hSt
                          obtain ⟨y0, y1, y2, y3, y4, _, HG8⟩ := get_open hB8.pj.pa hB8.len s
                          clear e0 e1 e2 hB7 hM7 hW7 hE7 hD hst0 hfacts hSt hg
                          generalize hsti : (getB l8 s).2 = still at *
                          clear hsti
                          go_upto_region 35 with (go_at_call 19; refine HG8.mono ?_; rintro e9 w9 ⟨rfl, hs9⟩)
                          refine alloc_next (cs := [.string y0, .int .i64 y1, .int .i64 y2, .int .i64 y3, .int .i64 y4]) ?_
                          intro w10 hY hs10
                          have hB10 := (hB8.still hs9).still hs10
                          have hM10 := (hM8.keep hs9 (fun h => h)).keep hs10 (fun h => h)
                          have z4 := ((hW8.keep hs9 (fun h => h)).keep hs10 (fun h => h)).cell (i := 4) rfl
                          clear HG8 hB8 hM8 hW8 hs9 hs10 hY
                          by_cases h14 : 1 < x4
                          · obtain rfl := hstl (by trivial) h14
                            have q14 : (x4 > 1) = True := eq_true h14
                            go_wp2
                            exact ⟨⟨i + 1, A8, c8, l8, m8, f8, by go_num, by omega, by omega, hB10, hM10, hD8⟩, by simp [intOf]; omega⟩
                          · have q14 : (x4 > 1) = False := eq_false h14
                            go_wp2
                            exact ⟨⟨i + 1, A8, c8, l8, m8, f8, by go_num, by omega, by omega, hB10, hM10, hD8⟩, by simp [intOf]; omega⟩
                      · have hfs : f s = true := by rw [hfs]; exact decide_eq_true h30
                        by_cases h41 : x4 = 1
                        · subst h41
                          have her0 : (giveR l s).2 = (true, 0) := by rw [her0]; simp [h30]
                          as_aux_lemma =>
                            have her : (giveR l s).2 = (true, 0) := her0
                            have her1 : (giveR l s).2.1 = true := by rw [her]
                            have her2 : (giveR l s).2.2 = 0 := by rw [her]
                            rw [her1, her2] at HA
                            clear her her0 her1 her2 hgf hgn hthf hx hth0
                            generalize (giveR l s).1 = l8 at *
                            go_upto_region 15 with (go_at_call 15; refine HA.mono ?_; rintro e8 w8 ⟨rfl, hP8, hs8⟩)
                            have hB8 := hB7.pool hP8 hs8 (Near.refl _ _) hgA
                            have hM8 := hM7.keep hs8 hB7.free
                            have hW8 := hW7.keep hs8 hwp
                            have z4 := hW8.cell (i := 4) rfl
                            have hlk := mbool_run hM8 hs1000
                            rw [hfs] at hlk
                            clear hfs
                            clear HA hP8 hs8 hgA
                            go_upto_region 34 with (fail)
                            clear z4 hlk
                            obtain ⟨A8, hA8⟩ : ∃ A8, A8 = A := ⟨_, rfl⟩
                            obtain ⟨c8, hc8⟩ : ∃ c8, c8 = c := ⟨_, rfl⟩
                            rw [← hA8, ← hc8] at hB8
                            clear hA8 hc8
                            obtain ⟨m8, hm8, hmm8⟩ : ∃ m8, m = m8 ∧ m8 ≤ i + 1 := ⟨_, rfl, by omega⟩
                            rw [hm8] at hM8
                            clear hm8
                            obtain ⟨f8, hf8⟩ : ∃ f8, f = f8 := ⟨_, rfl⟩
                            rw [hf8] at hM8 hD8
                            clear hf8
                            have hstl := hst0.out _ hSt
                            obtain ⟨y0, y1, y2, y3, y4, _, HG8⟩ := get_open hB8.pj.pa hB8.len s
                            clear e0 e1 e2 hB7 hM7 hW7 hE7 hD hst0 hfacts hSt hg
                            generalize hsti : (getB l8 s).2 = still at *
                            clear hsti
                            go_upto_region 35 with (go_at_call 19; refine HG8.mono ?_; rintro e9 w9 ⟨rfl, hs9⟩)
                            refine alloc_next (cs := [.string y0, .int .i64 y1, .int .i64 y2, .int .i64 y3, .int .i64 y4]) ?_
                            intro w10 hY hs10
                            have hB10 := (hB8.still hs9).still hs10
                            have hM10 := (hM8.keep hs9 (fun h => h)).keep hs10 (fun h => h)
                            have z4 := ((hW8.keep hs9 (fun h => h)).keep hs10 (fun h => h)).cell (i := 4) rfl
                            clear HG8 hB8 hM8 hW8 hs9 hs10 hY
                            go_wp2
                            exact ⟨⟨i + 1, A8, c8, l8, m8, f8, by go_num, by omega, by omega, hB10, hM10, hD8⟩, by simp [intOf]; omega⟩
                        · have q41 : (x4 == 1) = false := by simp [h41]
                          have her0 : (giveR l s).2 = (false, 0) := by rw [her0]; simp [h41]
                          as_aux_lemma =>
                            have her : (giveR l s).2 = (false, 0) := her0
                            have her1 : (giveR l s).2.1 = false := by rw [her]
                            have her2 : (giveR l s).2.2 = 0 := by rw [her]
                            rw [her1, her2] at HA
                            clear her her0 her1 her2 hgf hgn hthf hx hth0
                            generalize (giveR l s).1 = l8 at *
                            go_upto_region 15 with (go_at_call 15; refine HA.mono ?_; rintro e8 w8 ⟨rfl, hP8, hs8⟩)
                            have hB8 := hB7.pool hP8 hs8 (Near.refl _ _) hgA
                            have hM8 := hM7.keep hs8 hB7.free
                            have hW8 := hW7.keep hs8 hwp
                            have z4 := hW8.cell (i := 4) rfl
                            have hlk := mbool_run hM8 hs1000
                            rw [hfs] at hlk
                            clear hfs
                            clear HA hP8 hs8 hgA
                            go_upto_region 34 with (fail)
                            clear z4 hlk
                            obtain ⟨A8, hA8⟩ : ∃ A8, A8 = A := ⟨_, rfl⟩
                            obtain ⟨c8, hc8⟩ : ∃ c8, c8 = c := ⟨_, rfl⟩
                            rw [← hA8, ← hc8] at hB8
                            clear hA8 hc8
                            obtain ⟨m8, hm8, hmm8⟩ : ∃ m8, m = m8 ∧ m8 ≤ i + 1 := ⟨_, rfl, by omega⟩
                            rw [hm8] at hM8
                            clear hm8
                            obtain ⟨f8, hf8⟩ : ∃ f8, f = f8 := ⟨_, rfl⟩
                            rw [hf8] at hM8 hD8
                            clear hf8
                            have hstl := hst0.out _ hSt
                            obtain ⟨y0, y1, y2, y3, y4, _, HG8⟩ := get_open hB8.pj.pa hB8.len s
                            clear e0 e1 e2 hB7 hM7 hW7 hE7 hD hst0 hfacts hSt hg
                            generalize hsti : (getB l8 s).2 = still at *
                            clear hsti
                            go_upto_region 35 with (go_at_call 19; refine HG8.mono ?_; rintro e9 w9 ⟨rfl, hs9⟩)
                            refine alloc_next (cs := [.string y0, .int .i64 y1, .int .i64 y2, .int .i64 y3, .int .i64 y4]) ?_
                            intro w10 hY hs10
                            have hB10 := (hB8.still hs9).still hs10
                            have hM10 := (hM8.keep hs9 (fun h => h)).keep hs10 (fun h => h)
                            have z4 := ((hW8.keep hs9 (fun h => h)).keep hs10 (fun h => h)).cell (i := 4) rfl
                            clear HG8 hB8 hM8 hW8 hs9 hs10 hY
                            have h14 : 1 < x4 := by omega
                            obtain rfl := hstl (by trivial) h14
                            have q14 : (x4 > 1) = True := eq_true h14
                            go_wp2
                            exact ⟨⟨i + 1, A8, c8, l8, m8, f8, by go_num, by omega, by omega, hB10, hM10, hD8⟩, by simp [intOf]; omega⟩
    · have hends : ¬ i < n ∨ (i < n ∧ ¬ i < 60) := by omega
      clear hact
      rcases hends with h1 | ⟨h1, h2⟩
      · have q1 : ((i : Int) < (n : Int)) = False := eq_false (by omega)
        go_wp2
        go_ret
        exact ⟨rfl, hB.pj.bel⟩
      · have q1 : ((i : Int) < (n : Int)) = True := eq_true (by omega)
        have q2 : ((i : Int) < 60) = False := eq_false (by omega)
        go_wp2
        go_ret
        exact ⟨rfl, hB.pj.bel⟩
end Go.Proofs.Yteebahjpoafhmaa.Pool