/- The walk of stewardlaw20.AgendaOrder. Own work of this seat. -/
import Derived.Test.YtgohlbljdffelaaOrdP
namespace Go.Proofs.Ytgohlbljdffelaa.Ord
open Go.RowKit Go.Proofs.Ytgohlbljdffelaa.Kit Go.Proofs.Ytgohlbljdffelaa.AgP Go.Proofs.YtgohlbljdffelaaW.PrintWords Go.Proofs.Ytgohlbljdffelaa
set_option linter.unusedVariables false
set_option linter.unusedSimpArgs false

theorem below_of {w w1 w2 : World} {F : Nat → Prop} (h : Below w.heap.size w w1) (hs : Step F w1 w2) (hF : ∀ k, F k → w.heap.size ≤ k) : Below w.heap.size w w2 := h.trans (hs.below h.size hF)

set_option maxRecDepth 100000 in
set_option maxHeartbeats 8000000 in
theorem order_calls (A0 : Option Addr) (c0 : Nat) (acts : List Act3) (w : World) (hr : Kd.C kAct w A0 acts.length acts) (hc : acts.length ≤ c0) :
    Calls Try.prog 3 #[.slice A0 acts.length c0] w fun e w' => e = .returned (.bool true) ∧ Below w.heap.size w w' := by
  have hact0 : ∀ i, i < acts.length → _ := fun i hi => act_at hr i hi
  have hact := Lib.hid hact0
  clear hact0 hr
  obtain ⟨ts, hts⟩ : ∃ ts : Nat → Int, ts = fun i => (acts.getD i zAct).f1 := ⟨_, rfl⟩
  have htsi : ∀ i, (acts.getD i zAct).f1 = ts i := fun i => by rw [hts]
  have HTS := Lib.hid htsi
  clear hts htsi
  obtain ⟨n, hn⟩ : ∃ n, acts.length = n := ⟨_, rfl⟩
  rw [hn] at hact hc ⊢
  have HN := Lib.hid hn
  clear hn
  go_enter Try.func3, Try.ntmps3
  go_upto_region 6 with (first | (go_at_call 8; refine (awake_calls _).mono ?_; rintro e0 w1 ⟨rfl, hs1⟩) | (go_at_call 9; refine (AgInt.new_calls _).mono ?_; rintro e1 w2 ⟨a, F, rfl, hA2, hs2, hF2⟩))
  have hb1 : Below w.heap.size w w1 := below_of (Below.refl _ _) hs1 (fun _ h => h.elim)
  have hb2 := below_of hb1 hs2 (fun _ h => h.elim)
  have hF : ∀ k, F k → w.heap.size ≤ k := fun k hk => Nat.le_trans hb1.size (hF2 k hk)
  clear hs1 hs2 hF2 hb1
  obtain ⟨m, hm1, hm2, hm3⟩ : ∃ m : Nat, m ≤ 60 ∧ m ≤ n ∧ (if (60 : Int) < (n : Int) then (60 : Int) else (n : Int)) = (m : Int) := by
    by_cases h : (60 : Int) < (n : Int)
    · exact ⟨60, by omega, by omega, by rw [if_pos h]; rfl⟩
    · exact ⟨n, by omega, by omega, by rw [if_neg h]⟩
  go_upto_region 7 with (fail)
  go_wp2
  go_loopw [5, 23] (fun v5 v23 wr => ∃ (i : Nat) (F : Nat → Prop), v23 = .int .i64 (i : Int) ∧ i ≤ m ∧ AgInt.AgR wr a F (ordL ts i) i ∧ (∀ k, F k → w.heap.size ≤ k) ∧ Below w.heap.size w wr) (fun _ v _ => m - (intOf v).toNat)
  case atStart => exact ⟨0, F, rfl, by omega, hA2, hF, hb2⟩
  case round =>
    clear hA2 hF hb2
    obtain ⟨i, F, rfl, hi, hA, hF, hB⟩ := hrel
    by_cases hlt : i < m
    · as_aux_lemma =>
        have hlt' : (i : Int) < (m : Int) := by omega
        have hin : (i : Int) < (n : Int) := by omega
        obtain ⟨ad, rfl, hcell⟩ := hact.out i (by omega)
        obtain ⟨_, hc1, _⟩ := hcell wr hB
        rw [HTS.out] at hc1
        have HSET := Lib.hid (AgInt.set_calls hA (by omega) (k := (i : Int)) (by unfold AgInt.KOk; omega) (ts i))
        have hcast : ordL ts (i + 1) = setL (ordL ts i) (i : Int) (AgInt.clipT (ts i)) ((i + 1 : Nat) : Int) := rfl
        have HC := Lib.hid hcast
        clear hcell hcast
        go_wp2_with (go_at_call 10; refine HSET.out.mono ?_; rintro e w3 ⟨rfl, F', hA3, hs3, hF3⟩)
        have hsz := hB.size
        go_roundw
        case rel => exact ⟨i + 1, F', by go_num, by omega, by rw [HC.out]; exact hA3, fun k hk => (hF3 k hk).elim (hF k) (fun h => by omega), below_of hB hs3 hF⟩
        case measure => simp [intOf]; omega
    · have hge : ¬ (i : Int) < (m : Int) := by omega
      obtain rfl : i = m := by omega
      have hL0 := left_first hA.sorted
      have hln := ord_length ts i
      have HL := Lib.hid hL0
      have HLN := Lib.hid hln
      generalize hR : ordL ts i = R0 at *
      have HR := Lib.hid hR
      clear hR hL0 hln
      go_wp2
      go_loopw [6, 7, 8, 9, 10, 36] (fun v6 v7 v8 v9 v10 v36 wr => ∃ (j : Nat) (R : List (Ev Int)) (last key : Int), v36 = .int .i64 (j : Int) ∧ v6 = .int .i64 last ∧ v7 = .int .i64 key ∧ j ≤ i ∧ R.length + j = i ∧ Left ts i R last key ∧ AgInt.AgR wr a F R i ∧ Below w.heap.size w wr) (fun _ _ _ _ _ v _ => i - (intOf v).toNat)
      case atStart => exact ⟨0, R0, -1, -1, rfl, rfl, rfl, by omega, by have := HLN.out; omega, HL.out, hA, hB⟩
      case round =>
        clear hA hB
        obtain ⟨j, R, last, key, rfl, rfl, rfl, hj, hlen, hleft, hA, hB⟩ := hrel
        by_cases hlt : j < i
        · as_aux_lemma =>
            have hlt' : (j : Int) < (i : Int) := by omega
            cases R with
            | nil => simp at hlen; omega
            | cons s R =>
              obtain ⟨q, hq, hk, htm, hbeh, hleft'⟩ := left_next hleft
              have hbd := clip_bd (ts q)
              have HP := AgInt.apop_calls hA (by omega) 1099511627776
              have ev : AgInt.popV (s :: R) 1099511627776 = (s.key, s.tm, true) := by unfold AgInt.popV; simp only; rw [if_neg (by omega)]
              have el : AgInt.popL (s :: R) 1099511627776 = R := by unfold AgInt.popL; simp only; rw [if_neg (by omega)]
              rw [ev, el, hk, htm] at HP
              rw [hk, htm] at hleft' hbeh
              have hlen' : R.length + (j + 1) = i := by rw [List.length_cons] at hlen; omega
              obtain ⟨ad, rfl, hcell⟩ := hact.out q (by omega)
              have hcl := fun w' (hb : Below w.heap.size w w') => (hcell w' hb).2.1
              rw [HTS.out] at hcl
              have HCL := Lib.hid hcl
              have hqn : (q : Int) < (n : Int) := by omega
              have hqi : (q : Int) < (i : Int) := by omega
              have hq0 : (0 : Int) ≤ (q : Int) := by omega
              have hclip : (if (0 : Int) < (if (1099511627776 : Int) < ts q then 1099511627776 else ts q) then (if (1099511627776 : Int) < ts q then 1099511627776 else ts q) else 0) = AgInt.clipT (ts q) := by
                unfold AgInt.clipT
                by_cases h1 : (1099511627776 : Int) < ts q
                · simp only [if_pos h1]; rw [if_pos (by omega)]; omega
                · simp only [if_neg h1]
                  by_cases h2 : 0 < ts q
                  · rw [if_pos h2]; omega
                  · rw [if_neg h2]; omega
              have HLF := Lib.hid hleft'
              have HHP := Lib.hid HP
              clear hleft hleft' hcl hcell ev el hk htm HP
              generalize AgInt.clipT (ts q) = tm at *
              generalize hts : ts q = tq at *
              have HTQ := Lib.hid hts
              clear hts
              have HB2 := Lib.hid (fun w3 (hs : Step F wr w3) => below_of hB hs hF)
              rcases hbeh with hb | ⟨rfl, hb⟩
              · have q1 : ¬ (tm < last) := by omega
                have q2 : (tm == last) = false := by rw [beq_eq_false_iff_ne]; omega
                go_wp2_with (go_at_call 11; refine HHP.out.mono ?_; rintro e w3 ⟨rfl, hA3, hs3⟩; have hB3 := HB2.out _ hs3; have d1 := HCL.out _ hB3)
                exact ⟨⟨j + 1, R, tm, (q : Int), by go_num, rfl, rfl, by omega, hlen', HLF.out, hA3, hB3⟩, by simp [intOf]; omega⟩
              · have q1 : ¬ (last < last) := by omega
                have q3 : ((q : Int) ≤ key) = False := eq_false (by omega)
                go_wp2_with (go_at_call 11; refine HHP.out.mono ?_; rintro e w3 ⟨rfl, hA3, hs3⟩; have hB3 := HB2.out _ hs3; have d1 := HCL.out _ hB3)
                exact ⟨⟨j + 1, R, last, (q : Int), by go_num, rfl, rfl, by omega, hlen', HLF.out, hA3, hB3⟩, by simp [intOf]; omega⟩
        · as_aux_lemma =>
            have hge : ¬ (j : Int) < (i : Int) := by omega
            obtain rfl : R = [] := by
              cases R with
              | nil => rfl
              | cons s R => simp at hlen; omega
            have HP := AgInt.apop_calls hA (by omega) 1099511627776
            have ev : AgInt.popV [] 1099511627776 = (0, 0, false) := rfl
            have el : AgInt.popL [] 1099511627776 = [] := rfl
            rw [ev, el] at HP
            have HHP := Lib.hid HP
            have HB2 := Lib.hid (fun w3 (hs : Step F wr w3) => below_of hB hs hF)
            clear hleft ev el HP
            go_wp2_with (first | (go_at_call 11; refine HHP.out.mono ?_; rintro e w3 ⟨rfl, hA3, hs3⟩; have hB3 := HB2.out _ hs3; have hLE := AgInt.alen_calls hA3) | (go_at_call 12; refine hLE.mono ?_; rintro e w4 ⟨rfl, rfl⟩))
            go_ret
            exact ⟨by simp, hB3⟩
end Go.Proofs.Ytgohlbljdffelaa.Ord
