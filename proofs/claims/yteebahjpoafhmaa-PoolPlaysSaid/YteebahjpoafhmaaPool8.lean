/- pool: Add. Own work of this seat. -/
import Derived.Test.YteebahjpoafhmaaPool7
namespace Go.Proofs.Yteebahjpoafhmaa.Pool
open Go.RowKit Go.Proofs.Yteebahjpoafhmaa.Kit Go.Proofs.Yteebahjpoafhmaa.PPoolPlays Go.Proofs.YteebahjpoafhmaaW.PrintWords Go.Proofs.YteebahjpoafhmaaW.PrintLast Go.Proofs.YteebahjpoafhmaaW.PrintMore
set_option linter.unusedVariables false
set_option linter.unusedSimpArgs false

theorem atv_none {l : List S38} {s : ByteArray} (h : (l.find? (named s)).isSome = false) : atv l s = -1 := by
  rcases at_cases l s with ⟨h1, _⟩ | ⟨i, x, _, _, h2, _⟩
  · exact h1
  · rw [h2] at h; cases h
theorem atv_some {l : List S38} {s : ByteArray} (h : (l.find? (named s)).isSome = true) : ∃ i : Nat, atv l s = (i : Int) := by
  rcases at_cases l s with ⟨_, h2⟩ | ⟨i, x, _, h1, _, _⟩
  · rw [h2] at h; cases h
  · exact ⟨i, h1⟩

set_option maxRecDepth 100000 in
set_option maxHeartbeats 1000000 in
theorem add_calls {w : World} {p : Nat} {A : Option Addr} {c : Nat} {l : List S38} (h : PAt w p A c l) (hg : Good0 l) (s : ByteArray) (wt cp : Int) :
    Calls Try.prog 8 #[.pointer (some ⟨p, 0, none⟩), .string s, .int .i64 wt, .int .i64 cp] w fun e w' => e = .returned (.int .i64 (addR l s wt cp).2) ∧ ∃ A' c', PAt w' p A' c' (addR l s wt cp).1 ∧ PStep p A w w' ∧ Near w A A' := by
  unfold addR
  have hmax := hg.len
  have HN0 := name_calls (w := w) s
  have HC0 := fun w1 (n : Int) => count_calls (w := w1) n
  have HA0 := fun w1 (hs : Step (fun _ => False) w w1) => at_calls (h.still hs) (Nat.le_trans hmax (by omega)) s
  obtain ⟨bn, hbn⟩ : ∃ b, tname s = b := ⟨_, rfl⟩
  obtain ⟨bw, hbw⟩ : ∃ b, cntok wt = b := ⟨_, rfl⟩
  obtain ⟨bc', hbc⟩ : ∃ b, cntok cp = b := ⟨_, rfl⟩
  have HW0 := fun w1 => HC0 w1 wt
  have HP0 := fun w1 => HC0 w1 cp
  rw [hbn] at HN0
  rw [hbw] at HW0
  rw [hbc] at HP0
  rw [hbn, hbw, hbc]
  have HW := Lib.hid HW0
  have HP := Lib.hid HP0
  have HA := Lib.hid HA0
  clear HC0 HW0 HP0 HA0 hbn hbw hbc
  by_cases hb : (bn && bw && bc') = true
  · obtain ⟨⟨rfl, rfl⟩, rfl⟩ : (bn = true ∧ bw = true) ∧ bc' = true := by simpa using hb
    rw [if_pos hb]
    clear hb
    cases hf : (l.find? (named s)).isSome with
    | true =>
      obtain ⟨i, hi⟩ := atv_some hf
      have hpi : ((i : Int) ≥ 0) = True := eq_true (by omega)
      simp only [if_true]
      rw [hi] at HA
      go_enter Try.func8, Try.ntmps8
      go_wp2_with (first | (go_at_call 24; refine HN0.mono ?_; rintro e1 w1 ⟨rfl, hs1⟩) | (go_at_call_of 25 (Value.int .i64 wt); refine (HW.out _).mono ?_; rintro e2 w2 ⟨rfl, hs2⟩) | (go_at_call_of 25 (Value.int .i64 cp); refine (HP.out _).mono ?_; rintro e3 w3 ⟨rfl, hs3⟩) | (go_at_call 26; refine (HA.out _ ((hs1.same hs2).same hs3)).mono ?_; rintro e4 w4 ⟨rfl, hs4⟩))
      go_ret
      have hs := ((hs1.same hs2).same hs3).same hs4
      exact ⟨rfl, A, c, h.still hs, pstep_still hs, Near.refl _ _⟩
    | false =>
      have hi := atv_none hf
      simp only [Bool.false_eq_true, if_false]
      rw [hi] at HA
      by_cases hfull : 1024 ≤ l.length
      · rw [if_pos hfull]
        have hq : ((l.length : Int) ≥ 1024) = True := eq_true (by omega)
        go_enter Try.func8, Try.ntmps8
        go_wp2_with (first | (go_at_call 24; refine HN0.mono ?_; rintro e1 w1 ⟨rfl, hs1⟩) | (go_at_call_of 25 (Value.int .i64 wt); refine (HW.out _).mono ?_; rintro e2 w2 ⟨rfl, hs2⟩) | (go_at_call_of 25 (Value.int .i64 cp); refine (HP.out _).mono ?_; rintro e3 w3 ⟨rfl, hs3⟩) | (go_at_call 26; refine (HA.out _ ((hs1.same hs2).same hs3)).mono ?_; rintro e4 w4 ⟨rfl, hs4⟩; have c0 := (h.still (((hs1.same hs2).same hs3).same hs4)).blk.cell (i := 0) rfl))
        go_ret
        have hs := ((hs1.same hs2).same hs3).same hs4
        exact ⟨rfl, A, c, h.still hs, pstep_still hs, Near.refl _ _⟩
      · rw [if_neg hfull]
        have hq : ((l.length : Int) ≥ 1024) = False := eq_false (by omega)
        obtain ⟨i0, hi0, hp⟩ : ∃ i, Try.prog.info? 38 = some i ∧ (i.zero, i.size, i.bytes) = (some (.agg #[.string ⟨#[]⟩, .int .i64 0, .int .i64 0, .int .i64 0, .int .i64 0]), 5, 48) := by
          exact Option.map_eq_some_iff.1 (by kernel_rfl : (Try.prog.info? 38).map (fun i => (i.zero, i.size, i.bytes)) = some (some (.agg #[.string ⟨#[]⟩, .int .i64 0, .int .i64 0, .int .i64 0, .int .i64 0]), 5, 48))
        simp only [Prod.mk.injEq] at hp
        obtain ⟨hz0, hs0, hy0⟩ := hp
        go_enter Try.func8, Try.ntmps8
        go_upto_region 5 with (first | (go_at_call 24; refine HN0.mono ?_; rintro e1 w1 ⟨rfl, hs1⟩) | (go_at_call_of 25 (Value.int .i64 wt); refine (HW.out _).mono ?_; rintro e2 w2 ⟨rfl, hs2⟩) | (go_at_call_of 25 (Value.int .i64 cp); refine (HP.out _).mono ?_; rintro e3 w3 ⟨rfl, hs3⟩) | (go_at_call 26; refine (HA.out _ ((hs1.same hs2).same hs3)).mono ?_; rintro e4 w4 ⟨rfl, hs4⟩))
        have hs := ((hs1.same hs2).same hs3).same hs4
        have h4 := h.still hs
        have c0 := h4.blk.cell (i := 0) rfl
        clear HN0 HW HP HA hs1 hs2 hs3 hs4
        go_upto_region 7 with (fail)
        have hst5 : Step (fun _ => False) w4 (w4.alloc (.cells #[.string s, .int .i64 wt, .int .i64 cp, .int .i64 0, .int .i64 0] 38)) := (Step.refl _ _).alloc _
        have h5 := h4.still hst5
        have hb5 : Blk (w4.alloc (.cells #[.string s, .int .i64 wt, .int .i64 cp, .int .i64 0, .int .i64 0] 38)) w4.heap.size 38 (bc ⟨s, wt, cp, 0, 0⟩) := blk_new _ _ _
        have hpl := h4.lt
        go_wp2_with (at_builtin; refine wpList_append_flat _ rfl (.tmp 39) (.tmp 44) 35 rfl 38 i0 _ 5 48 Try.underlying35 hi0 hz0 rfl hs0 hy0 (by omega) rfl h5.seg rfl (m := 1) (r := bc ⟨s, wt, cp, 0, 0⟩) rfl (fun _ => by omega) (fun v hv => bcells_one [⟨s, wt, cp, 0, 0⟩] v (by simpa [bcells] using hv)) (fun j v hj => by rw [addr_add', Nat.zero_add]; exact hb5.cell hj) (by omega) ?_; intro A2 c2 w6 hE2 hs6 hat2; have hB6 := h5.blk.keep hs6 (fun hk => h5.ne _ hk rfl); have g0 := hB6.cell (i := 0) rfl; have g1 := hB6.free 0)
        have hst : Step (· = p) w6 (w6.setCell ⟨p, 0, none⟩ (.slice A2 (l.length + 1) c2)) := step_put w6 p 0 _
        have hne : ∀ k, blockOf A2 = some k → (blockOf A = some k ∨ w.heap.size ≤ k) ∧ k ≠ p := by
          intro k hk
          rcases hat2 with e | ⟨j, hj, hjl⟩
          · rw [hk] at e; exact ⟨.inl e.symm, h.ne k e.symm⟩
          · obtain rfl : j = k := Option.some.inj (hj.symm.trans hk)
            have := hst5.size
            have := hs.size
            exact ⟨.inr (by omega), by omega⟩
        go_ret
        refine ⟨rfl, A2, c2, ⟨?_, ?_, fun k hk => (hne k hk).2⟩, ?_, fun k hk => (hne k hk).1⟩
        · have := hB6.set 0 (.slice A2 (l.length + 1) c2)
          rw [List.length_append]; exact this
        · rw [List.length_append]
          have : BSeg w6 A2 (l.length + 1) c2 (l ++ [⟨s, wt, cp, 0, 0⟩]) := by
            unfold BSeg
            rw [bcells_append, show bcells [⟨s, wt, cp, 0, 0⟩] = bc ⟨s, wt, cp, 0, 0⟩ by simp [bcells]]
            exact hE2
          exact this.keep hst (fun k hk e => (hne k hk).2 e)
        · exact ((pstep_still (hs.same hst5)).same (hs6.mono (fun _ _ h => .inr h))).same (hst.mono (fun _ _ h => .inl h))
  · rw [if_neg hb]
    cases bn with
    | false =>
      clear hb
      go_enter Try.func8, Try.ntmps8
      go_wp2_with (first | (go_at_call 24; refine HN0.mono ?_; rintro e1 w1 ⟨rfl, hs1⟩))
      go_ret
      exact ⟨rfl, A, c, h.still hs1, pstep_still hs1, Near.refl _ _⟩
    | true =>
      cases bw with
      | false =>
        clear hb
        go_enter Try.func8, Try.ntmps8
        go_wp2_with (first | (go_at_call 24; refine HN0.mono ?_; rintro e1 w1 ⟨rfl, hs1⟩) | (go_at_call_of 25 (Value.int .i64 wt); refine (HW.out _).mono ?_; rintro e2 w2 ⟨rfl, hs2⟩))
        go_ret
        exact ⟨rfl, A, c, h.still (hs1.same hs2), pstep_still (hs1.same hs2), Near.refl _ _⟩
      | true =>
        cases bc' with
        | true => exact absurd rfl hb
        | false =>
          clear hb
          go_enter Try.func8, Try.ntmps8
          go_wp2_with (first | (go_at_call 24; refine HN0.mono ?_; rintro e1 w1 ⟨rfl, hs1⟩) | (go_at_call_of 25 (Value.int .i64 wt); refine (HW.out _).mono ?_; rintro e2 w2 ⟨rfl, hs2⟩) | (go_at_call_of 25 (Value.int .i64 cp); refine (HP.out _).mono ?_; rintro e3 w3 ⟨rfl, hs3⟩))
          go_ret
          exact ⟨rfl, A, c, h.still ((hs1.same hs2).same hs3), pstep_still ((hs1.same hs2).same hs3), Near.refl _ _⟩
end Go.Proofs.Yteebahjpoafhmaa.Pool
