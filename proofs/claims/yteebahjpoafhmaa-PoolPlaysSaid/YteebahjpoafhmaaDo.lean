/- a call of both the pool and the document's answer. Own work of this seat. -/
import Derived.Test.YteebahjpoafhmaaRef4
namespace Go.Proofs.Yteebahjpoafhmaa.Pool
open Go.RowKit Go.Proofs.Yteebahjpoafhmaa.Kit Go.Proofs.Yteebahjpoafhmaa.PPoolPlays Go.Proofs.YteebahjpoafhmaaW.PrintWords Go.Proofs.YteebahjpoafhmaaW.PrintLast Go.Proofs.YteebahjpoafhmaaW.PrintMore
set_option linter.unusedVariables false
set_option linter.unusedSimpArgs false

/-- The document's row lies apart from the pool. -/
def Sep (p : Nat) (A R : Option Addr) : Prop := ∀ k, blockOf R = some k → k ≠ p ∧ blockOf A ≠ some k
theorem both {w w2 w3 w4 : World} {p : Nat} {A A' R R' : Option Addr} {c c' cR cR' : Nat} {l l' : List S38} (h : PAt w p A c l) (hr : RRow w R l.length cR l) (hsep : Sep p A R) (hs : Step (fun _ => False) w w2) (hout : Out w2 w3 R cR R' cR' l') (hP : PAt w4 p A' c' l') (hs4 : PStep p A w3 w4) (hn : Near w3 A A') :
    RRow w4 R' l'.length cR' l' ∧ Sep p A' R' ∧ PStep p A w w4 ∧ Near w A A' ∧ Near w R R' := by
  obtain ⟨ho1, ho2, ho3⟩ := hout
  have hpl := h.lt
  have hsz := hs.size
  have hsz3 := ho3.size
  have hR : ∀ k, blockOf R' = some k → (k ≠ p ∧ blockOf A ≠ some k) ∧ (blockOf R = some k ∨ w.heap.size ≤ k) := fun k hk => by
    rcases ho2 with e | e
    · rw [e] at hk
      exact ⟨hsep k hk, .inl hk⟩
    · have := e k hk
      exact ⟨⟨by omega, fun e' => by have := h.ltA e'; omega⟩, .inr (by omega)⟩
  refine ⟨ho1.keep hs4 (fun k hk hf => ?_), fun k hk => ⟨(hR k hk).1.1, fun e => ?_⟩, (pstep_still (hs.same ho3)).same hs4, fun k hk => ?_, fun k hk => (hR k hk).2⟩
  · rcases hf with e | e
    · exact (hR k hk).1.1 e
    · exact (hR k hk).1.2 e
  · rcases hn k e with e' | e'
    · exact (hR k hk).1.2 e'
    · have := ho1.lt hk
      omega
  · rcases hn k hk with e | e
    · exact .inl e
    · exact .inr (by omega)

/-- What a call of both leaves. -/
def Both (w w' : World) (p : Nat) (A R : Option Addr) (l : List S38) (A' R' : Option Addr) (c' cR' : Nat) (l' : List S38) : Prop :=
  PAt w' p A' c' l' ∧ Good l' ∧ (TN l → TN l') ∧ RRow w' R' l'.length cR' l' ∧ Sep p A' R' ∧ PStep p A w w' ∧ Near w A A' ∧ Near w R R'

set_option maxRecDepth 100000 in
set_option maxHeartbeats 8000000 in
theorem do_calls {w : World} {p : Nat} {A R : Option Addr} {c cR : Nat} {l : List S38} (h : PAt w p A c l) (hg : Good l) (hr : RRow w R l.length cR l) (hsep : Sep p A R) (k wt cp : Int) (nm : ByteArray) :
    Calls Try.prog 21 #[.pointer (some ⟨p, 0, none⟩), .slice R l.length cR, .agg #[.int .i64 k, .int .i64 wt, .int .i64 cp, .string nm]] w fun e w' => ∃ A' c' l' R' cR', e = .returned (.tuple #[.slice R' l'.length cR', .bool true]) ∧ Both w w' p A R l A' R' c' cR' l' := by
  obtain ⟨s, hs40, HS0⟩ := cut_short nm
  have HS := Lib.hid HS0
  clear HS0
  obtain ⟨n, hln0⟩ : ∃ n, l.length = n := ⟨_, rfl⟩
  have hln := Lib.hid hln0
  simp only [hln0]
  clear hln0
  by_cases k0 : k = 0
  · as_aux_lemma =>
      subst k0
      go_enter Try.func21, Try.ntmps21
      go_upto_region 1 with (fail)
      refine alloc_next (cs := [.int .i64 0, .int .i64 wt, .int .i64 cp, .string nm]) ?_
      intro w1 hE hs1
      generalize w.heap.size = eb at *
      have e3 := hE.cell (i := 3) rfl
      go_upto_region 2 with (go_at_call 9; refine (HS.out _).mono ?_; rintro e2 w2 ⟨rfl, hs2⟩)
      have hE2 := hE.keep hs2 (fun h => h)
      have hs := hs1.same hs2
      have e0 := hE2.cell (i := 0) rfl
      have e1 := hE2.cell (i := 1) rfl
      have e2 := hE2.cell (i := 2) rfl
      have hr2 : RRow w2 R l.length cR l := hr.keep hs (fun _ _ h => h)
      clear e3 hE hs1 hs2 HS
      have HR := radd_calls hr2 hg s (by omega) wt cp
      have HP := fun w3 (hs3 : Step (fun _ => False) w2 w3) => add_calls (h.still (hs.same hs3)) hg.toGood0 s wt cp
      have hgA := add_good hg s wt cp
      have htA := fun (h : TN l) => tn_add (s := s) h wt cp
      have hfin := fun w3 w4 A4 c4 (R3 : Option Addr) (cR3 : Nat) (ho : Out w2 w3 R cR R3 cR3 (addR l s wt cp).1) (hP : PAt w4 p A4 c4 (addR l s wt cp).1) (h4 : PStep p A w3 w4) (hn : Near w3 A A4) => both h hr hsep hs ho hP h4 hn
      generalize (addR l s wt cp) = r at *
      obtain ⟨l', er⟩ := r
      simp only at HR HP hgA htA hfin
      rw [hln.out] at HR
      have hfin := Lib.hid hfin
      have HP := Lib.hid HP
      have htA := Lib.hid htA
      go_upto_region 5 with (go_at_call 32; refine HR.mono ?_; rintro e3 w3 ⟨R3, cR3, rfl, ho3⟩)
      have g1 := (hE2.keep ho3.2.2 (fun h => h)).cell (i := 1) rfl
      have g2 := (hE2.keep ho3.2.2 (fun h => h)).cell (i := 2) rfl
      clear e0 e1 e2 HR
      go_wp2_with (go_at_call 8; refine (HP.out w3 ho3.2.2).mono ?_; rintro e4 w4 ⟨rfl, A4, c4, hP4, hs4, hn4⟩)
      go_ret2
      have hb := hfin.out w3 w4 A4 c4 R3 cR3 ho3 hP4 hs4 hn4
      exact ⟨A4, c4, l', R3, cR3, rfl, hP4, hgA, htA.out, hb⟩
  · have q0 : (k == 0) = false := by simp [k0]
    by_cases k1 : k = 1
    · as_aux_lemma =>
        subst k1
        go_enter Try.func21, Try.ntmps21
        go_upto_region 1 with (fail)
        refine alloc_next (cs := [.int .i64 1, .int .i64 wt, .int .i64 cp, .string nm]) ?_
        intro w1 hE hs1
        generalize w.heap.size = eb at *
        have e3 := hE.cell (i := 3) rfl
        go_upto_region 2 with (go_at_call 9; refine (HS.out _).mono ?_; rintro e2 w2 ⟨rfl, hs2⟩)
        have hE2 := hE.keep hs2 (fun h => h)
        have hs := hs1.same hs2
        have e0 := hE2.cell (i := 0) rfl
        have e1 := hE2.cell (i := 1) rfl
        have e2 := hE2.cell (i := 2) rfl
        have hr2 : RRow w2 R l.length cR l := hr.keep hs (fun _ _ h => h)
        clear e3 hE hs1 hs2 HS
        have HR := rchange0w_calls hr2 hg s wt
        have HP := fun w3 (hs3 : Step (fun _ => False) w2 w3) => reweight_calls (h.still (hs.same hs3)) hg.toGood0 s wt
        have hgA := rew_good hg s wt
        have htA := fun (h : TN l) => tn_rew (s := s) h wt
        have hfin := fun w3 w4 A4 c4 (R3 : Option Addr) (cR3 : Nat) (ho : Out w2 w3 R cR R3 cR3 (rewR l s wt).1) (hP : PAt w4 p A4 c4 (rewR l s wt).1) (h4 : PStep p A w3 w4) (hn : Near w3 A A4) => both h hr hsep hs ho hP h4 hn
        generalize (rewR l s wt) = r at *
        obtain ⟨l', er⟩ := r
        simp only at HR HP hgA htA hfin
        rw [hln.out] at HR
        have hfin := Lib.hid hfin
        have HP := Lib.hid HP
        have htA := Lib.hid htA
        go_upto_region 8 with (go_at_call 33; refine HR.mono ?_; rintro e3 w3 ⟨R3, cR3, rfl, ho3⟩)
        have g1 := (hE2.keep ho3.2.2 (fun h => h)).cell (i := 1) rfl
        have g2 := (hE2.keep ho3.2.2 (fun h => h)).cell (i := 2) rfl
        clear e0 e1 e2 HR
        go_wp2_with (go_at_call 20; refine (HP.out w3 ho3.2.2).mono ?_; rintro e4 w4 ⟨rfl, hP4, hs4⟩)
        go_ret2
        have hb := hfin.out w3 w4 A c R3 cR3 ho3 hP4 hs4 (Near.refl _ _)
        exact ⟨A, c, l', R3, cR3, rfl, hP4, hgA, htA.out, hb⟩
    · have q1 : (k == 1) = false := by simp [k1]
      by_cases k2 : k = 2
      · as_aux_lemma =>
          subst k2
          go_enter Try.func21, Try.ntmps21
          go_upto_region 1 with (fail)
          refine alloc_next (cs := [.int .i64 2, .int .i64 wt, .int .i64 cp, .string nm]) ?_
          intro w1 hE hs1
          generalize w.heap.size = eb at *
          have e3 := hE.cell (i := 3) rfl
          go_upto_region 2 with (go_at_call 9; refine (HS.out _).mono ?_; rintro e2 w2 ⟨rfl, hs2⟩)
          have hE2 := hE.keep hs2 (fun h => h)
          have hs := hs1.same hs2
          have e0 := hE2.cell (i := 0) rfl
          have e1 := hE2.cell (i := 1) rfl
          have e2 := hE2.cell (i := 2) rfl
          have hr2 : RRow w2 R l.length cR l := hr.keep hs (fun _ _ h => h)
          clear e3 hE hs1 hs2 HS
          have HR := rchange1_calls hr2 hg s 0
          have HP := fun w3 (hs3 : Step (fun _ => False) w2 w3) => drain_calls (h.still (hs.same hs3)) hg.toGood0 s
          have hgA := chg_good hg s 1 (by decide)
          have htA := fun (h : TN l) => tn_chg (s := s) h 1
          have hfin := fun w3 w4 A4 c4 (R3 : Option Addr) (cR3 : Nat) (ho : Out w2 w3 R cR R3 cR3 (chgR l s (toS 1)).1) (hP : PAt w4 p A4 c4 (chgR l s (toS 1)).1) (h4 : PStep p A w3 w4) (hn : Near w3 A A4) => both h hr hsep hs ho hP h4 hn
          generalize (chgR l s (toS 1)) = r at *
          obtain ⟨l', er⟩ := r
          simp only at HR HP hgA htA hfin
          rw [hln.out] at HR
          have hfin := Lib.hid hfin
          have HP := Lib.hid HP
          have htA := Lib.hid htA
          go_upto_region 11 with (go_at_call 33; refine HR.mono ?_; rintro e3 w3 ⟨R3, cR3, rfl, ho3⟩)
          have g1 := (hE2.keep ho3.2.2 (fun h => h)).cell (i := 1) rfl
          have g2 := (hE2.keep ho3.2.2 (fun h => h)).cell (i := 2) rfl
          clear e0 e1 e2 HR
          go_wp2_with (go_at_call 10; refine (HP.out w3 ho3.2.2).mono ?_; rintro e4 w4 ⟨rfl, hP4, hs4⟩)
          go_ret2
          have hb := hfin.out w3 w4 A c R3 cR3 ho3 hP4 hs4 (Near.refl _ _)
          exact ⟨A, c, l', R3, cR3, rfl, hP4, hgA, htA.out, hb⟩
      · have q2 : (k == 2) = false := by simp [k2]
        by_cases k3 : k = 3
        · as_aux_lemma =>
            subst k3
            go_enter Try.func21, Try.ntmps21
            go_upto_region 1 with (fail)
            refine alloc_next (cs := [.int .i64 3, .int .i64 wt, .int .i64 cp, .string nm]) ?_
            intro w1 hE hs1
            generalize w.heap.size = eb at *
            have e3 := hE.cell (i := 3) rfl
            go_upto_region 2 with (go_at_call 9; refine (HS.out _).mono ?_; rintro e2 w2 ⟨rfl, hs2⟩)
            have hE2 := hE.keep hs2 (fun h => h)
            have hs := hs1.same hs2
            have e0 := hE2.cell (i := 0) rfl
            have e1 := hE2.cell (i := 1) rfl
            have e2 := hE2.cell (i := 2) rfl
            have hr2 : RRow w2 R l.length cR l := hr.keep hs (fun _ _ h => h)
            clear e3 hE hs1 hs2 HS
            have HR := rchange2_calls hr2 hg s 0
            have HP := fun w3 (hs3 : Step (fun _ => False) w2 w3) => undrain_calls (h.still (hs.same hs3)) hg.toGood0 s
            have hgA := chg_good hg s 0 (by decide)
            have htA := fun (h : TN l) => tn_chg (s := s) h 0
            have hfin := fun w3 w4 A4 c4 (R3 : Option Addr) (cR3 : Nat) (ho : Out w2 w3 R cR R3 cR3 (chgR l s (toS 0)).1) (hP : PAt w4 p A4 c4 (chgR l s (toS 0)).1) (h4 : PStep p A w3 w4) (hn : Near w3 A A4) => both h hr hsep hs ho hP h4 hn
            generalize (chgR l s (toS 0)) = r at *
            obtain ⟨l', er⟩ := r
            simp only at HR HP hgA htA hfin
            rw [hln.out] at HR
            have hfin := Lib.hid hfin
            have HP := Lib.hid HP
            have htA := Lib.hid htA
            go_upto_region 14 with (go_at_call 33; refine HR.mono ?_; rintro e3 w3 ⟨R3, cR3, rfl, ho3⟩)
            have g1 := (hE2.keep ho3.2.2 (fun h => h)).cell (i := 1) rfl
            have g2 := (hE2.keep ho3.2.2 (fun h => h)).cell (i := 2) rfl
            clear e0 e1 e2 HR
            go_wp2_with (go_at_call 11; refine (HP.out w3 ho3.2.2).mono ?_; rintro e4 w4 ⟨rfl, hP4, hs4⟩)
            go_ret2
            have hb := hfin.out w3 w4 A c R3 cR3 ho3 hP4 hs4 (Near.refl _ _)
            exact ⟨A, c, l', R3, cR3, rfl, hP4, hgA, htA.out, hb⟩
        · have q3 : (k == 3) = false := by simp [k3]
          by_cases k4 : k = 4
          · as_aux_lemma =>
              subst k4
              go_enter Try.func21, Try.ntmps21
              go_upto_region 1 with (fail)
              refine alloc_next (cs := [.int .i64 4, .int .i64 wt, .int .i64 cp, .string nm]) ?_
              intro w1 hE hs1
              generalize w.heap.size = eb at *
              have e3 := hE.cell (i := 3) rfl
              go_upto_region 2 with (go_at_call 9; refine (HS.out _).mono ?_; rintro e2 w2 ⟨rfl, hs2⟩)
              have hE2 := hE.keep hs2 (fun h => h)
              have hs := hs1.same hs2
              have e0 := hE2.cell (i := 0) rfl
              have e1 := hE2.cell (i := 1) rfl
              have e2 := hE2.cell (i := 2) rfl
              have hr2 : RRow w2 R l.length cR l := hr.keep hs (fun _ _ h => h)
              clear e3 hE hs1 hs2 HS
              have HR := rchange3_calls hr2 hg s 0
              have HP := fun w3 (hs3 : Step (fun _ => False) w2 w3) => remove_calls (h.still (hs.same hs3)) hg.toGood0 s
              have hgA := rem_good hg s
              have htA := fun (h : TN l) => tn_rem (s := s) h
              have hfin := fun w3 w4 A4 c4 (R3 : Option Addr) (cR3 : Nat) (ho : Out w2 w3 R cR R3 cR3 (remR l s).1) (hP : PAt w4 p A4 c4 (remR l s).1) (h4 : PStep p A w3 w4) (hn : Near w3 A A4) => both h hr hsep hs ho hP h4 hn
              generalize (remR l s) = r at *
              obtain ⟨l', er⟩ := r
              simp only at HR HP hgA htA hfin
              rw [hln.out] at HR
              have hfin := Lib.hid hfin
              have HP := Lib.hid HP
              have htA := Lib.hid htA
              go_upto_region 17 with (go_at_call 33; refine HR.mono ?_; rintro e3 w3 ⟨R3, cR3, rfl, ho3⟩)
              have g1 := (hE2.keep ho3.2.2 (fun h => h)).cell (i := 1) rfl
              have g2 := (hE2.keep ho3.2.2 (fun h => h)).cell (i := 2) rfl
              clear e0 e1 e2 HR
              go_wp2_with (go_at_call 12; refine (HP.out w3 ho3.2.2).mono ?_; rintro e4 w4 ⟨rfl, hP4, hs4⟩)
              go_ret2
              have hb := hfin.out w3 w4 A c R3 cR3 ho3 hP4 hs4 (Near.refl _ _)
              exact ⟨A, c, l', R3, cR3, rfl, hP4, hgA, htA.out, hb⟩
          · have q4 : (k == 4) = false := by simp [k4]
            by_cases k5 : k = 5
            · as_aux_lemma =>
                subst k5
                go_enter Try.func21, Try.ntmps21
                go_upto_region 1 with (fail)
                refine alloc_next (cs := [.int .i64 5, .int .i64 wt, .int .i64 cp, .string nm]) ?_
                intro w1 hE hs1
                generalize w.heap.size = eb at *
                have e3 := hE.cell (i := 3) rfl
                go_upto_region 2 with (go_at_call 9; refine (HS.out _).mono ?_; rintro e2 w2 ⟨rfl, hs2⟩)
                have hE2 := hE.keep hs2 (fun h => h)
                have hs := hs1.same hs2
                have e0 := hE2.cell (i := 0) rfl
                have e1 := hE2.cell (i := 1) rfl
                have e2 := hE2.cell (i := 2) rfl
                have hr2 : RRow w2 R l.length cR l := hr.keep hs (fun _ _ h => h)
                clear e3 hE hs1 hs2 HS
                have HR := rtake_calls hr2 hg s
                have HP := fun w3 (hs3 : Step (fun _ => False) w2 w3) => take_calls (h.still (hs.same hs3)) hg.toGood0 s
                have hgA := take_good hg s
                have htA := fun (h : TN l) => tn_take (s := s) h
                have hfin := fun w3 w4 A4 c4 (R3 : Option Addr) (cR3 : Nat) (ho : Out w2 w3 R cR R3 cR3 (takeR l s).1) (hP : PAt w4 p A4 c4 (takeR l s).1) (h4 : PStep p A w3 w4) (hn : Near w3 A A4) => both h hr hsep hs ho hP h4 hn
                generalize (takeR l s) = r at *
                obtain ⟨l', er⟩ := r
                simp only at HR HP hgA htA hfin
                rw [hln.out] at HR
                have hfin := Lib.hid hfin
                have HP := Lib.hid HP
                have htA := Lib.hid htA
                go_upto_region 20 with (go_at_call 34; refine HR.mono ?_; rintro e3 w3 ⟨R3, cR3, rfl, ho3⟩)
                have g1 := (hE2.keep ho3.2.2 (fun h => h)).cell (i := 1) rfl
                have g2 := (hE2.keep ho3.2.2 (fun h => h)).cell (i := 2) rfl
                clear e0 e1 e2 HR
                go_wp2_with (go_at_call 13; refine (HP.out w3 ho3.2.2).mono ?_; rintro e4 w4 ⟨rfl, hP4, hs4⟩)
                go_ret2
                have hb := hfin.out w3 w4 A c R3 cR3 ho3 hP4 hs4 (Near.refl _ _)
                exact ⟨A, c, l', R3, cR3, rfl, hP4, hgA, htA.out, hb⟩
            · have q5 : (k == 5) = false := by simp [k5]
              as_aux_lemma =>
                go_enter Try.func21, Try.ntmps21
                go_upto_region 1 with (fail)
                refine alloc_next (cs := [.int .i64 k, .int .i64 wt, .int .i64 cp, .string nm]) ?_
                intro w1 hE hs1
                generalize w.heap.size = eb at *
                have e3 := hE.cell (i := 3) rfl
                go_upto_region 2 with (go_at_call 9; refine (HS.out _).mono ?_; rintro e2 w2 ⟨rfl, hs2⟩)
                have hE2 := hE.keep hs2 (fun h => h)
                have hs := hs1.same hs2
                have e0 := hE2.cell (i := 0) rfl
                have e1 := hE2.cell (i := 1) rfl
                have e2 := hE2.cell (i := 2) rfl
                have hr2 : RRow w2 R l.length cR l := hr.keep hs (fun _ _ h => h)
                clear e3 hE hs1 hs2 HS
                have HR := rgive_calls hr2 hg s
                have HP := fun w3 (hs3 : Step (fun _ => False) w2 w3) => give_calls (h.still (hs.same hs3)) hg.toGood0 s
                have hgA := give_good hg s
                have htA := fun (h : TN l) => tn_give (s := s) h
                have hfin := fun w3 w4 A4 c4 (R3 : Option Addr) (cR3 : Nat) (ho : Out w2 w3 R cR R3 cR3 (giveR l s).1) (hP : PAt w4 p A4 c4 (giveR l s).1) (h4 : PStep p A w3 w4) (hn : Near w3 A A4) => both h hr hsep hs ho hP h4 hn
                generalize (giveR l s) = r at *
                obtain ⟨l', dr, er⟩ := r
                simp only at HR HP hgA htA hfin
                rw [hln.out] at HR
                have hfin := Lib.hid hfin
                have HP := Lib.hid HP
                have htA := Lib.hid htA
                go_upto_region 22 with (go_at_call 35; refine HR.mono ?_; rintro e3 w3 ⟨R3, cR3, rfl, ho3⟩)
                have g1 := (hE2.keep ho3.2.2 (fun h => h)).cell (i := 1) rfl
                have g2 := (hE2.keep ho3.2.2 (fun h => h)).cell (i := 2) rfl
                clear e0 e1 e2 HR
                go_wp2_with (go_at_call 15; refine (HP.out w3 ho3.2.2).mono ?_; rintro e4 w4 ⟨rfl, hP4, hs4⟩)
                go_ret2
                have hb := hfin.out w3 w4 A c R3 cR3 ho3 hP4 hs4 (Near.refl _ _)
                exact ⟨A, c, l', R3, cR3, rfl, hP4, hgA, htA.out, hb⟩
end Go.Proofs.Yteebahjpoafhmaa.Pool
