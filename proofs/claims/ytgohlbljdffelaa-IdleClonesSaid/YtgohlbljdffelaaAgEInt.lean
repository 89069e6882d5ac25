/- agenda: down of the library's heap, over the pile. Own work of this seat. -/
import Derived.Test.YtgohlbljdffelaaAgDInt
namespace Go.Proofs.Ytgohlbljdffelaa.AgInt
open Go.RowKit Go.Proofs.Ytgohlbljdffelaa.Kit Go.Proofs.Ytgohlbljdffelaa.Cmp Go.Proofs.Ytgohlbljdffelaa.HeapP
set_option linter.unusedVariables false
set_option linter.unusedSimpArgs false

theorem kids2 {g : Nat → It} {i n j : Nat} (h1 : j = 2 * i + 1 ∨ j = 2 * i + 2) (ha : 2 * i + 1 < n → le (g j) (g (2 * i + 1))) (hb : 2 * i + 2 < n → le (g j) (g (2 * i + 2))) : KidsOk le (fun k => if k = i then g j else g k) i n := by
  intro k k0 k1 k2
  unfold par at k2
  have hki : k ≠ i := by omega
  simp only [if_neg hki, if_pos]
  rcases (by omega : k = 2 * i + 1 ∨ k = 2 * i + 2) with rfl | rfl
  · exact ha k1
  · exact hb k1
theorem kids_stay {g : Nat → It} {i n j : Nat} (hn : le (g i) (g j)) (h : KidsOk le (fun k => if k = i then g j else g k) i n) : KidsOk le g i n := by
  intro k k0 k1 k2
  have hki : k ≠ i := by have := par_lt k0; omega
  have := h k k0 k1 k2
  simp only [if_neg hki, if_pos] at this
  exact le_tr _ _ _ hn this

set_option maxRecDepth 100000 in
set_option maxHeartbeats 4000000 in
theorem down_calls {w : World} {a : Nat} {M : Value} {turn : Int} {A : Option Addr} {c : Nat} {xs : List It} (h : HM w a M turn A c xs) {i0 n : Nat} (hi0 : i0 ≤ xs.length) (hn : n ≤ xs.length) (hmax : xs.length ≤ 1000000) (hb : Bad1 le (lg xs) i0 n) :
    Calls Try.prog 58 #[.iface 78 (.pointer (some ⟨a, 0, none⟩)), .int .i64 (i0 : Int), .int .i64 (n : Int)] w fun e w' => ∃ (b : Bool) (xs' : List It), e = .returned (.bool b) ∧ HM w' a M turn A c xs' ∧ xs'.Perm xs ∧ (∀ k, n ≤ k → lg xs' k = lg xs k) ∧ (b = true → HeapG le (lg xs') n) ∧ (b = false → xs' = xs ∧ KidsOk le (lg xs) i0 n) ∧ Step (foot A xs) w w' := by
  go_enter Try.func58, Try.ntmps58
  go_wp2
  go_loopw [7, 8, 9, 10] (fun v v8 v9 v10 wr => ∃ (i : Nat) (ys : List It), v = .int .i64 (i : Int) ∧ i0 ≤ i ∧ i ≤ xs.length ∧ HM wr a M turn A c ys ∧ ys.Perm xs ∧ Bad1 le (lg ys) i n ∧ (i0 < i → le (lg ys (par i)) (lg ys i)) ∧ (i = i0 → ys = xs) ∧ (∀ k, n ≤ k → lg ys k = lg xs k) ∧ Step (foot A xs) w wr) (fun v _ _ _ _ => xs.length + 1 - (intOf v).toNat)
  case atStart => exact ⟨i0, xs, rfl, Nat.le_refl _, hi0, h, List.Perm.refl _, hb, fun h => absurd h (by omega), fun _ => rfl, fun _ _ => rfl, Step.refl _ _⟩
  case round =>
    obtain ⟨i, ys, rfl, hii, hil, hys, hpm, hbk, hpar, hsame, hrest, hst⟩ := hrel
    have hl := hpm.length_eq
    rw [← hl] at hil hmax hn hi0
    have HL := Lib.hid hl
    obtain ⟨j1, hj1⟩ : ∃ j : Nat, j = 2 * i + 1 := ⟨_, rfl⟩
    obtain ⟨j2, hj2⟩ : ∃ j : Nat, j = 2 * i + 2 := ⟨_, rfl⟩
    have e1 : 2 * (i : Int) + 1 = (j1 : Int) := by omega
    have e2 : (j1 : Int) + 1 = (j2 : Int) := by omega
    have HR := Lib.hid hrest
    have HS := Lib.hid hsame
    have HB := Lib.hid hbk
    have HPA := Lib.hid hpar
    have H0 := Lib.hid hb
    have hi0i : (i0 : Int) ≤ (i : Int) := by omega
    -- the ways out
    have HOUT : ∀ wf, Step (foot A xs) w wf → HM wf a M turn A c ys → KidsOk le (lg ys) i n → ∃ (b : Bool) (xs' : List It), Ending.returned (.bool (decide (i0 < i))) = .returned (.bool b) ∧ HM wf a M turn A c xs' ∧ xs'.Perm xs ∧ (∀ k, n ≤ k → lg xs' k = lg xs k) ∧ (b = true → HeapG le (lg xs') n) ∧ (b = false → xs' = xs ∧ KidsOk le (lg xs) i0 n) ∧ Step (foot A xs) w wf := by
      intro wf hsf hyf hkf
      refine ⟨_, ys, rfl, hyf, hpm, hrest, fun hb => ?_, fun hb => ?_, hsf⟩
      · have hlt : i0 < i := of_decide_eq_true hb
        exact stop hbk hkf (fun _ => hpar hlt)
      · have hlt : ¬ i0 < i := of_decide_eq_false hb
        have hei : i = i0 := by omega
        have hey := hsame hei
        rw [hei, hey] at hkf
        exact ⟨hey, hkf⟩
    have HO := Lib.hid HOUT
    clear hl hrest hsame hbk hpar hb HOUT
    by_cases hA : n ≤ j1
    · have q1 : (n : Int) ≤ (j1 : Int) := by omega
      have hkv : KidsOk le (lg ys) i n := fun k k0 k1 k2 => by unfold par at k2; omega
      have HK := Lib.hid hkv
      clear hkv hj1 hj2
      go_wp2
      go_ret
      exact HO.out _ hst hys HK.out
    · have q1 : ¬ (n : Int) ≤ (j1 : Int) := by omega
      have q2 : ((j1 : Int) < 0) = False := eq_false (by omega)
      have c0 := hys.cell0
      have hm1 := meth_less c0
      have n1 := fun w => nil_less a w
      have n2 := fun w => nil_swap a w
      have HLE0 := fun w1 (hs1 : Step (fun _ => False) wr w1) (p q : Nat) (hp : p < ys.length) (hq : q < ys.length) => less_calls (hys.same hs1) hp hq
      have HLE := Lib.hid HLE0
      have HC0 := Lib.hid (fun w1 (hs1 : Step (fun _ => False) wr w1) => (hys.same hs1).cell0)
      have HSW0 := fun w1 (hs1 : Step (fun _ => False) wr w1) (p q : Nat) (hp : p < ys.length) (hq : q < ys.length) => swap_calls (hys.same hs1) hp hq
      have HSW := Lib.hid HSW0
      have HDN0 : ∀ j, (j = j1 ∨ j = j2) → j < n → lt (lg ys j) (lg ys i) = true → KidsOk le (fun k => if k = i then lg ys j else lg ys k) i n → Bad1 le (lg (sw ys i j)) j n ∧ (i0 < j → le (lg (sw ys i j) (par j)) (lg (sw ys i j) j)) := by
        intro j hj hjn hlt hkk
        have := dn_step (by omega) hjn (by unfold par; omega) HB.out (le_of_lt hlt) hkk
        rw [← lg_sw (by omega) (by omega)] at this
        exact ⟨this.1, fun h => this.2 (by omega)⟩
      have HDN := Lib.hid HDN0
      have HRR0 : ∀ j, j < n → ∀ k, n ≤ k → lg (sw ys i j) k = lg xs k := fun j hj k hk => by
        rw [lg_sw (by omega) (by omega), swp_o _ (by omega) (by omega)]
        exact HR.out k hk
      have HRR := Lib.hid HRR0
      have sr := Step.refl (fun _ => False) wr
      clear HLE0 HSW0 HDN0 HRR0
      by_cases hB : j2 < n
      · have q3 : ((j2 : Int) < (n : Int)) = True := eq_true (by omega)
        cases hlt2 : lt (lg ys j2) (lg ys j1) with
        | true =>
          have hkk : KidsOk le (fun k => if k = i then lg ys j2 else lg ys k) i n := kids2 (.inr hj2) (fun _ => by rw [← hj1]; exact le_of_lt hlt2) (fun _ => by rw [← hj2]; exact le_rf _)
          have HKK := Lib.hid hkk
          clear hkk
          cases hlt : lt (lg ys j2) (lg ys i) with
          | true =>
            have HD := Lib.hid (HDN.out j2 (by omega) (by omega) hlt HKK.out)
            have HJ1 := Lib.hid hj1
            have HJ2 := Lib.hid hj2
            have j1b : 2 * i + 1 ≤ j1 ∧ j1 ≤ 2 * i + 1 := by omega
            have j2b : 2 * i + 2 ≤ j2 ∧ j2 ≤ 2 * i + 2 := by omega
            clear hj1 hj2
            go_wp2_with (first | (go_at_call 129; refine (HLE.out _ (by assumption) _ _ (by omega) (by omega)).mono ?_; rintro e w1 ⟨rfl, hs1⟩; have hs1' : Step (fun _ => False) wr w1 := Step.same (by assumption) hs1; clear hs1; have d0 := HC0.out w1 hs1'; have hm1 := meth_less d0; have hm2 := meth_swap d0) | (go_at_call 130; refine (HSW.out _ (by assumption) _ _ (by omega) (by omega)).mono ?_; rintro e w2 ⟨rfl, hys2, hs2⟩))
            have hs3 := hst.same ((‹Step (fun _ => False) wr w1›.mono (fun _ _ h => h.elim)).same (hs2.mono (fun k _ h => (foot_perm hpm k).1 h)))
            go_roundw
            case rel => exact ⟨j2, sw ys i j2, rfl, by omega, by rw [← HL.out]; omega, hys2, (sw_perm (by omega) (by omega)).trans hpm, HD.out.1, HD.out.2, fun e => absurd e (by omega), HRR.out j2 (by omega), hs3⟩
            case measure => have := HL.out; simp [intOf]; omega
          | false =>
            have HK := Lib.hid (kids_stay hlt HKK.out)
            have HJ1 := Lib.hid hj1
            have HJ2 := Lib.hid hj2
            have j1b : 2 * i + 1 ≤ j1 ∧ j1 ≤ 2 * i + 1 := by omega
            have j2b : 2 * i + 2 ≤ j2 ∧ j2 ≤ 2 * i + 2 := by omega
            clear hj1 hj2
            go_wp2_with (first | (go_at_call 129; refine (HLE.out _ (by assumption) _ _ (by omega) (by omega)).mono ?_; rintro e w1 ⟨rfl, hs1⟩; have hs1' : Step (fun _ => False) wr w1 := Step.same (by assumption) hs1; clear hs1; have d0 := HC0.out w1 hs1'; have hm1 := meth_less d0; have hm2 := meth_swap d0) | (go_at_call 130; refine (HSW.out _ (by assumption) _ _ (by omega) (by omega)).mono ?_; rintro e w2 ⟨rfl, hys2, hs2⟩))
            go_ret
            exact HO.out _ (hst.same (‹Step (fun _ => False) wr w1›.mono (fun _ _ h => h.elim))) (hys.same ‹_›) HK.out
        | false =>
          have hkk : KidsOk le (fun k => if k = i then lg ys j1 else lg ys k) i n := kids2 (.inl hj1) (fun _ => by rw [← hj1]; exact le_rf _) (fun _ => by rw [← hj2]; exact hlt2)
          have HKK := Lib.hid hkk
          clear hkk
          cases hlt : lt (lg ys j1) (lg ys i) with
          | true =>
            have HD := Lib.hid (HDN.out j1 (by omega) (by omega) hlt HKK.out)
            have HJ1 := Lib.hid hj1
            have HJ2 := Lib.hid hj2
            have j1b : 2 * i + 1 ≤ j1 ∧ j1 ≤ 2 * i + 1 := by omega
            have j2b : 2 * i + 2 ≤ j2 ∧ j2 ≤ 2 * i + 2 := by omega
            clear hj1 hj2
            go_wp2_with (first | (go_at_call 129; refine (HLE.out _ (by assumption) _ _ (by omega) (by omega)).mono ?_; rintro e w1 ⟨rfl, hs1⟩; have hs1' : Step (fun _ => False) wr w1 := Step.same (by assumption) hs1; clear hs1; have d0 := HC0.out w1 hs1'; have hm1 := meth_less d0; have hm2 := meth_swap d0) | (go_at_call 130; refine (HSW.out _ (by assumption) _ _ (by omega) (by omega)).mono ?_; rintro e w2 ⟨rfl, hys2, hs2⟩))
            have hs3 := hst.same ((‹Step (fun _ => False) wr w1›.mono (fun _ _ h => h.elim)).same (hs2.mono (fun k _ h => (foot_perm hpm k).1 h)))
            go_roundw
            case rel => exact ⟨j1, sw ys i j1, rfl, by omega, by rw [← HL.out]; omega, hys2, (sw_perm (by omega) (by omega)).trans hpm, HD.out.1, HD.out.2, fun e => absurd e (by omega), HRR.out j1 (by omega), hs3⟩
            case measure => have := HL.out; simp [intOf]; omega
          | false =>
            have HK := Lib.hid (kids_stay hlt HKK.out)
            have HJ1 := Lib.hid hj1
            have HJ2 := Lib.hid hj2
            have j1b : 2 * i + 1 ≤ j1 ∧ j1 ≤ 2 * i + 1 := by omega
            have j2b : 2 * i + 2 ≤ j2 ∧ j2 ≤ 2 * i + 2 := by omega
            clear hj1 hj2
            go_wp2_with (first | (go_at_call 129; refine (HLE.out _ (by assumption) _ _ (by omega) (by omega)).mono ?_; rintro e w1 ⟨rfl, hs1⟩; have hs1' : Step (fun _ => False) wr w1 := Step.same (by assumption) hs1; clear hs1; have d0 := HC0.out w1 hs1'; have hm1 := meth_less d0; have hm2 := meth_swap d0) | (go_at_call 130; refine (HSW.out _ (by assumption) _ _ (by omega) (by omega)).mono ?_; rintro e w2 ⟨rfl, hys2, hs2⟩))
            go_ret
            exact HO.out _ (hst.same (‹Step (fun _ => False) wr w1›.mono (fun _ _ h => h.elim))) (hys.same ‹_›) HK.out
      · have q3 : ((j2 : Int) < (n : Int)) = False := eq_false (by omega)
        have hkk : KidsOk le (fun k => if k = i then lg ys j1 else lg ys k) i n := kids2 (.inl hj1) (fun _ => by rw [← hj1]; exact le_rf _) (fun h => absurd h (by omega))
        have HKK := Lib.hid hkk
        clear hkk
        cases hlt : lt (lg ys j1) (lg ys i) with
        | true =>
          have HD := Lib.hid (HDN.out j1 (by omega) (by omega) hlt HKK.out)
          have HJ1 := Lib.hid hj1
          have HJ2 := Lib.hid hj2
          have j1b : 2 * i + 1 ≤ j1 ∧ j1 ≤ 2 * i + 1 := by omega
          have j2b : 2 * i + 2 ≤ j2 ∧ j2 ≤ 2 * i + 2 := by omega
          clear hj1 hj2
          go_wp2_with (first | (go_at_call 129; refine (HLE.out _ (by assumption) _ _ (by omega) (by omega)).mono ?_; rintro e w1 ⟨rfl, hs1⟩; have hs1' : Step (fun _ => False) wr w1 := Step.same (by assumption) hs1; clear hs1; have d0 := HC0.out w1 hs1'; have hm1 := meth_less d0; have hm2 := meth_swap d0) | (go_at_call 130; refine (HSW.out _ (by assumption) _ _ (by omega) (by omega)).mono ?_; rintro e w2 ⟨rfl, hys2, hs2⟩))
          have hs3 := hst.same ((‹Step (fun _ => False) wr w1›.mono (fun _ _ h => h.elim)).same (hs2.mono (fun k _ h => (foot_perm hpm k).1 h)))
          go_roundw
          case rel => exact ⟨j1, sw ys i j1, rfl, by omega, by rw [← HL.out]; omega, hys2, (sw_perm (by omega) (by omega)).trans hpm, HD.out.1, HD.out.2, fun e => absurd e (by omega), HRR.out j1 (by omega), hs3⟩
          case measure => have := HL.out; simp [intOf]; omega
        | false =>
          have HK := Lib.hid (kids_stay hlt HKK.out)
          have HJ1 := Lib.hid hj1
          have HJ2 := Lib.hid hj2
          have j1b : 2 * i + 1 ≤ j1 ∧ j1 ≤ 2 * i + 1 := by omega
          have j2b : 2 * i + 2 ≤ j2 ∧ j2 ≤ 2 * i + 2 := by omega
          clear hj1 hj2
          go_wp2_with (first | (go_at_call 129; refine (HLE.out _ (by assumption) _ _ (by omega) (by omega)).mono ?_; rintro e w1 ⟨rfl, hs1⟩; have hs1' : Step (fun _ => False) wr w1 := Step.same (by assumption) hs1; clear hs1; have d0 := HC0.out w1 hs1'; have hm1 := meth_less d0; have hm2 := meth_swap d0) | (go_at_call 130; refine (HSW.out _ (by assumption) _ _ (by omega) (by omega)).mono ?_; rintro e w2 ⟨rfl, hys2, hs2⟩))
          go_ret
          exact HO.out _ (hst.same (‹Step (fun _ => False) wr w1›.mono (fun _ _ h => h.elim))) (hys.same ‹_›) HK.out
end Go.Proofs.Ytgohlbljdffelaa.AgInt
