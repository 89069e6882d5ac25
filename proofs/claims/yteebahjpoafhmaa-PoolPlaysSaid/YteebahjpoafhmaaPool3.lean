/- token.Name, which may be a backend's name; the pool's at and sweep. Own work of this seat. -/
import Derived.Test.YteebahjpoafhmaaPool2
namespace Go.Proofs.Yteebahjpoafhmaa.Pool
open Go.RowKit Go.Proofs.Yteebahjpoafhmaa.Kit Go.Proofs.Yteebahjpoafhmaa.PPoolPlays Go.Proofs.YteebahjpoafhmaaW.PrintWords Go.Proofs.YteebahjpoafhmaaW.PrintLast Go.Proofs.YteebahjpoafhmaaW.PrintMore
set_option linter.unusedVariables false
set_option linter.unusedSimpArgs false

theorem step_drawn {F : Nat → Prop} {w w' : World} (h : Drawn0 w w') : Step F w w' := by
  obtain ⟨⟨n, rfl⟩⟩ := h
  exact (Step.refl F w).drewN n

def letB (b : Int) : Bool := decide (97 ≤ b) && decide (b ≤ 122)
def digB (b : Int) : Bool := decide (48 ≤ b) && decide (b ≤ 57)
def tokB (b : Int) : Bool := letB b || digB b || decide (b = 45)
theorem letter_is (b : Int) : token_letter.f b = some (letB b) := by
  unfold token_letter.f letB
  by_cases h : b ≥ 97
  · rw [if_pos h, decide_eq_true h, Bool.true_and]
  · rw [if_neg h, decide_eq_false h, Bool.false_and]

set_option maxRecDepth 100000 in
set_option maxHeartbeats 1000000 in
theorem digit_calls {w : World} (b : Int) : Calls Try.prog 39 #[.int .u8 b] w fun e w' => e = .returned (.bool (digB b)) ∧ Step (fun _ => False) w w' := by
  unfold digB
  by_cases h1 : 48 ≤ b
  · by_cases h2 : b ≤ 57
    · go_enter Try.func39, Try.ntmps39
      go_wp2
      go_ret
      exact ⟨by simp [h1, h2], Step.refl _ _⟩
    · go_enter Try.func39, Try.ntmps39
      go_wp2
      go_ret
      exact ⟨by simp [h1, h2], Step.refl _ _⟩
  · go_enter Try.func39, Try.ntmps39
    go_wp2
    go_ret
    exact ⟨by rw [decide_eq_false (by omega : ¬ 48 ≤ b)]; rfl, Step.refl _ _⟩

set_option maxRecDepth 100000 in
set_option maxHeartbeats 1000000 in
theorem name1_calls {w : World} (b : Int) : Calls Try.prog 38 #[.int .u8 b] w fun e w' => e = .returned (.bool (tokB b)) ∧ Step (fun _ => False) w w' := by
  have HL := token_letter.calls b (letB b) w (letter_is b)
  have HD0 := fun w' => digit_calls (w := w') b
  unfold tokB
  generalize letB b = x at *
  generalize digB b = y at *
  have HD := Lib.hid HD0
  clear HD0
  have h45 : (b == 45) = decide (b = 45) := rfl
  cases x with
  | true =>
    go_enter Try.func38, Try.ntmps38
    go_wp2_with (first | (go_at_call 36; refine HL.mono ?_; rintro e1 w1 ⟨rfl, hs1⟩))
    go_ret
    exact ⟨by simp, step_drawn hs1⟩
  | false =>
    cases y with
    | true =>
      go_enter Try.func38, Try.ntmps38
      go_wp2_with (first | (go_at_call 36; refine HL.mono ?_; rintro e1 w1 ⟨rfl, hs1⟩) | (go_at_call 39; refine (HD.out _).mono ?_; rintro e2 w2 ⟨rfl, hs2⟩))
      go_ret
      exact ⟨by simp, (step_drawn hs1).same hs2⟩
    | false =>
      go_enter Try.func38, Try.ntmps38
      go_wp2_with (first | (go_at_call 36; refine HL.mono ?_; rintro e1 w1 ⟨rfl, hs1⟩) | (go_at_call 39; refine (HD.out _).mono ?_; rintro e2 w2 ⟨rfl, hs2⟩))
      go_ret
      exact ⟨by simp, (step_drawn hs1).same hs2⟩

/-- Each byte from place i on is one of a name's. -/
def allB (s : ByteArray) : Nat → Nat → Bool
  | 0, _ => true
  | d + 1, i => tokB (bt s (i : Int)) && allB s d (i + 1)

set_option maxRecDepth 100000 in
set_option maxHeartbeats 1000000 in
theorem all_calls {w : World} (s : ByteArray) (hsz : s.size ≤ 1000000) : Calls Try.prog 37 #[.string s, .func (.func 38) #[] #[]] w fun e w' => e = .returned (.bool (allB s s.size 0)) ∧ Step (fun _ => False) w w' := by
  obtain ⟨r, hr0⟩ : ∃ r, allB s s.size 0 = r := ⟨_, rfl⟩
  rw [hr0]
  have hr := Lib.hid hr0
  clear hr0
  go_enter Try.func37, Try.ntmps37
  go_wp2
  go_loopw [8] (fun v8 wr => ∃ (i : Nat), i ≤ s.size ∧ v8 = .int .i64 (i : Int) ∧ Hid (allB s (s.size - i) i = r) ∧ Step (fun _ => False) w wr) (fun v _ => s.size - (intOf v).toNat)
  case atStart => exact ⟨0, by omega, rfl, hr, Step.refl _ _⟩
  case round =>
    clear hr
    obtain ⟨i, hi, rfl, hr, hS⟩ := hrel
    by_cases hlt : i < s.size
    · have hlt' : (i : Int) < (s.size : Int) := by omega
      have p1 : (0 ≤ (i : Int)) = True := eq_true (by omega)
      have q1 : ((i : Int) < (s.size : Int)) = True := eq_true (by omega)
      have hx : ∀ h : i < s.size, ((s[i]'h).toNat : Int) = bt s (i : Int) := fun h => bt_at s (i : Int) h
      have hstep : allB s (s.size - i) i = (tokB (bt s (i : Int)) && allB s (s.size - (i + 1)) (i + 1)) := by
        rw [show s.size - i = (s.size - (i + 1)) + 1 by omega]; rfl
      have HN := name1_calls (w := wr) (bt s (i : Int))
      have hr1 : (tokB (bt s (i : Int)) && allB s (s.size - (i + 1)) (i + 1)) = r := hstep ▸ hr.out
      clear hstep hr
      generalize htk : tokB (bt s (i : Int)) = tk at *
      clear htk
      cases tk with
      | true =>
        rw [Bool.true_and] at hr1
        have hr := Lib.hid hr1
        clear hr1
        go_wp2_with (first | (go_at_call 38; refine HN.mono ?_; rintro e1 w1 ⟨rfl, hs1⟩))
        exact ⟨⟨i + 1, by omega, by go_num, hr, hS.same hs1⟩, by simp [intOf]; omega⟩
      | false =>
        rw [Bool.false_and] at hr1
        subst hr1
        go_wp2_with (first | (go_at_call 38; refine HN.mono ?_; rintro e1 w1 ⟨rfl, hs1⟩))
        go_ret
        exact ⟨rfl, hS.same hs1⟩
    · obtain rfl : i = s.size := by omega
      have hr1 := hr.out
      rw [Nat.sub_self] at hr1
      have : r = true := hr1.symm
      subst this
      clear hr hr1
      go_wp2
      go_ret
      exact ⟨rfl, hS⟩

/-- A backend's name. -/
def tname (s : ByteArray) : Bool := decide (0 < s.size) && (decide (s.size ≤ 32) && (letB (bt s 0) && allB s s.size 0))

set_option maxRecDepth 100000 in
set_option maxHeartbeats 1000000 in
theorem name_calls {w : World} (s : ByteArray) : Calls Try.prog 24 #[.string s] w fun e w' => e = .returned (.bool (tname s)) ∧ Step (fun _ => False) w w' := by
  unfold tname
  have hemp := bytes_eqv s ⟨#[]⟩
  by_cases h0 : 0 < s.size
  · have hne : ¬ (s = ⟨#[]⟩) := fun e => by subst e; exact absurd h0 (by decide)
    rw [decide_eq_false hne] at hemp
    have hie : s.toList.isEmpty = false := by
      cases hq : s.toList with
      | nil => rw [hq] at hemp; simp at hemp
      | cons a r => rfl
    clear hemp hne
    rw [decide_eq_true h0, Bool.true_and]
    by_cases h32 : s.size ≤ 32
    · rw [decide_eq_true h32, Bool.true_and]
      have h32' : ((s.size : Int) ≤ 32) = True := eq_true (by omega)
      have p1 : ((0 : Int) < (s.size : Int)) = True := eq_true (by omega)
      have hx : ∀ h : 0 < s.size, ((s[0]'h).toNat : Int) = bt s 0 := fun h => bt_at s 0 h
      have HL := token_letter.calls (bt s 0) (letB (bt s 0)) w (letter_is _)
      have HA0 := fun w' => all_calls (w := w') s (by omega)
      generalize letB (bt s 0) = x at *
      generalize allB s s.size 0 = y at *
      have HA := Lib.hid HA0
      clear HA0
      cases x with
      | true =>
        go_enter Try.func24, Try.ntmps24
        go_wp2_with (first | (go_at_call 36; refine HL.mono ?_; rintro e1 w1 ⟨rfl, hs1⟩) | (go_at_call 37; refine (HA.out _).mono ?_; rintro e2 w2 ⟨rfl, hs2⟩))
        go_ret
        exact ⟨by simp, (step_drawn hs1).same hs2⟩
      | false =>
        go_enter Try.func24, Try.ntmps24
        go_wp2_with (first | (go_at_call 36; refine HL.mono ?_; rintro e1 w1 ⟨rfl, hs1⟩) | (go_at_call 37; refine (HA.out _).mono ?_; rintro e2 w2 ⟨rfl, hs2⟩))
        go_ret
        exact ⟨by simp, step_drawn hs1⟩
    · rw [decide_eq_false h32, Bool.false_and]
      have h32' : ((s.size : Int) ≤ 32) = False := eq_false (by omega)
      go_enter Try.func24, Try.ntmps24
      go_wp2
      go_ret
      exact ⟨by simp, Step.refl _ _⟩
  · have he : s = ⟨#[]⟩ := by
      cases s with | mk d =>
        have h1 : (ByteArray.mk d).size = 0 := by omega
        have : d.size = 0 := h1
        rw [Array.eq_empty_of_size_eq_zero this]
    subst he
    clear hemp
    go_enter Try.func24, Try.ntmps24
    go_wp2
    go_ret
    exact ⟨by rw [decide_eq_false (by decide : ¬ 0 < (⟨#[]⟩ : ByteArray).size), Bool.false_and]; rfl, Step.refl _ _⟩
end Go.Proofs.Yteebahjpoafhmaa.Pool
