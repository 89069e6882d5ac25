/- Floats of 64 bits, in plain Lean: how words are ordered. Own work of this seat; no condition. -/
import Derived.Laws.FloatArith
namespace Go.Proofs.YthlllmnlcjkiiaaDoor.Flo
open Ieee
set_option linter.unusedVariables false
set_option linter.unusedSimpArgs false

/-- What a rung is worth, in units of the least number. -/
def val (r : Nat) : Nat := if r < 4503599627370496 then r else (4503599627370496 + r % 4503599627370496) * 2 ^ (r / 4503599627370496 - 1)
theorem val_step (r : Nat) : val r < val (r + 1) := by
  unfold val
  by_cases h1 : r + 1 < 4503599627370496
  · rw [if_pos h1, if_pos (by omega)]; omega
  · rw [if_neg h1]
    by_cases h2 : r < 4503599627370496
    · obtain rfl : r = 4503599627370495 := by omega
      simp
    · rw [if_neg h2]
      obtain ⟨e, he⟩ : ∃ e, r / 4503599627370496 = e + 1 := ⟨r / 4503599627370496 - 1, by omega⟩
      have hp : 0 < 2 ^ e := Nat.two_pow_pos e
      by_cases h3 : r % 4503599627370496 + 1 < 4503599627370496
      · have e1 : (r + 1) / 4503599627370496 = e + 1 := by omega
        have e2 : (r + 1) % 4503599627370496 = r % 4503599627370496 + 1 := by omega
        rw [e1, e2, he]
        simp only [Nat.add_sub_cancel]
        exact Nat.mul_lt_mul_of_pos_right (by omega) hp
      · have e1 : (r + 1) / 4503599627370496 = e + 2 := by omega
        have e2 : (r + 1) % 4503599627370496 = 0 := by omega
        rw [e1, e2, he]
        simp only [Nat.add_sub_cancel]
        show _ < (4503599627370496 + 0) * 2 ^ (e + 2 - 1)
        rw [show e + 2 - 1 = e + 1 from rfl, Nat.pow_succ, Nat.mul_comm (2 ^ e) 2, ← Nat.mul_assoc]
        exact Nat.mul_lt_mul_of_pos_right (by omega) hp
theorem val_lt {r s : Nat} (h : r < s) : val r < val s := by
  induction s with
  | zero => omega
  | succ s ih =>
    have := val_step s
    by_cases e : r = s
    · subst e; exact this
    · have := ih (by omega); omega
theorem val_lt_iff {r s : Nat} : val r < val s ↔ r < s := by
  refine ⟨fun h => ?_, val_lt⟩
  refine Classical.byContradiction fun hn => ?_
  by_cases e : r = s
  · subst e; omega
  · have := val_lt (show s < r by omega); omega
theorem val_eq_iff {r s : Nat} : val r = val s ↔ r = s := by
  refine ⟨fun h => ?_, fun h => h ▸ rfl⟩
  rcases Nat.lt_trichotomy r s with h1 | h1 | h1
  · have := val_lt h1; omega
  · exact h1
  · have := val_lt h1; omega
theorem val_zero : val 0 = 0 := rfl

/-- The sign, and the rung. -/
def sgn (w : Nat) : Bool := w / 9223372036854775808 % 2 == 1
def rung (w : Nat) : Nat := w % 9223372036854775808
/-- A word that is no NaN. -/
def Num (w : Nat) : Prop := rung w ≤ 9218868437227405312
def Fin (w : Nat) : Prop := rung w < 9218868437227405312
instance (w : Nat) : Decidable (Num w) := inferInstanceAs (Decidable (_ ≤ _))
instance (w : Nat) : Decidable (Fin w) := inferInstanceAs (Decidable (_ < _))
/-- Its place in the order. -/
def key (w : Nat) : Int := if sgn w then -(rung w : Int) else (rung w : Int)
theorem d_sign : double.signWeight = 9223372036854775808 := by decide
theorem d_bin : double.binade = 4503599627370496 := by decide
theorem d_inf : double.infRung = 9218868437227405312 := by decide
theorem d_least : double.leastPlace = -1074 := by decide
theorem d_frac : double.fractionBits = 52 := rfl
/-- What a finite word is read as. -/
theorem read_fin {w : Nat} (h : Fin w) : ∃ (m : Nat) (i : Nat), double.read w = .number (sgn w) m (-1074 + (i : Int)) ∧ m * 2 ^ i = val (rung w) := by
  unfold Fin at h
  unfold Format.read
  simp only [d_sign, d_bin, d_inf, d_least]
  show ∃ m i, (if rung w < _ then _ else if rung w < _ then _ else if rung w = _ then _ else _) = _ ∧ _
  unfold val
  by_cases h1 : rung w < 4503599627370496
  · rw [if_pos h1, if_pos h1]
    exact ⟨rung w, 0, by simp [sgn, rung], by simp⟩
  · rw [if_neg h1, if_neg h1, if_pos h]
    exact ⟨_, _, rfl, rfl⟩
theorem read_inf {w : Nat} (h : rung w = 9218868437227405312) : double.read w = .infinity (sgn w) := by
  unfold Format.read
  simp only [d_sign, d_bin, d_inf, d_least]
  show (if rung w < _ then _ else if rung w < _ then _ else if rung w = _ then _ else _) = _
  rw [if_neg (by omega), if_neg (by omega), if_pos h]; rfl
theorem read_nan {w : Nat} (h : ¬ Num w) : double.read w = .nan (sgn w) (rung w - 9218868437227405312) := by
  unfold Num at h
  unfold Format.read
  simp only [d_sign, d_bin, d_inf, d_least]
  show (if rung w < _ then _ else if rung w < _ then _ else if rung w = _ then _ else _) = _
  rw [if_neg (by omega), if_neg (by omega), if_neg (by omega)]; rfl

theorem cmp_int {a b : Int} : compare a b = if a < b then Ordering.lt else if a = b then .eq else .gt := rfl
theorem cmp_nat {a b : Nat} : compare a b = if a < b then Ordering.lt else if a = b then .eq else .gt := rfl
theorem cmp_congr {a b c d : Int} (h1 : a < b ↔ c < d) (h2 : a = b ↔ c = d) : compare a b = compare c d := by
  rw [cmp_int, cmp_int]
  by_cases e : a < b
  · rw [if_pos e, if_pos (h1.1 e)]
  · rw [if_neg e, if_neg (fun h => e (h1.2 h))]
    by_cases e2 : a = b
    · rw [if_pos e2, if_pos (h2.1 e2)]
    · rw [if_neg e2, if_neg (fun h => e2 (h2.2 h))]
/-- The sign before a size. -/
def sg (s : Bool) (n : Nat) : Int := if s then -(n : Int) else (n : Int)
theorem signed_sg (s : Bool) (m a : Nat) : signed s m a = sg s (m * 2 ^ a) := by
  unfold signed sg
  rw [Nat.shiftLeft_eq]
theorem sg_mul (s : Bool) (n c : Nat) : sg s n * (c : Int) = sg s (n * c) := by
  unfold sg
  split <;> simp [Int.neg_mul]
theorem sg_val (s t : Bool) (x y : Nat) : compare (sg s (val x)) (sg t (val y)) = compare (sg s x) (sg t y) := by
  have a1 := @val_lt_iff x y
  have a2 := @val_lt_iff y x
  have a3 := @val_eq_iff x y
  have b1 := @val_lt_iff 0 x
  have b2 := @val_lt_iff 0 y
  have b3 := @val_eq_iff x 0
  have b4 := @val_eq_iff y 0
  rw [val_zero] at b1 b2 b3 b4
  unfold sg
  cases s <;> cases t <;> simp only [Bool.false_eq_true, if_false, if_true] <;> refine cmp_congr ?_ ?_ <;> omega
theorem order_fin {x y : Nat} (hx : Fin x) (hy : Fin y) : double.order x y = some (compare (key x) (key y)) := by
  obtain ⟨m, i, ex, hm⟩ := read_fin hx
  obtain ⟨n, j, ey, hn⟩ := read_fin hy
  unfold Format.order
  rw [ex, ey]
  show some (compare (signed (sgn x) m ((-1074 + (i : Int)) - min (-1074 + (i : Int)) (-1074 + (j : Int))).toNat) (signed (sgn y) n ((-1074 + (j : Int)) - min (-1074 + (i : Int)) (-1074 + (j : Int))).toNat)) = _
  have e1 : ((-1074 + (i : Int)) - min (-1074 + (i : Int)) (-1074 + (j : Int))).toNat = i - min i j := by omega
  have e2 : ((-1074 + (j : Int)) - min (-1074 + (i : Int)) (-1074 + (j : Int))).toNat = j - min i j := by omega
  rw [e1, e2, signed_sg, signed_sg]
  have hk : ∀ w, key w = sg (sgn w) (rung w) := fun w => rfl
  rw [hk, hk, ← sg_val (sgn x) (sgn y) (rung x) (rung y), ← hm, ← hn]
  have hc : (0 : Int) < ((2 ^ min i j : Nat) : Int) := by have := Nat.two_pow_pos (min i j); omega
  have p1 : m * 2 ^ i = m * 2 ^ (i - min i j) * 2 ^ min i j := by rw [Nat.mul_assoc, ← Nat.pow_add, show i - min i j + min i j = i by omega]
  have p2 : n * 2 ^ j = n * 2 ^ (j - min i j) * 2 ^ min i j := by rw [Nat.mul_assoc, ← Nat.pow_add, show j - min i j + min i j = j by omega]
  rw [p1, p2, ← sg_mul (sgn x) (m * 2 ^ (i - min i j)) (2 ^ min i j), ← sg_mul (sgn y) (n * 2 ^ (j - min i j)) (2 ^ min i j)]
  congr 1
  refine cmp_congr ⟨fun h => Int.mul_lt_mul_of_pos_right h hc, fun h => Int.lt_of_mul_lt_mul_right h (Int.le_of_lt hc)⟩ ⟨fun h => h ▸ rfl, fun h => Int.eq_of_mul_eq_mul_right (Int.ne_of_gt hc) h⟩
/-- The order of two words that are numbers or infinite is that of their keys. -/
theorem order_num {x y : Nat} (hx : Num x) (hy : Num y) : double.order x y = some (compare (key x) (key y)) := by
  by_cases fx : Fin x
  · by_cases fy : Fin y
    · exact order_fin fx fy
    · have iy : rung y = 9218868437227405312 := by unfold Num Fin at *; omega
      obtain ⟨m, i, ex, hm⟩ := read_fin fx
      unfold Format.order
      rw [ex, read_inf iy]
      show some (if sgn y then Ordering.gt else .lt) = _
      unfold key Fin at *
      rw [iy]
      congr 1
      rw [cmp_int]
      cases sgn y <;> cases sgn x <;> simp only [Bool.false_eq_true, if_false, if_true]
      · rw [if_pos (by omega)]
      · rw [if_pos (by omega)]
      · rw [if_neg (by omega), if_neg (by omega)]
      · rw [if_neg (by omega), if_neg (by omega)]
  · have ix : rung x = 9218868437227405312 := by unfold Num Fin at *; omega
    by_cases fy : Fin y
    · obtain ⟨m, i, ey, hm⟩ := read_fin fy
      unfold Format.order
      rw [ey, read_inf ix]
      show some (if sgn x then Ordering.lt else .gt) = _
      unfold key Fin at *
      rw [ix]
      congr 1
      rw [cmp_int]
      cases sgn x <;> cases sgn y <;> simp only [Bool.false_eq_true, if_false, if_true]
      · rw [if_neg (by omega), if_neg (by omega)]
      · rw [if_neg (by omega), if_neg (by omega)]
      · rw [if_pos (by omega)]
      · rw [if_pos (by omega)]
    · have iy : rung y = 9218868437227405312 := by unfold Num Fin at *; omega
      unfold Format.order
      rw [read_inf ix, read_inf iy]
      show some (compare (sgn y).toNat (sgn x).toNat) = _
      unfold key
      rw [ix, iy]
      cases sgn x <;> cases sgn y <;> decide
theorem order_nan {x y : Nat} (h : ¬ Num x ∨ ¬ Num y) : double.order x y = none := by
  unfold Format.order
  rcases h with h | h
  · rw [read_nan h]; rfl
  · rw [read_nan h]; cases double.read x <;> rfl
theorem order_self {x : Nat} : double.order x x = if Num x then some .eq else none := by
  split
  · rename_i h
    rw [order_num h h, cmp_int, if_neg (by omega), if_pos rfl]
  · rename_i h
    exact order_nan (.inl h)
end Go.Proofs.YthlllmnlcjkiiaaDoor.Flo
