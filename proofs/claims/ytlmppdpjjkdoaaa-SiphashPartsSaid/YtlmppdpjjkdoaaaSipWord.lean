/- siphash: words as numbers. Own work of this seat. -/
import Derived.Test.YtlmppdpjjkdoaaaSip4
import Derived.Laws.Bits64b
namespace Go.Proofs.Ytlmppdpjjkdoaaa.Sip
open Go.RowKit Go.Proofs.Ytlmppdpjjkdoaaa.Kit Go.Proofs.Ytlmppdpjjkdoaaa.PSiphashSums Go.Proofs.YtlmppdpjjkdoaaaW.PrintWords Go.Proofs.YtlmppdpjjkdoaaaW.PrintLast Go.Proofs.YtlmppdpjjkdoaaaW.PrintMore
set_option linter.unusedVariables false

def valN : List UInt8 → Nat
  | [] => 0
  | b :: l => b.toNat + 256 * valN l

theorem valN_lt : ∀ l : List UInt8, valN l < 2 ^ (8 * l.length)
  | [] => by simp [valN]
  | b :: l => by
    have h1 := valN_lt l
    have h2 := b.toNat_lt
    simp only [valN, List.length_cons, Nat.mul_add, Nat.pow_add]
    have : (2 : Nat) ^ (8 * 1) = 256 := by decide
    rw [this]
    omega
theorem valN_snoc : ∀ (l : List UInt8) (b : UInt8), valN (l ++ [b]) = valN l + b.toNat * 2 ^ (8 * l.length)
  | [], b => by simp [valN]
  | x :: l, b => by
    simp only [List.cons_append, valN, valN_snoc l b, List.length_cons]
    rw [show 8 * (l.length + 1) = 8 * l.length + 8 by omega, Nat.pow_add, show (2 : Nat) ^ 8 = 256 by decide, Nat.mul_add, ← Nat.mul_assoc]
    have : 256 * (b.toNat * 2 ^ (8 * l.length)) = b.toNat * 2 ^ (8 * l.length) * 256 := Nat.mul_comm _ _
    rw [Nat.mul_assoc] at this
    grind
theorem valN_zeros (l : List UInt8) : ∀ m, valN (l ++ List.replicate m 0) = valN l
  | 0 => by simp
  | m + 1 => by
    rw [List.replicate_succ', ← List.append_assoc, valN_snoc, valN_zeros l m]
    simp

theorem or_sum {x b k : Nat} (hk : k < 8) (hb : b < 256) (hx : x < 2 ^ (8 * k)) : Go.bits .or .u64 (x : Int) (shl .u64 (IntKind.u64.wrap (b : Int)) (8 * (k : Int))) = ((x + b * 2 ^ (8 * k) : Nat) : Int) := by
  have hp : 2 ^ (8 * k) * 256 ≤ 18446744073709551616 := by
    rw [show (256 : Nat) = 2 ^ 8 by decide, ← Nat.pow_add, show (18446744073709551616 : Nat) = 2 ^ 64 by decide]
    exact Nat.pow_le_pow_right (by omega) (by omega)
  have hm : b * 2 ^ (8 * k) ≤ 255 * 2 ^ (8 * k) := Nat.mul_le_mul_right _ (by omega)
  have h1 : shl .u64 (IntKind.u64.wrap (b : Int)) (8 * (k : Int)) = ((b * 2 ^ (8 * k) : Nat) : Int) := by
    unfold shl
    rw [show (8 * (k : Int)).toNat = 8 * k by omega, show min (8 * k) IntKind.u64.bits = 8 * k from Nat.min_eq_left (by show 8 * k ≤ 64; omega), IntKind.wrap_u64, IntKind.wrap_u64]
    rw [Int.emod_eq_of_lt (by omega) (by omega : (b : Int) < 18446744073709551616)]
    have e : (b : Int) * 2 ^ (8 * k) = ((b * 2 ^ (8 * k) : Nat) : Int) := by push_cast; rfl
    rw [e]
    omega
  rw [h1, bits_or_u64_nat _ _ (by omega) (by omega)]
  congr 1
  rw [Nat.or_comm, Nat.mul_comm, ← Nat.two_pow_add_eq_or_of_lt hx]
  omega

theorem word_is (xs : List UInt8) (h : 8 ≤ xs.length) : wordOf xs = (valN (xs.take 8) : Int) := by
  have hl : 8 ≤ (ints xs).length := by unfold ints; simpa using h
  have key : ∀ (d k : Nat), k ≤ 8 → 8 - k < d → siphash_word.l0 d (ints xs) (valN (xs.take k) : Int) (k : Int) = some (valN (xs.take 8) : Int) := by
    intro d
    induction d with
    | zero => intro k _ h; omega
    | succ d ih =>
      intro k hk hd
      simp only [siphash_word.l0]
      by_cases h8 : k < 8
      · have e1 : wrap64 (8 * (k : Int)) = 8 * (k : Int) := by unfold wrap64; omega
        have e2 : wrap64 ((k : Int) + 1) = ((k + 1 : Nat) : Int) := by unfold wrap64; omega
        have e3 : rd (ints xs) (k : Int) = ((xs[k]'(by omega)).toNat : Int) := by simp [rd, ints, (by omega : k < xs.length)]
        have e4 := List.take_succ_eq_append_getElem (l := xs) (i := k) (by omega)
        have e5 := valN_lt (xs.take k)
        have e6 : (xs.take k).length = k := by rw [List.length_take]; omega
        rw [e6] at e5
        rw [if_pos (by omega), if_pos (by omega), if_pos (by omega), e1, if_pos (by omega), e2, e3, or_sum h8 (UInt8.toNat_lt _) e5]
        have := ih (k + 1) (by omega) (by omega)
        rw [e4, valN_snoc, e6] at this
        exact this
      · obtain rfl : k = 8 := by omega
        rw [if_neg (by omega)]
  unfold wordOf siphash_word.f
  have := key 9 0 (by omega) (by omega)
  simp only [List.take_zero, valN] at this
  rw [show ((0 : Nat) : Int) = 0 from rfl] at this
  rw [this]; rfl

theorem last_is (xs : List UInt8) (cnt : Int) (h : xs.length < 8) (h0 : 0 ≤ cnt) :
    wordOf (lastOf xs cnt) = IntKind.u64.wrap ((valN xs : Int) + IntKind.u64.wrap (cnt % 256 * 72057594037927936)) := by
  have e : lastOf xs cnt = (xs ++ List.replicate (7 - xs.length) 0) ++ [UInt8.ofNat (cnt % 256).toNat] := by
    unfold lastOf
    rw [show 8 - xs.length = (7 - xs.length) + 1 by omega, List.replicate_succ', ← List.append_assoc, List.set_append_right _ _ (by simp; omega)]
    congr 1
    rw [show 7 - (xs ++ List.replicate (7 - xs.length) (0 : UInt8)).length = 0 by simp; omega]
    rfl
  have hl := last_len xs cnt h
  rw [word_is _ (by omega), List.take_of_length_le (by omega), e, valN_snoc, valN_zeros]
  have e6 : (xs ++ List.replicate (7 - xs.length) (0 : UInt8)).length = 7 := by simp; omega
  rw [e6, UInt8.toNat_ofNat', show (2 : Nat) ^ (8 * 7) = 72057594037927936 by decide]
  have h1 := valN_lt xs
  have h2 : 2 ^ (8 * xs.length) ≤ 2 ^ 56 := Nat.pow_le_pow_right (by omega) (by omega)
  rw [show (2 : Nat) ^ 56 = 72057594037927936 by decide] at h2
  rw [IntKind.wrap_u64, IntKind.wrap_u64]
  omega

theorem refword_is (s : ByteArray) (h : s.size ≤ 8) : stewardref01_Word.f 10 s = some (valN (strB s) : Int) := by
  have hls : (strB s).length = s.size := rfl
  have key : ∀ (d j : Nat), j ≤ s.size → j < d → stewardref01_Word.l0 d s (valN ((strB s).drop j) : Int) ((j : Int) - 1) = some (valN (strB s) : Int) := by
    intro d
    induction d with
    | zero => intro j _ hj; omega
    | succ d ih =>
      intro j hj hd
      simp only [stewardref01_Word.l0]
      rcases j with _ | j
      · rw [if_neg (by omega)]
        simp
      · have hlt : j < (strB s).length := by omega
        have e1 := List.drop_eq_getElem_cons hlt
        have e2 : valN ((strB s).drop j) = ((strB s)[j]).toNat + 256 * valN ((strB s).drop (j + 1)) := by rw [e1]; rfl
        have e3 : bt s (((j + 1 : Nat) : Int) - 1) = (((strB s)[j]).toNat : Int) := by
          unfold bt
          rw [dif_pos (by omega)]
          congr 2
          simp only [show (((j + 1 : Nat) : Int) - 1).toNat = j by omega]
          rfl
        have e4 := valN_lt ((strB s).drop j)
        have e5 : 2 ^ (8 * ((strB s).drop j).length) ≤ 2 ^ 64 := Nat.pow_le_pow_right (by omega) (by rw [List.length_drop]; omega)
        rw [show (2 : Nat) ^ 64 = 18446744073709551616 by decide] at e5
        have e6 := UInt8.toNat_lt (strB s)[j]
        rw [if_pos (by omega), if_pos (by omega), if_pos (by omega), e3]
        rw [show IntKind.u64.wrap (IntKind.u64.wrap ((valN ((strB s).drop (j + 1)) : Int) * 256) + IntKind.u64.wrap (((strB s)[j]).toNat : Int)) = (valN ((strB s).drop j) : Int) by rw [e2, IntKind.wrap_u64, IntKind.wrap_u64, IntKind.wrap_u64]; omega]
        rw [show wrap64 (((j + 1 : Nat) : Int) - 1 - 1) = (j : Int) - 1 by unfold wrap64; omega]
        exact ih j (by omega) (by omega)
  unfold stewardref01_Word.f
  have := key 10 s.size (Nat.le_refl _) (by omega)
  rw [List.drop_eq_nil_of_le (by omega)] at this
  rw [show wrap64 ((s.size : Int) - 1) = (s.size : Int) - 1 by unfold wrap64; omega]
  exact this

theorem refword_calls (s : ByteArray) (h : s.size ≤ 8) (w : World) :
    Calls Try.prog 67 #[.string s] w fun e w' => e = .returned (.int .u64 (valN (strB s) : Int)) ∧ Drawn0 w w' :=
  stewardref01_Word.calls 10 s _ w (refword_is s h)

end Go.Proofs.Ytlmppdpjjkdoaaa.Sip
