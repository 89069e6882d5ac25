/- siphash: in whatever parts bytes come. Own work of this seat. -/
import Derived.Test.YtlmppdpjjkdoaaaSip8
import Derived.Test.YtlmppdpjjkdoaaaPSiphashPartsx1
namespace Go.Proofs.Ytlmppdpjjkdoaaa.Sip
open Go.RowKit Go.Proofs.Ytlmppdpjjkdoaaa.Kit Go.Proofs.YtlmppdpjjkdoaaaW.PrintWords Go.Proofs.YtlmppdpjjkdoaaaW.PrintLast Go.Proofs.YtlmppdpjjkdoaaaW.PrintMore
set_option linter.unusedVariables false

theorem feed_append (n : Nat) : ∀ (s : W4) (xs ys : List UInt8), xs.length ≤ n → feed s (xs ++ ys) = feed (feed s xs).1 ((feed s xs).2 ++ ys) := by
  induction n with
  | zero =>
    intro s xs ys h
    rw [feed_lt (xs := xs) (by omega)]
  | succ n ih =>
    intro s xs ys h
    by_cases h8 : 8 ≤ xs.length
    · rw [feed_ge (xs := xs ++ ys) (by rw [List.length_append]; omega), feed_ge h8, word_is (xs ++ ys) (by rw [List.length_append]; omega), word_is xs h8, List.take_append_of_le_length h8, List.drop_append_of_le_length h8]
      exact ih _ _ _ (by rw [List.length_drop]; omega)
    · rw [feed_lt (xs := xs) (by omega)]

/-- Strings one behind the other. -/
def catB : List ByteArray → ByteArray
  | [] => ByteArray.empty
  | t :: l => t ++ catB l
theorem strB_append (a b : ByteArray) : strB (a ++ b) = strB a ++ strB b := by
  unfold strB
  rw [ByteArray.data_append, Array.toList_append]
theorem catB_size : ∀ l : List ByteArray, (catB l).size = total l
  | [] => rfl
  | t :: l => by rw [catB, ByteArray.size_append, catB_size l]; rfl
theorem catB_snoc : ∀ (l : List ByteArray) (t : ByteArray), catB (l ++ [t]) = catB l ++ t
  | [], t => by
    simp only [List.nil_append, catB]
    rw [ByteArray.append_empty, ByteArray.empty_append]
  | x :: l, t => by simp only [List.cons_append, catB, catB_snoc l t, ByteArray.append_assoc]
theorem feeds_cat : ∀ (l : List ByteArray) (p : W4 × List UInt8), p.2.length < 8 → feeds p l = feed p.1 (p.2 ++ strB (catB l))
  | [], p, h => by
    show p = _
    rw [show strB (catB []) = [] from rfl, List.append_nil, feed_lt h]
  | t :: l, p, h => by
    simp only [feeds, catB]
    rw [feeds_cat l _ (feed_len _ _), strB_append, ← List.append_assoc, feed_append _ p.1 (p.2 ++ strB t) (strB (catB l)) (Nat.le_refl _)]
theorem sumOf_cat (key : List UInt8) (l : List ByteArray) : sumOf key l = sumOf key [catB l] := by
  unfold sumOf
  rw [feeds_cat l _ (by simp), feeds_cat [catB l] _ (by simp)]
  have e : catB [catB l] = catB l := by simp only [catB]; rw [ByteArray.append_empty]
  rw [e]
  have e2 : total [catB l] = total l := by simp [total, catB_size]
  rw [e2]

open Go.Proofs.Ytlmppdpjjkdoaaa.PSiphashParts in
theorem few_is (l : List ByteArray) (n m : Nat) (hn : n ≤ 1000000) : ∀ (d k : Nat), k ≤ l.length → k ≤ n → n - k < d →
    stewardlaw01_Few.l0 d l (n : Int) (m : Int) ((l.take k).map (cutB · m)) (k : Int) = some ((l.take n).map (cutB · m)) := by
  intro d
  induction d with
  | zero => intro k _ _ h; omega
  | succ d ih =>
    intro k hk hkn hd
    simp only [stewardlaw01_Few.l0]
    by_cases h1 : k < l.length
    · rw [if_pos (by omega)]
      by_cases h2 : k < n
      · have hrd : rdOf ByteArray.empty l (k : Int) = l[k] := by simp [rdOf, h1]
        have hcut : stewardlaw01_Cut.f l[k] (m : Int) = some (cutB l[k] m) := by
          unfold stewardlaw01_Cut.f cutB
          by_cases h : m < l[k].size
          · rw [if_pos (by omega), if_pos (by omega), if_pos (by omega), if_pos h, Int.toNat_natCast]
          · rw [if_neg (by omega), if_neg h]
        rw [if_pos (by omega), if_pos (by omega), hrd, hcut]
        simp only [Option.bind_some]
        rw [if_pos (by rw [List.length_map, List.length_take]; omega), show wrap64 ((k : Int) + 1) = ((k + 1 : Nat) : Int) by unfold wrap64; omega]
        have := ih (k + 1) (by omega) (by omega) (by omega)
        rw [List.take_succ_eq_append_getElem h1, List.map_append] at this
        exact this
      · rw [if_neg (by omega)]
        have : k = n := by omega
        rw [this]
    · rw [if_neg (by omega)]
      rw [List.take_of_length_le (by omega), List.take_of_length_le (by omega)]

def fewB (l : List ByteArray) (n m : Nat) : List ByteArray := (l.take n).map (cutB · m)
open Go.Proofs.Ytlmppdpjjkdoaaa.PSiphashParts in
theorem few_calls (A : Option Addr) (c : Nat) (l : List ByteArray) (n m : Nat) (hn : n ≤ 1000000) (w : World) (hr : Kd.C Kd.string w A l.length l) (hc : l.length ≤ c) :
    Calls Try.prog 49 #[.slice A l.length c, .int .i64 (n : Int), .int .i64 (m : Int)] w fun e w' => ∃ A' c', e = .returned (.slice A' (fewB l n m).length c') ∧ (fewB l n m).length ≤ c' ∧ Kd.C Kd.string w' A' (fewB l n m).length (fewB l n m) ∧ Below w.heap.size w w' := by
  have h : stewardlaw01_Few.f (n + 1) l (n : Int) (m : Int) = some (fewB l n m) := by
    have := few_is l n m hn (n + 1) 0 (by omega) (by omega) (by omega)
    rw [List.take_zero, List.map_nil] at this
    exact this
  refine (stewardlaw01_Few.calls (n + 1) A c l n m _ w hr hc h).mono ?_
  rintro e w' ⟨v, rfl, hR, hb⟩
  obtain ⟨A', c', rfl, hle, hC⟩ := Kd.R_reads hR
  exact ⟨A', c', rfl, hle, hC, hb⟩
theorem few_total (n m : Nat) : ∀ l : List ByteArray, total (fewB l n m) ≤ n * m := by
  have key : ∀ (l : List ByteArray) (n : Nat), total ((l.take n).map (cutB · m)) ≤ n * m := by
    intro l
    induction l with
    | nil => intro n; simp [total]
    | cons t l ih =>
      intro n
      cases n with
      | zero => simp [total]
      | succ n =>
        have h1 := ih n
        have h2 := cutB_size t m
        simp only [List.take_succ_cons, List.map_cons, total]
        rw [Nat.succ_mul]
        omega
  exact fun l => key l n
end Go.Proofs.Ytlmppdpjjkdoaaa.Sip
