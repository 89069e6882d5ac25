/- Blanks about a text, plain Lean: both orders of trimming are one; a value by its ends. Own work of this seat; no condition. -/
import Derived.Test.YtdglbpjgadjnjaaDoorRf5b
namespace Go.Proofs.YtdglbpjgadjnjaaDoor.Fie
open Go.RowKit Go.Proofs.YtdglbpjgadjnjaaDoor.Kit Go.Proofs.YtdglbpjgadjnjaaDoor.Oct Go.Proofs.YtdglbpjgadjnjaaDoor.Cut
set_option linter.unusedVariables false
set_option linter.unusedSimpArgs false

def rdw (p : UInt8 → Bool) (l : List UInt8) : List UInt8 := (l.reverse.dropWhile p).reverse
theorem rdw_nil (p : UInt8 → Bool) : rdw p [] = [] := rfl
theorem rdw_snoc_t {p : UInt8 → Bool} {l : List UInt8} {x : UInt8} (h : p x = true) : rdw p (l ++ [x]) = rdw p l := by
  unfold rdw
  simp [List.dropWhile_cons, h]
theorem rdw_snoc_f {p : UInt8 → Bool} {l : List UInt8} {x : UInt8} (h : p x = false) : rdw p (l ++ [x]) = l ++ [x] := by
  unfold rdw
  simp [List.dropWhile_cons, h]
theorem dw_nil {p : UInt8 → Bool} : ∀ {l : List UInt8}, l.dropWhile p = [] → l.all p = true
  | [], _ => rfl
  | x :: l, h => by
    rw [List.dropWhile_cons] at h
    split at h
    · rename_i hx
      rw [List.all_cons, hx, dw_nil h]; rfl
    · cases h
theorem dw_all {p : UInt8 → Bool} : ∀ {l : List UInt8}, l.all p = true → l.dropWhile p = []
  | [], _ => rfl
  | x :: l, h => by
    rw [List.all_cons, Bool.and_eq_true] at h
    rw [List.dropWhile_cons, if_pos h.1, dw_all h.2]
theorem rdw_all {p : UInt8 → Bool} {l : List UInt8} (h : l.all p = true) : rdw p l = [] := by
  unfold rdw
  rw [dw_all (by rw [List.all_reverse]; exact h)]
  rfl
theorem rdw_cons {p : UInt8 → Bool} {l : List UInt8} {x : UInt8} (h : l.all p = false) : rdw p (x :: l) = x :: rdw p l := by
  unfold rdw
  rw [List.reverse_cons, List.dropWhile_append]
  have : (l.reverse.dropWhile p).isEmpty = false := by
    cases e : l.reverse.dropWhile p with
    | nil => have := dw_nil e; rw [List.all_reverse, h] at this; cases this
    | cons => rfl
  rw [this]
  simp
theorem rdw_cons_f {p : UInt8 → Bool} {l : List UInt8} {x : UInt8} (h : p x = false) : rdw p (x :: l) = x :: rdw p l := by
  cases ha : l.all p with
  | false => exact rdw_cons ha
  | true =>
    rw [rdw_all ha]
    unfold rdw
    rw [List.reverse_cons, List.dropWhile_append, dw_all (by rw [List.all_reverse]; exact ha)]
    simp [List.dropWhile_cons, h]
theorem dw_rdw (p : UInt8 → Bool) : ∀ l : List UInt8, (rdw p l).dropWhile p = rdw p (l.dropWhile p)
  | [] => rfl
  | x :: l => by
    cases hx : p x with
    | false =>
      rw [rdw_cons_f hx, List.dropWhile_cons, hx, List.dropWhile_cons, hx]
      simp only [Bool.false_eq_true, if_false]
      exact (rdw_cons_f hx).symm
    | true =>
      rw [List.dropWhile_cons (xs := l), hx]
      simp only [if_true]
      cases ha : l.all p with
      | false => rw [rdw_cons ha, List.dropWhile_cons, hx]; simp only [if_true]; exact dw_rdw p l
      | true => rw [rdw_all (by rw [List.all_cons, hx, ha]; rfl), dw_all ha]; rfl
theorem bl_fun : (fun b => ([32, 9] : List UInt8).contains b) = isBl := by
  funext b
  unfold isBl
  rw [List.contains_cons, List.contains_cons]
  simp
theorem trim_eq (s : ByteArray) : trim s = ofL (rdw isBl ((bts s).dropWhile isBl)) := by
  rw [← dw_rdw]
  unfold trim Lib.trimS Lib.trimLeftS Lib.trimRightS rdw
  rw [bl_fun]
theorem rdw_len (p : UInt8 → Bool) (l : List UInt8) : (rdw p l).length ≤ l.length := by
  unfold rdw
  rw [List.length_reverse]
  refine Nat.le_trans (dropWhile_len _ _) ?_
  rw [List.length_reverse]
  exact Nat.le_refl _
theorem bts_cons {s : ByteArray} (h : 0 < s.size) : bts s = s[0] :: bts (s.extract 1 s.size) := by
  have h0 := bts_get h
  cases e : bts s with
  | nil => rw [e] at h0; cases h0
  | cons x r =>
    rw [e] at h0
    have : x = s[0] := Option.some.inj h0
    rw [this]
    congr 1
    have e2 : bts (s.extract 1 s.size) = (bts s).drop 1 := by
      unfold bts
      rw [ByteArray.data_extract, Array.toList_extract]
      show (s.data.toList.drop 1).take (s.size - 1) = _
      refine List.take_of_length_le ?_
      have := bts_len s
      unfold bts at this
      rw [List.length_drop]
      omega
    rw [e2, e]
    rfl
theorem bts_snoc {s : ByteArray} (h : s.size - 1 < s.size) : bts s = bts (s.extract 0 (s.size - 1)) ++ [s[s.size - 1]] := by
  have h0 := bts_get h
  have e2 : bts (s.extract 0 (s.size - 1)) = (bts s).take (s.size - 1) := by
    unfold bts
    rw [ByteArray.data_extract, Array.toList_extract]
    rfl
  rw [e2]
  have e3 : bts s = (bts s).take (s.size - 1 + 1) := by rw [show s.size - 1 + 1 = (bts s).length by rw [bts_len]; omega, List.take_length]
  refine e3.trans ?_
  rw [List.take_add_one, h0]
  rfl
theorem trim_same {l : List UInt8} (h : rdw isBl (l.dropWhile isBl) = l) : l = [] ∨ ∃ x r, l = x :: r ∧ isBl x = false := by
  cases l with
  | nil => exact .inl rfl
  | cons x r =>
    refine .inr ⟨x, r, rfl, ?_⟩
    cases hx : isBl x with
    | false => rfl
    | true =>
      rw [List.dropWhile_cons, hx] at h
      simp only [if_true] at h
      have h1 := congrArg List.length h
      have h2 := rdw_len isBl (r.dropWhile isBl)
      have h3 := dropWhile_len isBl r
      rw [List.length_cons] at h1
      omega
/-- what the document asks of a value's ends. -/
theorem value_ends {s : ByteArray} (h : 0 < s.size) (h1 : s.size - 1 < s.size) : ((trim s).toList == s.toList) = (!isBl s[0] && !isBl s[s.size - 1]) := by
  rw [ByteArray.toList_eq, ByteArray.toList_eq]
  show (bts (trim s) == bts s) = _
  rw [trim_eq, bts_ofL]
  have hc := bts_cons h
  have hs := bts_snoc h1
  generalize s[0] = x at *
  generalize s[s.size - 1] = y at *
  cases hx : isBl x with
  | true =>
    have : ¬ rdw isBl ((bts s).dropWhile isBl) = bts s := fun e => by
      rcases trim_same e with e | ⟨x', r', e, hx'⟩
      · rw [hc] at e; cases e
      · rw [hc] at e
        cases e
        rw [hx] at hx'
        cases hx'
    rw [beq_eq_false_iff_ne.2 this]
    rfl
  | false =>
    have hd : (bts s).dropWhile isBl = bts s := by
      rw [hc, List.dropWhile_cons, hx]
      simp
    rw [hd, hs]
    cases hy : isBl y with
    | false => rw [rdw_snoc_f hy]; simp
    | true =>
      rw [rdw_snoc_t hy]
      refine beq_eq_false_iff_ne.2 (fun e => ?_)
      have h1 := congrArg List.length e
      have h2 := rdw_len isBl (bts (s.extract 0 (s.size - 1)))
      rw [List.length_append] at h1
      simp only [List.length_cons, List.length_nil] at h1
      omega
theorem value_nil : value ⟨#[]⟩ = true := by kernel_rfl
end Go.Proofs.YtdglbpjgadjnjaaDoor.Fie
