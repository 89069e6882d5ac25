/- The walk of stewardlaw06.FieldsParse. Own work of this seat. -/
import Derived.Test.YtdglbpjgadjnjaaDoorRf6p
import Derived.Test.YtdglbpjgadjnjaaDoorLw6b
import Derived.Test.YtdglbpjgadjnjaaDoorBase
namespace Go.Proofs.YtdglbpjgadjnjaaDoor.Fie
open Go.RowKit Go.Proofs.YtdglbpjgadjnjaaDoor.Kit Go.Proofs.YtdglbpjgadjnjaaDoor.Oct Go.Proofs.YtdglbpjgadjnjaaDoor.Cut Go.Proofs.YtdglbpjgadjnjaaDoorW.PrintWords Go.Proofs.YtdglbpjgadjnjaaDoor
set_option linter.unusedVariables false
set_option linter.unusedSimpArgs false

theorem bts_app (a b : ByteArray) : bts (a ++ b) = bts a ++ bts b := by
  unfold bts
  rw [ByteArray.data_append, Array.toList_append]
theorem bts_ext (s : ByteArray) (a b : Nat) : bts (s.extract a b) = ((bts s).drop a).take (b - a) := by
  unfold bts
  rw [ByteArray.data_extract, Array.toList_extract]
theorem bts_line (n v : ByteArray) : bts (lineB n v) = bts n ++ 58 :: 32 :: (bts v ++ [13, 10]) := by
  unfold lineB
  rw [bts_app, bts_app, bts_app]
  show bts n ++ [58, 32] ++ bts v ++ [13, 10] = _
  simp
theorem line_size (n v : ByteArray) : (lineB n v).size = n.size + v.size + 4 := by
  rw [← bts_len, bts_line, ← bts_len n, ← bts_len v]
  simp
  omega
theorem parse_some {s n v : ByteArray} (h : parseF s = some (n, v)) : token n = true ∧ value v = true ∧ n.size ≤ s.size ∧ v.size ≤ s.size := by
  unfold parseF at h
  cases hc : colon s with
  | none => rw [hc] at h; cases h
  | some i =>
    have hi := colon_lt hc
    rw [hc] at h
    simp only at h
    split at h
    · rename_i hk
      have h := Option.some.inj h
      have h1 := (Prod.mk.inj h).1
      have h2 := (Prod.mk.inj h).2
      rw [h1, h2] at hk
      refine ⟨hk.1, hk.2, ?_, ?_⟩
      · rw [← h1]; exact ext_size s _ _ (by omega)
      · rw [← h2]; exact Nat.le_trans (trim_size _) (ext_size s _ _ (by omega))
    · cases h
theorem tok_no {n : ByteArray} (h : token n = true) : ∀ (j : Nat) (y : UInt8), (bts n)[j]? = some y → (y == 58) = false := by
  intro j y hy
  unfold token at h
  rw [Bool.and_eq_true] at h
  have := List.all_eq_true.1 h.2 y (List.mem_of_getElem? hy)
  cases e : (y == 58) with
  | false => rfl
  | true =>
    rw [beq_iff_eq] at e
    subst e
    exact absurd this (by decide)
theorem value_trim {v : ByteArray} (h : value v = true) : trim v = v := by
  unfold value at h
  rw [Bool.and_eq_true] at h
  exact toList_eq_of _ _ h.2
theorem parse_line {n v : ByteArray} (ht : token n = true) (hv : value v = true) : parseF ((lineB n v).extract 0 ((lineB n v).size - 2)) = some (n, v) := by
  obtain ⟨u, hu⟩ : ∃ u, (lineB n v).extract 0 ((lineB n v).size - 2) = u := ⟨_, rfl⟩
  rw [hu]
  have hub : bts u = bts n ++ 58 :: 32 :: bts v := by
    rw [← hu, bts_ext, bts_line, line_size, List.drop_zero]
    have e : bts n ++ 58 :: 32 :: (bts v ++ [13, 10]) = (bts n ++ 58 :: 32 :: bts v) ++ [13, 10] := by simp
    rw [e]
    refine List.take_left' ?_
    rw [List.length_append, List.length_cons, List.length_cons, bts_len, bts_len]
    omega
  have hus : u.size = n.size + v.size + 2 := by rw [← bts_len, hub, List.length_append, List.length_cons, List.length_cons, bts_len, bts_len]; omega
  have hcol : colon u = some n.size := by
    refine find_hit (· == (58 : UInt8)) (x := 58) ?_ rfl ?_
    · rw [hub, List.getElem?_append_right (by rw [bts_len]; exact Nat.le_refl _), bts_len, Nat.sub_self]; rfl
    · intro j y hj hy
      rw [hub, List.getElem?_append_left (by rw [bts_len]; exact hj)] at hy
      exact tok_no ht j y hy
  have hn : u.extract 0 n.size = n := bts_inj (by
    rw [bts_ext, hub, List.drop_zero]
    exact List.take_left' (by rw [bts_len]; rfl))
  have hvv : trim (u.extract (n.size + 1) u.size) = v := by
    have hb : bts (u.extract (n.size + 1) u.size) = 32 :: bts v := by
      rw [bts_ext, hub, hus]
      have : (bts n ++ 58 :: 32 :: bts v).drop (n.size + 1) = 32 :: bts v := by
        have e : bts n ++ 58 :: 32 :: bts v = (bts n ++ [58]) ++ 32 :: bts v := by simp
        rw [e]
        exact List.drop_left' (by rw [List.length_append, bts_len]; rfl)
      rw [this]
      exact List.take_of_length_le (by rw [List.length_cons, bts_len]; omega)
    have h1 : trim (u.extract (n.size + 1) u.size) = trim v := by
      rw [trim_eq, trim_eq, hb, List.dropWhile_cons]
      rfl
    rw [h1]
    exact value_trim hv
  unfold parseF
  rw [hcol]
  simp only
  rw [hn, hvv, if_pos ⟨ht, hv⟩]
end Go.Proofs.YtdglbpjgadjnjaaDoor.Fie
