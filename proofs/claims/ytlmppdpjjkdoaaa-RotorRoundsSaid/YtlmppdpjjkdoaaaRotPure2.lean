/- rotor: what a whole round of turns leaves, in plain Lean. Own work of this seat. -/
import Derived.Test.YtlmppdpjjkdoaaaRot7
namespace Go.Proofs.Ytlmppdpjjkdoaaa.Rot
open Go.Proofs.Ytlmppdpjjkdoaaa.Kit
set_option linter.unusedVariables false
set_option linter.unusedSimpArgs false

/-- Behind as many turns as the weights' sum: each mark is 0, and each entry had its weight. -/
theorem tf_whole {L : List (ByteArray × Int)} (hnd : (L.map Prod.fst).Nodup) (hn : 0 < L.length) (k : Nat) (hk : (k : Int) = wsum L) :
    ∀ j, j < L.length → (tf L k).1 (nm L j) = 0 ∧ (tf L k).2 (nm L j) = wj L j := by
  obtain ⟨h1, h2, h3, _⟩ := tf_is hnd hn k
  have hW : 1 ≤ wsum L := by
    have := (sm_ge_each L.length (fun j _ => by have := wj_lo L j; omega : ∀ j, j < L.length → 0 ≤ wj L j)).2 0 hn
    have := wj_lo L 0
    unfold wsum; omega
  have e : ∀ j, j < L.length → (tf L k).1 (nm L j) = wsum L * (wj L j - (tf L k).2 (nm L j)) := fun j hj => by
    rw [h3 j hj, hk, Int.mul_sub, Int.mul_comm ((tf L k).2 (nm L j))]
  have hg : ∀ j, j < L.length → 0 ≤ wj L j - (tf L k).2 (nm L j) := fun j hj => by
    have h := h2 j hj
    rw [e j hj] at h
    have : wsum L * (-1) < wsum L * (wj L j - (tf L k).2 (nm L j)) := by omega
    have := Int.lt_of_mul_lt_mul_left this (by omega)
    omega
  rw [sm_congr L.length e, sm_mul] at h1
  have h0 : sm (fun j => wj L j - (tf L k).2 (nm L j)) L.length = 0 := by
    rcases Int.mul_eq_zero.1 h1 with h | h
    · omega
    · exact h
  intro j hj
  have hz := sm_zero L.length hg h0 j hj
  exact ⟨by rw [e j hj, hz, Int.mul_zero], by omega⟩

/-- Where one weight is all there is, its mark is 0. -/
theorem tf_alone {L : List (ByteArray × Int)} (hnd : (L.map Prod.fst).Nodup) (k : Nat) (j : Nat) (hj : j < L.length) (h : wsum L = wj L j) : (tf L k).1 (nm L j) = 0 := by
  obtain ⟨h1, _⟩ := tf_is hnd (by omega) k
  have hlen : L.length = 1 := by
    rcases Nat.lt_or_ge 1 L.length with hl | hl
    · exfalso
      have hs : sm (fun i => wj L i + if i = j then -wj L j else 0) L.length = 0 := by
        rw [sm_add (wj L), sm_one, if_pos hj]
        show wsum L + -wj L j = 0
        omega
      have hz := sm_zero L.length (fun i hi => by have := wj_lo L i; show 0 ≤ wj L i + if i = j then -wj L j else 0; split; (· rename_i e; subst e; omega); omega) hs
      by_cases h0 : j = 0
      · have := hz 1 hl
        rw [if_neg (by omega)] at this
        have := wj_lo L 1
        omega
      · have := hz 0 (by omega)
        rw [if_neg (by omega)] at this
        have := wj_lo L 0
        omega
    · omega
  obtain rfl : j = 0 := by omega
  rw [hlen] at h1
  simp only [sm] at h1
  omega
end Go.Proofs.Ytlmppdpjjkdoaaa.Rot
