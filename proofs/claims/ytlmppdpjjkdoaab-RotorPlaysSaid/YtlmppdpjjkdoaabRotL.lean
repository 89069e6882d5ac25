/- rotor: the document's Pick is the program's. Own work of this seat. -/
import Derived.Test.YtlmppdpjjkdoaabRotK
namespace Go.Proofs.Ytlmppdpjjkdoaab.Rot
open Go.RowKit Go.Proofs.Ytlmppdpjjkdoaab.Kit Go.Proofs.Ytlmppdpjjkdoaab.PRotorPlays
set_option linter.unusedVariables false
set_option linter.unusedSimpArgs false

section
variable {f : ByteArray → Int} {m : List (ByteArray × Int)}
theorem getD_at {k : Nat} (h : k < m.length) : m.getD k (⟨#[]⟩, 0) = m[k] := by simp [List.getD_eq_getElem?_getD, h]
theorem pks_succ (k : Nat) : pks f m (k + 1) = pstep (pks f m k) k (m.getD k (⟨#[]⟩, 0)) := rfl
theorem pks_agree (hnd : (m.map Prod.fst).Nodup) {i k : Nat} (hik : i < k) : ∀ (d : Nat), k + d ≤ m.length → ∀ (hi : i < m.length), (pks f m (k + d)).f (m[i]).1 = (pks f m k).f (m[i]).1
  | 0, _, _ => rfl
  | d + 1, hd, hi => by
    have ih := pks_agree hnd hik d (by omega) hi
    have hkd : k + d < m.length := by omega
    rw [show k + (d + 1) = (k + d) + 1 by omega, pks_succ, getD_at hkd]
    show upd (pks f m (k + d)).f (m[k + d]).1 _ (m[i]).1 = _
    have hne : (m[i]).1 ≠ (m[k + d]).1 := by
      intro e
      have h1 := List.pairwise_iff_getElem.1 hnd i (k + d) (by simpa using hi) (by simpa using hkd) (by omega)
      exact h1 (by simpa using e)
    rw [upd_other _ _ hne, ih]
theorem best_in : ∀ (k : Nat), 1 ≤ k → k ≤ m.length → ∃ i, ∃ h : i < m.length, i < k ∧ (pks f m k).best = (m[i]).1
  | 0, h1, _ => by omega
  | k + 1, _, h2 => by
    have hk : k < m.length := by omega
    rw [pks_succ, getD_at hk]
    unfold pstep
    simp only
    split
    · exact ⟨k, hk, by omega, rfl⟩
    · rename_i h
      have hk0 : 1 ≤ k := by
        rcases Nat.eq_zero_or_pos k with e | e
        · exact absurd (Or.inl e) h
        · exact e
      obtain ⟨i, hi, hik, e⟩ := best_in k hk0 (by omega)
      exact ⟨i, hi, by omega, e⟩
theorem bk_is (hnd : (m.map Prod.fst).Nodup) : ∀ (k : Nat), 1 ≤ k → k ≤ m.length → bk (pks f m m.length).f m k = (pks f m k).best
  | 0, h1, _ => by omega
  | k + 1, _, h2 => by
    have hk : k < m.length := by omega
    have hF : ∀ i (hi : i < m.length), i < k + 1 → (pks f m m.length).f (m[i]).1 = (pks f m (k + 1)).f (m[i]).1 := fun i hi hik => by
      have := pks_agree (f := f) hnd hik (m.length - (k + 1)) (by omega) hi
      rwa [show k + 1 + (m.length - (k + 1)) = m.length by omega] at this
    have hmk := hF k hk (by omega)
    have hval : (pks f m (k + 1)).f (m[k]).1 = (pks f m k).f (m[k]).1 + wt (m[k]).2 := by
      rw [pks_succ, getD_at hk]
      exact upd_same _ _ _
    show (if (pks f m m.length).f (m.getD k (⟨#[]⟩, 0)).1 > (pks f m m.length).f (bk (pks f m m.length).f m k) then (m.getD k (⟨#[]⟩, 0)).1 else bk (pks f m m.length).f m k) = _
    rw [getD_at hk]
    rcases Nat.eq_zero_or_pos k with e | e
    · subst e
      have hb0 : bk (pks f m m.length).f m 0 = (m[0]).1 := by
        show (m.getD 0 (⟨#[]⟩, 0)).1 = _
        rw [getD_at hk]
      rw [hb0, if_neg (by omega), pks_succ, getD_at hk]
      simp [pstep]
    · have ih := bk_is hnd k e (by omega)
      obtain ⟨i, hi, hik, hb⟩ := best_in (f := f) (m := m) k e (by omega)
      have hbF := hF i hi (by omega)
      rw [ih, hmk, hval, hb, hbF, ← hb]
      rw [pks_succ, getD_at hk]
      unfold pstep
      simp only
      by_cases hc : (pks f m k).f (m[k]).1 + wt (m[k]).2 > upd (pks f m k).f (m[k]).1 ((pks f m k).f (m[k]).1 + wt (m[k]).2) (pks f m k).best
      · rw [if_pos hc, if_pos (Or.inr hc)]
      · rw [if_neg hc, if_neg (fun h => h.elim (by omega) hc)]
end

/-- The marks of the document are those of the program. -/
theorem ref_same {x : List S49} {f : ByteArray → Int} (hx : ofP x = f) {m : List (ByteArray × Int)} (hnd : (m.map Prod.fst).Nodup) (hm : m ≠ []) :
    bk (pks (ofP x) m m.length).f m m.length = pkn f m ∧ upd (pks (ofP x) m m.length).f (bk (pks (ofP x) m m.length).f m m.length) ((pks (ofP x) m m.length).f (bk (pks (ofP x) m m.length).f m m.length) - (pks (ofP x) m m.length).all) = pkf f m := by
  subst hx
  have h1 := bk_is (f := ofP x) hnd m.length (List.length_pos_iff.2 hm) (Nat.le_refl _)
  rw [h1]
  exact ⟨rfl, rfl⟩
end Go.Proofs.Ytlmppdpjjkdoaab.Rot
