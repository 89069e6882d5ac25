/- rotor: whose turn it is, in plain Lean: the marks' sum is 0, and no mark falls to the weights' sum below 0. Own work of this seat. -/
import Derived.Test.YtlmppdpjjkdoaaaRot4
namespace Go.Proofs.Ytlmppdpjjkdoaaa.Rot
open Go.Proofs.Ytlmppdpjjkdoaaa.Kit
set_option linter.unusedVariables false
set_option linter.unusedSimpArgs false

def sm (g : Nat → Int) : Nat → Int
  | 0 => 0
  | k + 1 => sm g k + g k
theorem sm_congr {g h : Nat → Int} : ∀ (k : Nat), (∀ j, j < k → g j = h j) → sm g k = sm h k
  | 0, _ => rfl
  | k + 1, e => by simp only [sm]; rw [sm_congr k (fun j hj => e j (by omega)), e k (by omega)]
theorem sm_add (g h : Nat → Int) : ∀ (k : Nat), sm (fun j => g j + h j) k = sm g k + sm h k
  | 0 => rfl
  | k + 1 => by simp only [sm]; rw [sm_add g h k]; omega
theorem sm_one (m : Nat) (d : Int) : ∀ (k : Nat), sm (fun j => if j = m then d else 0) k = if m < k then d else 0
  | 0 => by simp [sm]
  | k + 1 => by
    simp only [sm]
    rw [sm_one m d k]
    by_cases h : k = m
    · subst h; rw [if_neg (by omega), if_pos rfl, if_pos (by omega)]; omega
    · rw [if_neg h]
      by_cases h2 : m < k
      · rw [if_pos h2, if_pos (by omega)]; omega
      · rw [if_neg h2, if_neg (by omega)]; omega
theorem sm_le_zero {g : Nat → Int} : ∀ (k : Nat), (∀ j, j < k → g j ≤ 0) → sm g k ≤ 0
  | 0, _ => Int.le_refl _
  | k + 1, h => by
    have h1 := sm_le_zero k (fun j hj => h j (by omega))
    have h2 := h k (by omega)
    simp only [sm]; omega
theorem sm_ge_each {g : Nat → Int} : ∀ (k : Nat), (∀ j, j < k → 0 ≤ g j) → 0 ≤ sm g k ∧ ∀ j, j < k → g j ≤ sm g k
  | 0, _ => ⟨Int.le_refl _, fun j hj => by omega⟩
  | k + 1, h => by
    obtain ⟨h1, h2⟩ := sm_ge_each k (fun j hj => h j (by omega))
    have h3 := h k (by omega)
    simp only [sm]
    refine ⟨by omega, fun j hj => ?_⟩
    by_cases e : j = k
    · subst e; omega
    · have := h2 j (by omega); omega
theorem sm_zero {g : Nat → Int} (k : Nat) (h : ∀ j, j < k → 0 ≤ g j) (h0 : sm g k = 0) : ∀ j, j < k → g j = 0 := fun j hj => by
  have h1 := (sm_ge_each k h).2 j hj
  have h2 := h j hj
  omega
theorem sm_mul (g : Nat → Int) (c : Int) : ∀ (k : Nat), sm (fun j => c * g j) k = c * sm g k
  | 0 => by simp [sm]
  | k + 1 => by simp only [sm]; rw [sm_mul g c k, Int.mul_add]

def at' (L : List (ByteArray × Int)) (j : Nat) : ByteArray × Int := L.getD j (⟨#[]⟩, 0)
def nm (L : List (ByteArray × Int)) (j : Nat) : ByteArray := (at' L j).1
def wj (L : List (ByteArray × Int)) (j : Nat) : Int := wt (at' L j).2
def wsum (L : List (ByteArray × Int)) : Int := sm (wj L) L.length
theorem wj_lo (L : List (ByteArray × Int)) (j : Nat) : 1 ≤ wj L j := wt_lo _
theorem at_eq {L : List (ByteArray × Int)} {j : Nat} (h : j < L.length) : at' L j = L[j] := by simp [at', List.getD_eq_getElem?_getD, h]
theorem nm_ne {L : List (ByteArray × Int)} (hnd : (L.map Prod.fst).Nodup) {i j : Nat} (hi : i < L.length) (hj : j < L.length) (h : i ≠ j) : nm L i ≠ nm L j := by
  unfold nm
  rw [at_eq hi, at_eq hj]
  rw [List.Nodup, List.pairwise_iff_getElem] at hnd
  rcases Nat.lt_or_gt_of_ne h with h | h
  · have := hnd i j (by simpa using hi) (by simpa using hj) h
    simpa using this
  · have := hnd j i (by simpa using hj) (by simpa using hi) h
    exact fun e => this (by simpa using e.symm)

/-- Where Pick is behind k entries. -/
theorem pks_is (f : ByteArray → Int) {L : List (ByteArray × Int)} (hnd : (L.map Prod.fst).Nodup) : ∀ (k : Nat), k ≤ L.length →
    (∀ j, j < L.length → (pks f L k).f (nm L j) = f (nm L j) + if j < k then wj L j else 0) ∧ (pks f L k).all = sm (wj L) k ∧
    (0 < k → ∃ m, m < k ∧ (pks f L k).best = nm L m ∧ ∀ j, j < k → (pks f L k).f (nm L j) ≤ (pks f L k).f (nm L m))
  | 0, _ => ⟨fun j hj => by simp [pks], rfl, fun h => by omega⟩
  | k + 1, hk => by
    obtain ⟨h1, h2, h3⟩ := pks_is f hnd k (by omega)
    have hke : pks f L (k + 1) = pstep (pks f L k) k (at' L k) := rfl
    rw [hke]
    generalize pks f L k = q at *
    obtain ⟨fq, al, bs⟩ := q
    simp only at h1 h2 h3
    have e0 : fq (nm L k) = f (nm L k) := by
      have := h1 k (by omega)
      rw [if_neg (by omega), Int.add_zero] at this
      exact this
    have ew : wt (at' L k).2 = wj L k := rfl
    have en : (at' L k).1 = nm L k := rfl
    have g1 : ∀ j, j < L.length → upd fq (nm L k) (f (nm L k) + wj L k) (nm L j) = f (nm L j) + if j < k + 1 then wj L j else 0 := fun j hj => by
      by_cases e : j = k
      · subst e; rw [upd_same, if_pos (by omega)]
      · rw [upd_other _ _ (nm_ne hnd hj (by omega) e), h1 j hj]
        by_cases hjk : j < k
        · rw [if_pos hjk, if_pos (by omega)]
        · rw [if_neg hjk, if_neg (by omega)]
    unfold pstep
    simp only [ew, en, e0]
    refine ⟨g1, by simp only [sm]; rw [h2], fun _ => ?_⟩
    by_cases hb : k = 0 ∨ f (nm L k) + wj L k > upd fq (nm L k) (f (nm L k) + wj L k) bs
    · rw [if_pos hb]
      refine ⟨k, by omega, rfl, fun j hj => ?_⟩
      by_cases e : j = k
      · subst e; exact Int.le_refl _
      · rcases hb with hb | hb
        · omega
        · obtain ⟨m, hm, hbm, hmax⟩ := h3 (by omega)
          subst hbm
          rw [upd_other _ _ (nm_ne hnd (by omega) (by omega) (by omega))] at hb
          rw [upd_same, upd_other _ _ (nm_ne hnd (by omega) (by omega) e)]
          have := hmax j (by omega)
          omega
    · rw [if_neg hb]
      obtain ⟨m, hm, hbm, hmax⟩ := h3 (by omega)
      subst hbm
      refine ⟨m, by omega, rfl, fun j hj => ?_⟩
      have hm' : upd fq (nm L k) (f (nm L k) + wj L k) (nm L m) = fq (nm L m) := upd_other _ _ (nm_ne hnd (by omega) (by omega) (by omega))
      rw [hm'] at hb ⊢
      by_cases e : j = k
      · subst e; rw [upd_same]; omega
      · rw [upd_other _ _ (nm_ne hnd (by omega) (by omega) e)]
        exact hmax j (by omega)

/-- One turn. -/
theorem turn (f : ByteArray → Int) {L : List (ByteArray × Int)} (hnd : (L.map Prod.fst).Nodup) (hn : 0 < L.length) (h1 : sm (fun j => f (nm L j)) L.length = 0) (h2 : ∀ j, j < L.length → -wsum L < f (nm L j)) :
    ∃ m, m < L.length ∧ pkn f L = nm L m ∧ (∀ j, j < L.length → pkf f L (nm L j) = f (nm L j) + wj L j - if j = m then wsum L else 0) ∧ (∀ j, j < L.length → -wsum L < pkf f L (nm L j)) ∧ sm (fun j => pkf f L (nm L j)) L.length = 0 := by
  obtain ⟨p1, p2, p3⟩ := pks_is f hnd L.length (Nat.le_refl _)
  obtain ⟨m, hm, hbm, hmax⟩ := p3 hn
  have q1 : ∀ j, j < L.length → (pks f L L.length).f (nm L j) = f (nm L j) + wj L j := fun j hj => by rw [p1 j hj, if_pos hj]
  have hf : ∀ j, j < L.length → pkf f L (nm L j) = f (nm L j) + wj L j - if j = m then wsum L else 0 := fun j hj => by
    unfold pkf
    rw [hbm, p2]
    by_cases e : j = m
    · subst e; rw [upd_same, q1 j hj, if_pos rfl]; rfl
    · rw [upd_other _ _ (nm_ne hnd hj hm e), q1 j hj, if_neg e]; omega
  have hpos : 0 < f (nm L m) + wj L m := by
    rcases Int.lt_or_le 0 (f (nm L m) + wj L m) with h | h
    · exact h
    · exfalso
      have hle := sm_le_zero (g := fun j => f (nm L j) + wj L j) L.length (fun j hj => by
        have := hmax j hj
        rw [q1 j hj, q1 m hm] at this
        omega)
      rw [sm_add (fun j => f (nm L j)) (wj L), h1] at hle
      have := (sm_ge_each L.length (fun j _ => by have := wj_lo L j; omega : ∀ j, j < L.length → 0 ≤ wj L j)).2 m hm
      have := wj_lo L m
      omega
  refine ⟨m, hm, hbm, hf, fun j hj => ?_, ?_⟩
  · rw [hf j hj]
    by_cases e : j = m
    · subst e; rw [if_pos rfl]; omega
    · rw [if_neg e]
      have := h2 j hj
      have := wj_lo L j
      omega
  · rw [sm_congr L.length hf]
    have e : (fun j => f (nm L j) + wj L j - if j = m then wsum L else 0) = fun j => (f (nm L j) + wj L j) + if j = m then -wsum L else 0 := by
      funext j; split <;> omega
    rw [e, sm_add (fun j => f (nm L j) + wj L j), sm_add (fun j => f (nm L j)) (wj L), h1, sm_one, if_pos hm]
    show 0 + wsum L + -wsum L = 0
    omega

/-- Behind k turns: the marks, and who had how many. -/
def tf (L : List (ByteArray × Int)) : Nat → (ByteArray → Int) × (ByteArray → Int)
  | 0 => (fun _ => 0, fun _ => 0)
  | k + 1 => (pkf (tf L k).1 L, upd (tf L k).2 (pkn (tf L k).1 L) ((tf L k).2 (pkn (tf L k).1 L) + 1))
theorem tf_is {L : List (ByteArray × Int)} (hnd : (L.map Prod.fst).Nodup) (hn : 0 < L.length) : ∀ (k : Nat),
    sm (fun j => (tf L k).1 (nm L j)) L.length = 0 ∧ (∀ j, j < L.length → -wsum L < (tf L k).1 (nm L j)) ∧ (∀ j, j < L.length → (tf L k).1 (nm L j) = (k : Int) * wj L j - (tf L k).2 (nm L j) * wsum L) ∧ (∀ s, 0 ≤ (tf L k).2 s ∧ (tf L k).2 s ≤ k)
  | 0 => by
    have hw : 1 ≤ wsum L := by
      have := (sm_ge_each L.length (fun j _ => by have := wj_lo L j; omega : ∀ j, j < L.length → 0 ≤ wj L j)).2 0 hn
      have := wj_lo L 0
      unfold wsum; omega
    refine ⟨?_, fun j hj => by simp [tf]; omega, fun j hj => by simp [tf], fun s => by simp [tf]⟩
    have := sm_le_zero (g := fun j => (tf L 0).1 (nm L j)) L.length (fun j hj => by simp [tf])
    have := (sm_ge_each (g := fun j => (tf L 0).1 (nm L j)) L.length (fun j hj => by simp [tf])).1
    omega
  | k + 1 => by
    obtain ⟨h1, h2, h3, h4⟩ := tf_is hnd hn k
    obtain ⟨m, hm, hb, hf, hlo, hs⟩ := turn (tf L k).1 hnd hn h1 h2
    refine ⟨hs, hlo, fun j hj => ?_, fun s => ?_⟩
    · show pkf (tf L k).1 L (nm L j) = ((k + 1 : Nat) : Int) * wj L j - upd (tf L k).2 (pkn (tf L k).1 L) ((tf L k).2 (pkn (tf L k).1 L) + 1) (nm L j) * wsum L
      rw [hf j hj, h3 j hj, hb]
      have e1 : ((k + 1 : Nat) : Int) * wj L j = (k : Int) * wj L j + wj L j := by rw [Int.natCast_add, Int.add_mul]; omega
      by_cases e : j = m
      · subst e
        rw [if_pos rfl, upd_same, Int.add_mul, e1]; omega
      · rw [if_neg e, upd_other _ _ (nm_ne hnd hj hm e), e1]; omega
    · show 0 ≤ upd (tf L k).2 _ _ s ∧ _
      have := h4 (pkn (tf L k).1 L)
      have := h4 s
      unfold upd
      show 0 ≤ (if s = pkn (tf L k).1 L then (tf L k).2 (pkn (tf L k).1 L) + 1 else (tf L k).2 s) ∧ (if s = pkn (tf L k).1 L then (tf L k).2 (pkn (tf L k).1 L) + 1 else (tf L k).2 s) ≤ _
      split <;> omega
theorem tf_bd {L : List (ByteArray × Int)} (hsh : Short L) (hl : L.length ≤ 6) : ∀ (k : Nat), Bd (786420 * (k : Int)) (tf L k).1
  | 0 => fun s => by simp [tf]
  | k + 1 => fun s => by
    have h := pkf_bd (tf_bd hsh hl k) (by omega) L hsh s
    show -(786420 * ((k + 1 : Nat) : Int)) ≤ pkf (tf L k).1 L s ∧ pkf (tf L k).1 L s ≤ _
    have : (L.length : Int) ≤ 6 := by omega
    omega
end Go.Proofs.Ytlmppdpjjkdoaaa.Rot
