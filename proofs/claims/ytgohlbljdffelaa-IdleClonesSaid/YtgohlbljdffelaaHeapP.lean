/- Heaps as functions: what a swap of a parent and its child, up and down, leaves of the order. Plain Lean; own work of this seat. -/
import Derived.Test.YtgohlbljdffelaaKit
namespace Go.Proofs.Ytgohlbljdffelaa.HeapP
set_option linter.unusedVariables false
def par (k : Nat) : Nat := (k - 1) / 2
section
variable {α : Type} (le : α → α → Prop)
def Bad1 (g : Nat → α) (p n : Nat) : Prop :=
  (∀ k, 0 < k → k < n → k ≠ p → par k ≠ p → le (g (par k)) (g k)) ∧ (∀ k, 0 < k → k < n → par k = p → 0 < p → le (g (par p)) (g k))
def KidsOk (g : Nat → α) (p n : Nat) : Prop := ∀ k, 0 < k → k < n → par k = p → le (g p) (g k)
def HeapG (g : Nat → α) (n : Nat) : Prop := ∀ k, 0 < k → k < n → le (g (par k)) (g k)
def swp (g : Nat → α) (i j : Nat) : Nat → α := fun k => if k = i then g j else if k = j then g i else g k
def Tr : Prop := ∀ a b c, le a b → le b c → le a c
variable {le}
theorem par_lt {k : Nat} (h : 0 < k) : par k < k := by unfold par; omega
theorem swp_l (g : Nat → α) (i j : Nat) : swp g i j i = g j := by simp [swp]
theorem swp_r (g : Nat → α) (i j : Nat) : swp g i j j = g i := by
  unfold swp
  by_cases h : j = i
  · subst h; simp
  · simp [h]
theorem swp_o (g : Nat → α) {i j k : Nat} (h1 : k ≠ i) (h2 : k ≠ j) : swp g i j k = g k := by simp [swp, h1, h2]
theorem stop {g : Nat → α} {j n : Nat} (hb : Bad1 le g j n) (hk : KidsOk le g j n) (hp : 0 < j → le (g (par j)) (g j)) : HeapG le g n := by
  intro k h0 h1
  by_cases e : k = j
  · subst e; exact hp h0
  · by_cases e2 : par k = j
    · have := hk k h0 h1 e2
      rw [e2]; exact this
    · exact hb.1 k h0 h1 e e2
theorem up_step (tr : Tr le) {g : Nat → α} {j n : Nat} (h0 : 0 < j) (hj : j < n) (hb : Bad1 le g j n) (hk : KidsOk le g j n) (hl : le (g j) (g (par j))) : Bad1 le (swp g (par j) j) (par j) n ∧ KidsOk le (swp g (par j) j) (par j) n := by
  have hpj := par_lt h0
  have hup : 0 < par j → le (g (par (par j))) (g (par j)) := fun h => by
    have := par_lt h
    exact hb.1 (par j) h (by omega) (by omega) (by omega)
  refine ⟨⟨fun k k0 k1 k2 k3 => ?_, fun k k0 k1 k2 k3 => ?_⟩, fun k k0 k1 k2 => ?_⟩
  · have hkj : k ≠ j := fun e => k3 (by rw [e])
    rw [swp_o g k2 hkj]
    by_cases e : par k = j
    · rw [e, swp_r]
      exact hb.2 k k0 k1 e h0
    · rw [swp_o g k3 e]
      exact hb.1 k k0 k1 hkj e
  · have h1 := par_lt k3
    rw [swp_o g (by omega : par (par j) ≠ par j) (by omega)]
    by_cases e : k = j
    · subst e
      rw [swp_r]; exact hup k3
    · have := par_lt k0
      rw [swp_o g (by omega) e]
      refine tr _ _ _ (hup k3) ?_
      have := hb.1 k k0 k1 e (by omega)
      rwa [k2] at this
  · rw [swp_l]
    by_cases e : k = j
    · subst e
      rw [swp_r]; exact hl
    · have h1 := par_lt k0
      rw [swp_o g (by omega) e]
      refine tr _ _ _ hl ?_
      have := hb.1 k k0 k1 e (by omega)
      rwa [k2] at this
theorem dn_step {g : Nat → α} {i j n : Nat} (h0 : 0 < j) (hj : j < n) (hp : par j = i) (hb : Bad1 le g i n) (hl : le (g j) (g i)) (hm : KidsOk le (fun k => if k = i then g j else g k) i n) :
    Bad1 le (swp g i j) j n ∧ (0 < j → le (swp g i j (par j)) (swp g i j j)) := by
  have hij : i < j := by have := par_lt h0; omega
  refine ⟨⟨fun k k0 k1 k2 k3 => ?_, fun k k0 k1 k2 k3 => ?_⟩, fun _ => ?_⟩
  · by_cases e : k = i
    · subst e
      have h1 := par_lt k0
      rw [swp_o g (by omega) k3, swp_l]
      exact hb.2 j h0 hj hp k0
    · rw [swp_o g e k2]
      by_cases e2 : par k = i
      · rw [e2, swp_l]
        have := hm k k0 k1 e2
        simpa [e] using this
      · rw [swp_o g e2 k3]
        exact hb.1 k k0 k1 e e2
  · have h1 := par_lt k0
    rw [hp, swp_l, swp_o g (by omega) (by omega)]
    have := hb.1 k k0 k1 (by omega) (by omega)
    rwa [k2] at this
  · rw [hp, swp_l, swp_r]
    exact hl
theorem push_bad {g g' : Nat → α} {n : Nat} (h : HeapG le g n) (e : ∀ k, k < n → g' k = g k) : Bad1 le g' n (n + 1) ∧ KidsOk le g' n (n + 1) := by
  refine ⟨⟨fun k k0 k1 k2 k3 => ?_, fun k k0 k1 k2 k3 => ?_⟩, fun k k0 k1 k2 => ?_⟩
  · have := par_lt k0
    rw [e _ (by omega), e _ (by omega)]
    exact h k k0 (by omega)
  · have := par_lt k0; omega
  · have := par_lt k0; omega
theorem remove_bad (tr : Tr le) {g : Nat → α} {i n : Nat} (hi : i < n) (h : HeapG le g (n + 1)) : Bad1 le (swp g i n) i n := by
  refine ⟨fun k k0 k1 k2 k3 => ?_, fun k k0 k1 k2 k3 => ?_⟩
  · have := par_lt k0
    rw [swp_o g k2 (by omega), swp_o g k3 (by omega)]
    exact h k k0 (by omega)
  · have h1 := par_lt k0
    have h2 := par_lt k3
    rw [swp_o g (by omega : k ≠ i) (by omega), swp_o g (by omega : par i ≠ i) (by omega)]
    refine tr _ _ _ (h i k3 (by omega)) ?_
    have := h k k0 (by omega)
    rwa [k2] at this
theorem fix_bad (tr : Tr le) {g g' : Nat → α} {p n : Nat} (h : HeapG le g n) (e : ∀ k, k ≠ p → g' k = g k) : Bad1 le g' p n := by
  refine ⟨fun k k0 k1 k2 k3 => ?_, fun k k0 k1 k2 k3 => ?_⟩
  · rw [e k k2, e _ k3]
    exact h k k0 k1
  · have h1 := par_lt k0
    have h2 := par_lt k3
    rw [e k (by omega), e _ (by omega : par p ≠ p)]
    refine tr _ _ _ (h p k3 (by omega)) ?_
    have := h k k0 (by omega)
    rwa [k2] at this
theorem shrink {g : Nat → α} {n m : Nat} (h : HeapG le g n) (hm : m ≤ n) : HeapG le g m := fun k k0 k1 => h k k0 (by omega)
theorem heap_ext {g g' : Nat → α} {n : Nat} (h : HeapG le g n) (e : ∀ k, k < n → g' k = g k) : HeapG le g' n := fun k k0 k1 => by
  have := par_lt k0
  rw [e k k1, e _ (by omega)]; exact h k k0 k1
theorem heap_min (tr : Tr le) (rf : ∀ a, le a a) {g : Nat → α} {n : Nat} (h : HeapG le g n) : ∀ k, k < n → le (g 0) (g k) := by
  intro k
  induction k using Nat.strongRecOn with
  | ind k ih =>
    intro hk
    by_cases e : k = 0
    · subst e; exact rf _
    · have h0 : 0 < k := by omega
      have := par_lt h0
      exact tr _ _ _ (ih (par k) this (by omega)) (h k h0 hk)
end

section
variable {α : Type} [Inhabited α]
def lg (xs : List α) : Nat → α := fun k => xs.getD k default
def sw (xs : List α) (i j : Nat) : List α := (xs.set i (lg xs j)).set j (lg xs i)
theorem lg_get {xs : List α} {k : Nat} (h : k < xs.length) : lg xs k = xs[k] := by
  unfold lg; rw [List.getD_eq_getElem?_getD, List.getElem?_eq_getElem h]; rfl
theorem lg_some {xs : List α} {k : Nat} {x : α} (h : xs[k]? = some x) : lg xs k = x := by
  unfold lg; rw [List.getD_eq_getElem?_getD, h]; rfl
theorem get_lg {xs : List α} {k : Nat} (h : k < xs.length) : xs[k]? = some (lg xs k) := by rw [lg_get h, List.getElem?_eq_getElem h]
theorem sw_length (xs : List α) (i j : Nat) : (sw xs i j).length = xs.length := by simp [sw]
theorem lg_sw {xs : List α} {i j : Nat} (hi : i < xs.length) (hj : j < xs.length) : lg (sw xs i j) = swp (lg xs) i j := by
  funext k
  unfold swp
  by_cases e1 : k = i
  · subst e1
    rw [if_pos rfl]
    apply lg_some
    unfold sw
    rw [List.getElem?_set]
    by_cases e : j = k
    · subst e; simp [hj]
    · rw [if_neg e, List.getElem?_set_self hi]
  · rw [if_neg e1]
    by_cases e2 : k = j
    · subst e2
      rw [if_pos rfl]
      apply lg_some
      unfold sw
      rw [List.getElem?_set_self (by simpa using hj)]
    · rw [if_neg e2]
      unfold sw lg
      rw [List.getD_eq_getElem?_getD, List.getElem?_set_ne (fun h => e2 h.symm), List.getElem?_set_ne (fun h => e1 h.symm), ← List.getD_eq_getElem?_getD]
theorem sw_get {xs : List α} {i j k : Nat} (hi : i < xs.length) (hj : j < xs.length) (hk : k < xs.length) : (sw xs i j)[k]? = some (swp (lg xs) i j k) := by
  rw [get_lg (by rw [sw_length]; exact hk), lg_sw hi hj]
theorem sw_perm {xs : List α} {i j : Nat} (hi : i < xs.length) (hj : j < xs.length) : (sw xs i j).Perm xs := by
  unfold sw
  rw [lg_get hi, lg_get hj]
  exact List.set_set_perm hi hj
theorem sw_self {xs : List α} {i : Nat} (hi : i < xs.length) : sw xs i i = xs := by
  apply List.ext_getElem?
  intro k
  by_cases hk : k < xs.length
  · rw [sw_get hi hi hk, get_lg hk]
    unfold swp
    split
    · rename_i h; rw [h]
    · rfl
  · rw [List.getElem?_eq_none (by rw [sw_length]; omega), List.getElem?_eq_none (by omega)]
end
end Go.Proofs.Ytgohlbljdffelaa.HeapP
