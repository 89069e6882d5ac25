/- AgendaOrder: the list that is set and popped. Plain Lean; own work of this seat. -/
import Derived.Test.YtgohlbljdffelaaAct20
namespace Go.Proofs.Ytgohlbljdffelaa.Ord
open Go.Proofs.Ytgohlbljdffelaa.AgP Go.Proofs.Ytgohlbljdffelaa
set_option linter.unusedVariables false
set_option linter.unusedSimpArgs false

/-- The agenda behind n of them. -/
def ordL (ts : Nat → Int) : Nat → List (Ev Int)
  | 0 => []
  | n + 1 => setL (ordL ts n) (n : Int) (AgInt.clipT (ts n)) ((n + 1 : Nat) : Int)
theorem ord_mem (ts : Nat → Int) : ∀ (n : Nat) (s : Ev Int), s ∈ ordL ts n → ∃ i : Nat, i < n ∧ s = ⟨(i : Int), AgInt.clipT (ts i), ((i + 1 : Nat) : Int)⟩
  | 0, s, h => by simp [ordL] at h
  | n + 1, s, h => by
    rcases mem_set.1 h with rfl | ⟨h, _⟩
    · exact ⟨n, by omega, rfl⟩
    · obtain ⟨i, hi, e⟩ := ord_mem ts n s h
      exact ⟨i, by omega, e⟩
theorem ord_length (ts : Nat → Int) : ∀ n, (ordL ts n).length = n
  | 0 => rfl
  | n + 1 => by
    have h1 := (perm_set (ordL ts n) (n : Int) (AgInt.clipT (ts n)) ((n + 1 : Nat) : Int)).length_eq
    rw [List.length_cons, drop_none (fun s hs e => by
      obtain ⟨i, hi, rfl⟩ := ord_mem ts n s hs
      simp only at e
      omega), ord_length ts n] at h1
    exact h1
theorem clip_bd (x : Int) : 0 ≤ AgInt.clipT x ∧ AgInt.clipT x ≤ 1099511627776 := by unfold AgInt.clipT; omega
/-- What is left behind some Pops: behind (last, key). -/
structure Left (ts : Nat → Int) (n : Nat) (R : List (Ev Int)) (last key : Int) : Prop where
  so : Sorted R
  mem : ∀ s ∈ R, ∃ i : Nat, i < n ∧ s = ⟨(i : Int), AgInt.clipT (ts i), ((i + 1 : Nat) : Int)⟩
  beh : ∀ s ∈ R, last < s.tm ∨ (last = s.tm ∧ key < s.key)
theorem left_first {ts : Nat → Int} {n : Nat} (h : Sorted (ordL ts n)) : Left ts n (ordL ts n) (-1) (-1) :=
  ⟨h, fun s hs => ord_mem ts n s hs, fun s hs => by
    obtain ⟨i, _, rfl⟩ := ord_mem ts n s hs
    have := clip_bd (ts i)
    simp only
    omega⟩
theorem left_next {ts : Nat → Int} {n : Nat} {s : Ev Int} {R : List (Ev Int)} {last key : Int} (h : Left ts n (s :: R) last key) : ∃ i : Nat, i < n ∧ s.key = (i : Int) ∧ s.tm = AgInt.clipT (ts i) ∧ (last < s.tm ∨ (last = s.tm ∧ key < s.key)) ∧ Left ts n R s.tm s.key := by
  obtain ⟨i, hi, e⟩ := h.mem s (List.mem_cons_self ..)
  have hp := List.pairwise_cons.1 h.so
  refine ⟨i, hi, by rw [e], by rw [e], h.beh s (List.mem_cons_self ..), hp.2, fun r hr => h.mem r (List.mem_cons_of_mem _ hr), fun r hr => ?_⟩
  have h1 := hp.1 r hr
  obtain ⟨j, hj, e'⟩ := h.mem r (List.mem_cons_of_mem _ hr)
  unfold ltE at h1
  subst e e'
  simp only at h1 ⊢
  omega
end Go.Proofs.Ytgohlbljdffelaa.Ord
