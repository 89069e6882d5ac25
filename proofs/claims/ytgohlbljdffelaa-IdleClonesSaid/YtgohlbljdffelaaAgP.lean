/- agenda: what is to be done, as a sorted list of keys, ticks and turns. Plain Lean; own work of this seat. -/
import Derived.Test.YtgohlbljdffelaaHeapP
namespace Go.Proofs.Ytgohlbljdffelaa.AgP
set_option linter.unusedVariables false
structure Ev (κ : Type) where
  key : κ
  tm : Int
  turn : Int
section
variable {κ : Type}
def ltE (a b : Ev κ) : Prop := a.tm < b.tm ∨ (a.tm = b.tm ∧ a.turn < b.turn)
def Sorted (L : List (Ev κ)) : Prop := L.Pairwise ltE
def insL (L : List (Ev κ)) (e : Ev κ) : List (Ev κ) := L.takeWhile (fun s => decide (s.tm ≤ e.tm)) ++ e :: L.dropWhile (fun s => decide (s.tm ≤ e.tm))
theorem ltE_tr {a b c : Ev κ} (h : ltE a b) (k : ltE b c) : ltE a c := by unfold ltE at *; omega
theorem mem_tw {α : Type} (p : α → Bool) : ∀ (l : List α) (x : α), x ∈ l.takeWhile p → p x = true
  | [], x, h => by simp at h
  | y :: l, x, h => by
    rw [List.takeWhile_cons] at h
    split at h
    · rcases List.mem_cons.1 h with rfl | h
      · assumption
      · exact mem_tw p l x h
    · simp at h
theorem dw_head {L : List (Ev κ)} (hs : Sorted L) (n : Int) : ∀ s ∈ L.dropWhile (fun s => decide (s.tm ≤ n)), n < s.tm := by
  induction L with
  | nil => intro s h; simp at h
  | cons y L ih =>
    intro s h
    rw [List.dropWhile_cons] at h
    have hs' := List.pairwise_cons.1 hs
    split at h
    · exact ih hs'.2 s h
    · rename_i hy
      have hy' : ¬ y.tm ≤ n := by simpa using hy
      rcases List.mem_cons.1 h with rfl | h
      · omega
      · have := hs'.1 s h
        unfold ltE at this
        omega
theorem perm_ins (L : List (Ev κ)) (e : Ev κ) : (insL L e).Perm (e :: L) := by
  unfold insL
  refine List.perm_middle.trans ?_
  rw [List.takeWhile_append_dropWhile]
theorem sorted_ins {L : List (Ev κ)} {e : Ev κ} (h : Sorted L) (hn : ∀ s ∈ L, s.turn < e.turn) : Sorted (insL L e) := by
  unfold insL Sorted
  have hsub := h
  have e1 := List.takeWhile_append_dropWhile (p := fun s : Ev κ => decide (s.tm ≤ e.tm)) (l := L)
  unfold Sorted at hsub
  rw [← e1, List.pairwise_append] at hsub
  have ht : ∀ s ∈ L.takeWhile (fun s => decide (s.tm ≤ e.tm)), ltE s e := fun s hs => by
    have h1 : s.tm ≤ e.tm := by simpa using mem_tw _ _ _ hs
    have h2 := hn s (((List.takeWhile_sublist _).mem hs))
    unfold ltE; omega
  have hd : ∀ s ∈ L.dropWhile (fun s => decide (s.tm ≤ e.tm)), ltE e s := fun s hs => by
    have := dw_head h e.tm s hs
    unfold ltE; omega
  rw [List.pairwise_append]
  refine ⟨hsub.1, List.pairwise_cons.2 ⟨hd, hsub.2.1⟩, fun x hx y hy => ?_⟩
  rcases List.mem_cons.1 hy with rfl | hy
  · exact ht x hx
  · exact hsub.2.2 x hx y hy
/-- The head of a sorted list is what is the least. -/
theorem head_least {L : List (Ev κ)} {s : Ev κ} (h : Sorted L) {r : List (Ev κ)} (hp : (s :: r).Perm L) (hm : ∀ x ∈ L, ¬ ltE x s) : ∃ L', L = s :: L' ∧ r.Perm L' := by
  cases L with
  | nil => simp at hp
  | cons y L =>
    have hs' := List.pairwise_cons.1 h
    have hmem : s ∈ y :: L := hp.mem_iff.1 (List.mem_cons_self ..)
    rcases List.mem_cons.1 hmem with rfl | hin
    · exact ⟨L, rfl, (List.perm_cons _).1 hp⟩
    · exact absurd (hs'.1 s hin) (hm y (List.mem_cons_self ..))
end
section
variable {κ : Type} [DecidableEq κ]
def dropL (L : List (Ev κ)) (k : κ) : List (Ev κ) := L.filter (fun s => decide (s.key ≠ k))
def setL (L : List (Ev κ)) (k : κ) (n turn : Int) : List (Ev κ) := insL (dropL L k) ⟨k, n, turn⟩
def atL (L : List (Ev κ)) (k : κ) : Option (Ev κ) := L.find? (fun s => decide (s.key = k))
theorem sorted_drop {L : List (Ev κ)} (h : Sorted L) (k : κ) : Sorted (dropL L k) := h.filter _
theorem mem_drop {L : List (Ev κ)} {k : κ} {s : Ev κ} : s ∈ dropL L k ↔ s ∈ L ∧ s.key ≠ k := by simp [dropL]
theorem perm_set (L : List (Ev κ)) (k : κ) (n turn : Int) : (setL L k n turn).Perm (⟨k, n, turn⟩ :: dropL L k) := perm_ins _ _
theorem sorted_set {L : List (Ev κ)} (h : Sorted L) (k : κ) (n : Int) {turn : Int} (hn : ∀ s ∈ L, s.turn < turn) : Sorted (setL L k n turn) :=
  sorted_ins (sorted_drop h k) (fun s hs => hn s (mem_drop.1 hs).1)
theorem mem_set {L : List (Ev κ)} {k : κ} {n turn : Int} {s : Ev κ} : s ∈ setL L k n turn ↔ s = ⟨k, n, turn⟩ ∨ (s ∈ L ∧ s.key ≠ k) := by
  rw [(perm_set L k n turn).mem_iff, List.mem_cons, mem_drop]
theorem length_set_le (L : List (Ev κ)) (k : κ) (n turn : Int) : (setL L k n turn).length ≤ L.length + 1 := by
  rw [(perm_set L k n turn).length_eq, List.length_cons]
  have := List.length_filter_le (fun s : Ev κ => decide (s.key ≠ k)) L
  unfold dropL
  omega
/-- Taken out by its key. -/
theorem perm_drop {L R : List (Ev κ)} {s : Ev κ} (hk : (L.map (·.key)).Nodup) (hp : (s :: R).Perm L) : R.Perm (dropL L s.key) := by
  have h1 := (hp.map (·.key)).nodup_iff.2 hk
  rw [List.map_cons, List.nodup_cons] at h1
  have h2 : (dropL (s :: R) s.key).Perm (dropL L s.key) := hp.filter _
  have h3 : dropL (s :: R) s.key = R := by
    unfold dropL
    rw [List.filter_cons_of_neg (by simp)]
    rw [List.filter_eq_self]
    intro a ha
    simp only [decide_eq_true_eq]
    intro e
    exact h1.1 (e ▸ List.mem_map_of_mem ha)
  rw [h3] at h2
  exact h2
theorem drop_none {L : List (Ev κ)} {k : κ} (h : ∀ s ∈ L, s.key ≠ k) : dropL L k = L := by
  unfold dropL
  rw [List.filter_eq_self]
  intro a ha
  simp only [decide_eq_true_eq]
  exact h a ha
theorem nodup_set {L : List (Ev κ)} (k : κ) (n turn : Int) (h : (L.map (·.key)).Nodup) : ((setL L k n turn).map (·.key)).Nodup := by
  rw [((perm_set L k n turn).map (·.key)).nodup_iff, List.map_cons, List.nodup_cons]
  refine ⟨fun hm => ?_, h.sublist ((List.filter_sublist).map _)⟩
  obtain ⟨s, hs, e⟩ := List.mem_map.1 hm
  exact (mem_drop.1 hs).2 e
theorem nodup_drop {L : List (Ev κ)} (k : κ) (h : (L.map (·.key)).Nodup) : ((dropL L k).map (·.key)).Nodup := h.sublist ((List.filter_sublist).map _)
end
end Go.Proofs.Ytgohlbljdffelaa.AgP
