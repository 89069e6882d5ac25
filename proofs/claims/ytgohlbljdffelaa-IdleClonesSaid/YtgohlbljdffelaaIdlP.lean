/- idle: connections that wait, as a list in the order in which they were put. Plain Lean; own work of this seat. -/
import Derived.Test.YtgohlbljdffelaaAgTInt
import Derived.Test.YtgohlbljdffelaaIntD
namespace Go.Proofs.Ytgohlbljdffelaa.Idl
open Go.Proofs.Ytgohlbljdffelaa.Kit Go.Proofs.Ytgohlbljdffelaa.AgP Go.Proofs.Ytgohlbljdffelaa.IntS Go.Proofs.Ytgohlbljdffelaa
set_option linter.unusedVariables false
set_option linter.unusedSimpArgs false

structure On where
  nm : ByteArray
  conn : Int
  tm : Int
  turn : Int
def stackOf (l : List On) (s : ByteArray) : List Int := (l.filter (fun o => decide (o.nm = s))).map (·.conn)
def ownF (l : List On) (c : Int) : Option ByteArray := (l.find? (fun o => decide (o.conn = c))).map (·.nm)
def dropC (l : List On) (c : Int) : List On := l.filter (fun o => decide (o.conn ≠ c))
def evs (l : List On) : List (Ev Int) := l.map (fun o => ⟨o.conn, o.tm, o.turn⟩)
theorem stack_append (l r : List On) (s : ByteArray) : stackOf (l ++ r) s = stackOf l s ++ stackOf r s := by simp [stackOf]
theorem stack_mem {l : List On} {s : ByteArray} {c : Int} : c ∈ stackOf l s ↔ ∃ o ∈ l, o.nm = s ∧ o.conn = c := by
  unfold stackOf
  simp only [List.mem_map, List.mem_filter, decide_eq_true_eq]
  constructor
  · rintro ⟨o, ⟨h1, h2⟩, h3⟩; exact ⟨o, h1, h2, h3⟩
  · rintro ⟨o, h1, h2, h3⟩; exact ⟨o, ⟨h1, h2⟩, h3⟩
theorem stack_drop (l : List On) (c : Int) (s : ByteArray) : stackOf (dropC l c) s = without c (stackOf l s) := by
  unfold stackOf dropC without
  induction l with
  | nil => rfl
  | cons o l ih =>
    by_cases h1 : o.conn = c
    · by_cases h2 : o.nm = s
      · simp [List.filter_cons, h1, h2] at ih ⊢; exact ih
      · simp [List.filter_cons, h1, h2] at ih ⊢; exact ih
    · by_cases h2 : o.nm = s
      · simp [List.filter_cons, h1, h2] at ih ⊢; exact ih
      · simp [List.filter_cons, h1, h2] at ih ⊢; exact ih
theorem mem_dropC {l : List On} {c : Int} {o : On} : o ∈ dropC l c ↔ o ∈ l ∧ o.conn ≠ c := by simp [dropC]
theorem own_some {l : List On} (hn : (l.map (·.conn)).Nodup) {o : On} (ho : o ∈ l) : ownF l o.conn = some o.nm := by
  induction l with
  | nil => cases ho
  | cons q l ih =>
    rw [List.map_cons, List.nodup_cons] at hn
    unfold ownF at ih ⊢
    rw [List.find?_cons]
    rcases List.mem_cons.1 ho with rfl | ho
    · simp
    · have : q.conn ≠ o.conn := fun e => hn.1 (e ▸ List.mem_map_of_mem ho)
      simp only [this, decide_false]
      exact ih hn.2 ho
theorem own_none {l : List On} {c : Int} (h : ∀ o ∈ l, o.conn ≠ c) : ownF l c = none := by
  unfold ownF
  rw [List.find?_eq_none.2 (fun o ho => by simpa using h o ho)]
  rfl
theorem own_cases (l : List On) (c : Int) : (ownF l c = none ∧ ∀ o ∈ l, o.conn ≠ c) ∨ ∃ o ∈ l, o.conn = c ∧ ownF l c = some o.nm := by
  unfold ownF
  cases h : l.find? (fun o => decide (o.conn = c)) with
  | none => exact .inl ⟨rfl, fun o ho => by simpa using List.find?_eq_none.1 h o ho⟩
  | some o => exact .inr ⟨o, List.mem_of_find?_eq_some h, by simpa using List.find?_some h, rfl⟩
theorem own_drop (l : List On) (c d : Int) : ownF (dropC l c) d = if d = c then none else ownF l d := by
  by_cases h : d = c
  · subst h
    rw [if_pos rfl]
    exact own_none (fun o ho => (mem_dropC.1 ho).2)
  · rw [if_neg h]
    unfold ownF dropC
    congr 1
    induction l with
    | nil => rfl
    | cons o l ih =>
      by_cases h1 : o.conn = c
      · have h2 : o.conn ≠ d := fun e => h (e.symm.trans h1)
        rw [List.filter_cons_of_neg (by simpa using h1), List.find?_cons_of_neg (by simpa using h2)]
        exact ih
      · rw [List.filter_cons_of_pos (by simpa using h1)]
        by_cases h2 : o.conn = d
        · rw [List.find?_cons_of_pos (by simpa using h2), List.find?_cons_of_pos (by simpa using h2)]
        · rw [List.find?_cons_of_neg (by simpa using h2), List.find?_cons_of_neg (by simpa using h2)]
          exact ih
theorem own_snoc {l : List On} {o : On} (h : ∀ q ∈ l, q.conn ≠ o.conn) (d : Int) : ownF (l ++ [o]) d = if d = o.conn then some o.nm else ownF l d := by
  unfold ownF
  rw [List.find?_append]
  by_cases e : d = o.conn
  · subst e
    rw [if_pos rfl, List.find?_eq_none.2 (fun q hq => by simpa using h q hq)]
    simp
  · rw [if_neg e]
    have : List.find? (fun q : On => decide (q.conn = d)) [o] = none := by
      rw [List.find?_eq_none]
      intro q hq
      obtain rfl : q = o := by simpa using hq
      simpa using fun e' => e e'.symm
    rw [this, Option.or_none]
theorem drop_none' {l : List On} {c : Int} (h : ∀ o ∈ l, o.conn ≠ c) : dropC l c = l := by
  unfold dropC
  rw [List.filter_eq_self]
  intro a ha
  simpa using h a ha
theorem dropC_length {l : List On} (hn : (l.map (·.conn)).Nodup) {o : On} (ho : o ∈ l) : (dropC l o.conn).length + 1 = l.length := by
  induction l with
  | nil => cases ho
  | cons q l ih =>
    rw [List.map_cons, List.nodup_cons] at hn
    unfold dropC at ih ⊢
    by_cases e : q.conn = o.conn
    · have hno : ∀ r ∈ l, r.conn ≠ o.conn := fun r hr e' => hn.1 (by rw [e, ← e']; exact List.mem_map_of_mem hr)
      have h2 := drop_none' hno
      unfold dropC at h2
      rw [List.filter_cons_of_neg (by simpa using e), h2]
      rfl
    · rcases List.mem_cons.1 ho with rfl | ho
      · exact absurd rfl e
      · rw [List.filter_cons_of_pos (by simpa using e), List.length_cons, List.length_cons, ih hn.2 ho]
theorem evs_drop (l : List On) (c : Int) : evs (dropC l c) = dropL (evs l) c := by
  unfold evs dropC dropL
  rw [List.filter_map]
  rfl
theorem nodup_dropC {l : List On} (h : (l.map (·.conn)).Nodup) (c : Int) : ((dropC l c).map (·.conn)).Nodup := h.sublist ((List.filter_sublist).map _)
theorem evs_keys (l : List On) : (evs l).map (·.key) = l.map (·.conn) := by unfold evs; rw [List.map_map]; rfl
theorem at_evs {L : List (Ev Int)} {l : List On} (h : L.Perm (evs l)) (c : Int) : (atL L c).isSome = (ownF l c).isSome := by
  rw [Bool.eq_iff_iff]
  unfold atL ownF
  rw [Option.isSome_map]
  simp only [List.find?_isSome, decide_eq_true_eq]
  constructor
  · rintro ⟨s, hs, e⟩
    obtain ⟨o, ho, rfl⟩ := List.mem_map.1 (h.mem_iff.1 hs)
    exact ⟨o, ho, e⟩
  · rintro ⟨o, ho, e⟩
    exact ⟨_, h.mem_iff.2 (List.mem_map_of_mem ho), e⟩
theorem drop_perm {L : List (Ev Int)} {l : List On} (h : L.Perm (evs l)) (c : Int) : (dropL L c).Perm (evs (dropC l c)) := by
  rw [evs_drop]
  exact h.filter _
end Go.Proofs.Ytgohlbljdffelaa.Idl
