/- StewardCounts: who has how many of the open requests. Own work of this seat. -/
import Derived.Test.YteebahjpoafhmaaPool8
namespace Go.Proofs.Yteebahjpoafhmaa.Pool
open Go.RowKit Go.Proofs.Yteebahjpoafhmaa.Kit Go.Proofs.Yteebahjpoafhmaa.PPoolPlays
set_option linter.unusedVariables false
set_option linter.unusedSimpArgs false

def cntB (s : ByteArray) : List ByteArray → Nat
  | [] => 0
  | t :: r => cntB s r + if t = s then 1 else 0
theorem cntB_append (s : ByteArray) : ∀ (a b : List ByteArray), cntB s (a ++ b) = cntB s a + cntB s b
  | [], b => by simp [cntB]
  | t :: r, b => by
    have := cntB_append s r b
    simp only [List.cons_append, cntB, this]
    omega
theorem cntB_zero {s : ByteArray} : ∀ {os : List ByteArray}, s ∉ os → cntB s os = 0
  | [], _ => rfl
  | t :: r, h => by
    have h1 := cntB_zero (s := s) (os := r) (fun hm => h (List.mem_cons_of_mem _ hm))
    have h2 : t ≠ s := fun e => h (e ▸ List.mem_cons_self ..)
    simp [cntB, h1, h2]
theorem cntB_pos {s : ByteArray} : ∀ {os : List ByteArray}, s ∈ os → 0 < cntB s os
  | t :: r, h => by
    simp only [cntB]
    by_cases e : t = s
    · rw [if_pos e]; omega
    · rcases List.mem_cons.1 h with h | h
      · exact absurd h.symm e
      · have := cntB_pos h
        omega

/-- The open requests are those that the backends have. -/
structure OJ (l : List S38) (os : List ByteArray) : Prop where
  cnt : ∀ x ∈ l, x.f4 = (cntB x.f0 os : Int)
  all : ∀ s ∈ os, ∃ x ∈ l, x.f0 = s
section
variable {l : List S38} {os : List ByteArray}
theorem oj_nil : OJ [] [] := ⟨fun x hx => (by cases hx), fun s hs => (by cases hs)⟩
theorem OJ.add (h : OJ l os) (s : ByteArray) (wt cp : Int) : OJ (addR l s wt cp).1 os := by
  unfold addR
  split
  · split
    · exact h
    · rename_i h2
      split
      · exact h
      · have hn : ∀ x ∈ l, x.f0 ≠ s := find_none (by simpa using h2)
        refine ⟨fun x hx => ?_, fun t ht => ?_⟩
        · rcases List.mem_append.1 hx with hx | hx
          · exact h.cnt x hx
          · rw [List.mem_singleton.1 hx]
            have : cntB s os = 0 := cntB_zero (fun hm => by obtain ⟨x, hx, e⟩ := h.all s hm; exact hn x hx e)
            show (0 : Int) = (cntB s os : Int)
            rw [this]; rfl
        · obtain ⟨x, hx, e⟩ := h.all t ht
          exact ⟨x, List.mem_append_left _ hx, e⟩
  · exact h
theorem OJ.upd' {os' : List ByteArray} {s : ByteArray} {g : S38 → S38} (h : OJ l os) (hg : ∀ x ∈ l, x.f0 = s → (g x).f0 = x.f0 ∧ (g x).f4 = (cntB s os' : Int)) (hc : ∀ x ∈ l, x.f0 ≠ s → cntB x.f0 os' = cntB x.f0 os) (ha : ∀ t ∈ os', ∃ x ∈ l, x.f0 = t) : OJ (upd s g l) os' :=
  ⟨fun y hy => by
    obtain ⟨x, hx, ⟨e, rfl⟩ | ⟨e, rfl⟩⟩ := mem_upd.1 hy
    · obtain ⟨h1, h2⟩ := hg x hx e
      rw [h1, e, h2]
    · rw [hc y hx e]; exact h.cnt y hx, fun t ht => by
    obtain ⟨x, hx, e⟩ := ha t ht
    by_cases hs : x.f0 = s
    · exact ⟨g x, mem_upd.2 ⟨x, hx, .inl ⟨hs, rfl⟩⟩, by rw [(hg x hx hs).1, e]⟩
    · exact ⟨x, mem_upd.2 ⟨x, hx, .inr ⟨hs, rfl⟩⟩, e⟩⟩
theorem OJ.chg (h : OJ l os) (s : ByteArray) (st : Int) : OJ (chgR l s (toS st)).1 os := by
  unfold chgR
  split
  · exact h
  · split
    · exact h
    · exact h.upd' (fun x hx e => ⟨rfl, by show x.f4 = _; rw [h.cnt x hx, e]⟩) (fun _ _ _ => rfl) h.all
theorem OJ.swept (h : OJ l os) : OJ (swept l) os :=
  ⟨fun x hx => h.cnt x (mem_swept.1 hx).1, fun s hs => by
    obtain ⟨x, hx, e⟩ := h.all s hs
    refine ⟨x, mem_swept.2 ⟨hx, fun h2 => ?_⟩, e⟩
    have h1 := h.cnt x hx
    have h3 := cntB_pos hs
    rw [e, h2.2] at h1
    omega⟩
theorem OJ.rem (h : OJ l os) (s : ByteArray) : OJ (remR l s).1 os := (h.chg s 2).swept
theorem OJ.take (h : OJ l os) (hg : Good l) (s : ByteArray) : ((takeR l s).2 = 0 → OJ (takeR l s).1 (os ++ [s])) ∧ ((takeR l s).2 ≠ 0 → OJ (takeR l s).1 os) := by
  unfold takeR
  split
  · exact ⟨fun e => absurd (show (6 : Int) = 0 from e) (by decide), fun _ => h⟩
  · rename_i x hf
    obtain ⟨hx, hs⟩ := find_mem hf
    split
    · exact ⟨fun e => absurd (show (9 : Int) = 0 from e) (by decide), fun _ => h⟩
    · split
      · exact ⟨fun e => absurd (show (8 : Int) = 0 from e) (by decide), fun _ => h⟩
      · refine ⟨fun _ => h.upd' (fun y hy e => ⟨rfl, ?_⟩) (fun y hy e => ?_) (fun t ht => ?_), fun e => absurd rfl e⟩
        · show y.f4 + 1 = _
          rw [h.cnt y hy, e, cntB_append]
          simp [cntB]
        · rw [cntB_append]
          simp [cntB, Ne.symm e]
        · rcases List.mem_append.1 ht with ht | ht
          · exact h.all t ht
          · rw [List.mem_singleton.1 ht]; exact ⟨x, hx, hs⟩
theorem OJ.give {s : ByteArray} (h : OJ l (s :: os)) (hg : Good l) : (giveR l s).2.2 = 0 ∧ OJ (giveR l s).1 os := by
  obtain ⟨x, hx, hs⟩ := h.all s (List.mem_cons_self ..)
  have hf : l.find? (named s) = some x := (find_iff hg.nd).2 ⟨hx, hs⟩
  have hc : ∀ y ∈ l, y.f0 = s → y.f4 - 1 = (cntB s os : Int) := fun y hy e => by
    rw [h.cnt y hy, e]
    simp [cntB]
  have h4 : x.f4 ≠ 0 := by
    have := hc x hx hs
    omega
  unfold giveR
  rw [hf]
  simp only [if_neg h4]
  refine ⟨trivial, OJ.swept (h.upd' (fun y hy e => ⟨rfl, hc y hy e⟩) (fun y hy e => ?_) (fun t ht => h.all t (List.mem_cons_of_mem _ ht)))⟩
  simp [cntB, Ne.symm e]

theorem sum_add (f g : S38 → Int) : ∀ (l : List S38), (l.map fun x => f x + g x).sum = (l.map f).sum + (l.map g).sum
  | [] => by simp
  | x :: r => by simp only [List.map_cons, List.sum_cons, sum_add f g r]; omega
theorem sum_zero (f : S38 → Int) : ∀ (l : List S38), (∀ x ∈ l, f x = 0) → (l.map f).sum = 0
  | [], _ => by simp
  | x :: r, h => by
    simp only [List.map_cons, List.sum_cons, sum_zero f r (fun y hy => h y (List.mem_cons_of_mem _ hy)), h x (List.mem_cons_self ..)]
    omega
theorem sum_one (s : ByteArray) : ∀ (l : List S38), (l.map (·.f0)).Nodup → (∃ x ∈ l, x.f0 = s) → (l.map fun x => if s = x.f0 then (1 : Int) else 0).sum = 1
  | [], _, ⟨x, hx, _⟩ => by cases hx
  | a :: r, hn, ⟨x, hx, e⟩ => by
    rw [List.map_cons, List.nodup_cons] at hn
    simp only [List.map_cons, List.sum_cons]
    by_cases ha : s = a.f0
    · rw [if_pos ha, sum_zero _ r (fun y hy => if_neg (fun e' => hn.1 (by rw [← ha, e']; exact List.mem_map_of_mem (f := (·.f0)) hy)))]
      omega
    · have : x ∈ r := by
        rcases List.mem_cons.1 hx with h | h
        · exact absurd (by rw [← h, e]) ha
        · exact h
      rw [if_neg ha, sum_one s r hn.2 ⟨x, this, e⟩]
      omega
theorem cnt_sum (hn : (l.map (·.f0)).Nodup) : ∀ (os : List ByteArray), (∀ s ∈ os, ∃ x ∈ l, x.f0 = s) → (l.map fun x => (cntB x.f0 os : Int)).sum = os.length
  | [], _ => by rw [sum_zero _ l (fun x _ => by simp [cntB])]; rfl
  | t :: r, h => by
    have h1 := cnt_sum hn r (fun s hs => h s (List.mem_cons_of_mem _ hs))
    have h2 := sum_one t l hn (h t (List.mem_cons_self ..))
    have h3 : (l.map fun x => (cntB x.f0 (t :: r) : Int)) = l.map fun x => (cntB x.f0 r : Int) + if t = x.f0 then (1 : Int) else 0 := by
      refine List.map_congr_left (fun x _ => ?_)
      simp only [cntB]
      by_cases e : t = x.f0
      · rw [if_pos e, if_pos e]; omega
      · rw [if_neg e, if_neg e]; omega
    rw [h3, sum_add, h1, h2, List.length_cons]
    omega
theorem OJ.sum (h : OJ l os) (hg : Good l) : bsum l = (os.length : Int) := by
  rw [← cnt_sum hg.nd os h.all]
  unfold bsum
  congr 1
  exact List.map_congr_left (fun x hx => h.cnt x hx)
end
end Go.Proofs.Yteebahjpoafhmaa.Pool
