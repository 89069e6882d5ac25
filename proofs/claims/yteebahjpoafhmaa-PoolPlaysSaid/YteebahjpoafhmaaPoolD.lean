/- PoolDrains: who is shut; a backend with requests stays. Own work of this seat. -/
import Derived.Test.YteebahjpoafhmaaPoolJ
namespace Go.Proofs.Yteebahjpoafhmaa.Pool
open Go.RowKit Go.Proofs.Yteebahjpoafhmaa.Kit Go.Proofs.Yteebahjpoafhmaa.PPoolPlays Go.Proofs.YteebahjpoafhmaaW.PrintWords Go.Proofs.YteebahjpoafhmaaW.PrintLast Go.Proofs.YteebahjpoafhmaaW.PrintMore
set_option linter.unusedVariables false
set_option linter.unusedSimpArgs false

/-- f tells of each backend whether it is shut. -/
def DD (l : List S38) (f : ByteArray → Bool) : Prop := ∀ x ∈ l, f x.f0 = decide (x.f3 ≠ 0)
/-- Whoever has more than one request stays. -/
def Stays (l : List S38) (s : ByteArray) (l' : List S38) : Prop := ∀ x, l.find? (named s) = some x → 1 < x.f4 → (getB l' s).2 = true
theorem getB_there {l : List S38} {s : ByteArray} (h : ∃ x ∈ l, x.f0 = s) : (getB l s).2 = true := by
  unfold getB
  cases hf : l.find? (named s) with
  | none => obtain ⟨x, hx, e⟩ := h; exact absurd e (find_none hf x hx)
  | some x => rfl
section
variable {l : List S38} {f : ByteArray → Bool} {s : ByteArray}
theorem stays_refl : Stays l s l := fun x hf _ => getB_there ⟨x, find_mem hf⟩
theorem stays_upd {g : S38 → S38} (hg : ∀ x, (g x).f0 = x.f0) : Stays l s (upd s g l) := fun x hf _ => by
  obtain ⟨hx, e⟩ := find_mem hf
  exact getB_there ⟨g x, mem_upd.2 ⟨x, hx, .inl ⟨e, rfl⟩⟩, by rw [hg, e]⟩
theorem stays_swept {g : S38 → S38} (hg : ∀ x, (g x).f0 = x.f0) (h4 : ∀ x, 1 < x.f4 → (g x).f4 ≠ 0) : Stays l s (swept (upd s g l)) := fun x hf h1 => by
  obtain ⟨hx, e⟩ := find_mem hf
  exact getB_there ⟨g x, mem_swept.2 ⟨mem_upd.2 ⟨x, hx, .inl ⟨e, rfl⟩⟩, fun h => h4 x h1 h.2⟩, by rw [hg, e]⟩
theorem stays_swept0 : Stays l s (swept l) := fun x hf h1 => by
  obtain ⟨hx, e⟩ := find_mem hf
  exact getB_there ⟨x, mem_swept.2 ⟨hx, fun h => by have := h.2; omega⟩, e⟩
theorem dd_upd {g : S38 → S38} (h : DD l f) (hg : ∀ x, (g x).f0 = x.f0) (h3 : ∀ x, (g x).f3 = x.f3) : DD (upd s g l) f := fun y hy => by
  obtain ⟨x, hx, ⟨e, rfl⟩ | ⟨e, rfl⟩⟩ := mem_upd.1 hy
  · rw [hg, h3]; exact h x hx
  · exact h y hx
theorem dd_swept (h : DD l f) : DD (swept l) f := fun y hy => h y (mem_swept.1 hy).1
theorem dd_to (h : DD l f) (st : Int) (b : Bool) (hb : b = decide (st ≠ 0)) : DD (upd s (toS st) l) (bupd f s b) := fun y hy => by
  obtain ⟨x, hx, ⟨e, rfl⟩ | ⟨e, rfl⟩⟩ := mem_upd.1 hy
  · show bupd f s b x.f0 = decide (st ≠ 0)
    rw [e, bupd_same, hb]
  · rw [bupd_other _ _ e]; exact h y hx

theorem add_facts (h : DD l f) (wt cp : Int) : ((addR l s wt cp).2 = 0 → DD (addR l s wt cp).1 (bupd f s false)) ∧ ((addR l s wt cp).2 ≠ 0 → DD (addR l s wt cp).1 f) ∧ Stays l s (addR l s wt cp).1 := by
  unfold addR
  split
  · split
    · exact ⟨fun e => absurd (show (7 : Int) = 0 from e) (by decide), fun _ => h, stays_refl⟩
    · rename_i h2
      split
      · exact ⟨fun e => absurd (show (8 : Int) = 0 from e) (by decide), fun _ => h, stays_refl⟩
      · have hn : ∀ x ∈ l, x.f0 ≠ s := find_none (by simpa using h2)
        refine ⟨fun _ x hx => ?_, fun e => absurd rfl e, fun x hf _ => absurd (find_mem hf).2 (hn x (find_mem hf).1)⟩
        rcases List.mem_append.1 hx with hx | hx
        · rw [bupd_other _ _ (hn x hx)]; exact h x hx
        · rw [List.mem_singleton.1 hx]
          show bupd f s false s = _
          rw [bupd_same]; rfl
  · exact ⟨fun e => absurd (show (1 : Int) = 0 from e) (by decide), fun _ => h, stays_refl⟩
theorem chg_facts (h : DD l f) (st : Int) (b : Bool) (hb : b = decide (st ≠ 0)) : ((chgR l s (toS st)).2 = 0 → DD (chgR l s (toS st)).1 (bupd f s b)) ∧ ((chgR l s (toS st)).2 ≠ 0 → DD (chgR l s (toS st)).1 f) ∧ Stays l s (chgR l s (toS st)).1 := by
  unfold chgR
  split
  · exact ⟨fun e => absurd (show (6 : Int) = 0 from e) (by decide), fun _ => h, stays_refl⟩
  · split
    · exact ⟨fun e => absurd (show (6 : Int) = 0 from e) (by decide), fun _ => h, stays_refl⟩
    · exact ⟨fun _ => dd_to h st b hb, fun e => absurd rfl e, stays_upd (fun _ => rfl)⟩
theorem rem_facts (h : DD l f) : ((remR l s).2 = 0 → DD (remR l s).1 (bupd f s true)) ∧ ((remR l s).2 ≠ 0 → DD (remR l s).1 f) ∧ Stays l s (remR l s).1 := by
  obtain ⟨h1, h2, _⟩ := chg_facts (s := s) h 2 true rfl
  refine ⟨fun e => dd_swept (h1 e), fun e => dd_swept (h2 e), ?_⟩
  unfold remR chgR
  split
  · exact stays_swept0
  · split
    · exact stays_swept0
    · exact stays_swept (fun _ => rfl) (fun x h1 e => by have e' : x.f4 = 0 := e; omega)
theorem rew_facts (h : DD l f) (n : Int) : DD (rewR l s n).1 f ∧ Stays l s (rewR l s n).1 := by
  unfold rewR
  split
  · exact ⟨h, stays_refl⟩
  · split
    · exact ⟨h, stays_refl⟩
    · split
      · exact ⟨dd_upd h (fun _ => rfl) (fun _ => rfl), stays_upd (fun _ => rfl)⟩
      · exact ⟨h, stays_refl⟩
theorem take_facts (h : DD l f) : DD (takeR l s).1 f ∧ Stays l s (takeR l s).1 ∧ ((takeR l s).2 = 0 → (getB l s).2 = true ∧ f s = false) := by
  unfold takeR
  split
  · exact ⟨h, stays_refl, fun e => absurd (show (6 : Int) = 0 from e) (by decide)⟩
  · rename_i x hf
    obtain ⟨hx, hs⟩ := find_mem hf
    split
    · exact ⟨h, stays_refl, fun e => absurd (show (9 : Int) = 0 from e) (by decide)⟩
    · rename_i h3
      split
      · exact ⟨h, stays_refl, fun e => absurd (show (8 : Int) = 0 from e) (by decide)⟩
      · refine ⟨dd_upd h (fun _ => rfl) (fun _ => rfl), stays_upd (fun _ => rfl), fun _ => ⟨getB_there ⟨x, hx, hs⟩, ?_⟩⟩
        rw [← hs, h x hx]
        exact decide_eq_false h3
theorem give_facts (h : DD l f) : DD (giveR l s).1 f ∧ Stays l s (giveR l s).1 := by
  unfold giveR
  split
  · exact ⟨h, stays_refl⟩
  · split
    · exact ⟨h, stays_refl⟩
    · exact ⟨dd_swept (dd_upd h (fun _ => rfl) (fun _ => rfl)), stays_swept (fun _ => rfl) (fun x h1 e => by have e' : x.f4 - 1 = 0 := e; omega)⟩
theorem give_none (h : l.find? (named s) = none) : (giveR l s).2 = (false, 6) := by unfold giveR; rw [h]
theorem give_zero {x : S38} (h : l.find? (named s) = some x) (h4 : x.f4 = 0) : (giveR l s).2 = (false, 9) := by unfold giveR; rw [h]; simp [h4]
theorem give_some {x : S38} (h : l.find? (named s) = some x) (h4 : x.f4 ≠ 0) : (giveR l s).2 = (decide (x.f3 ≠ 0) && decide (x.f4 = 1), 0) := by unfold giveR; rw [h]; simp [h4]
end

/-- Get, its struct laid open. -/
theorem get_open {w : World} {p : Nat} {A : Option Addr} {c : Nat} {l : List S38} (h : PAt w p A c l) (hmax : l.length ≤ 1024) (s : ByteArray) : ∃ y0 y1 y2 y3 y4, (∀ x, l.find? (named s) = some x → x = ⟨y0, y1, y2, y3, y4⟩) ∧
    Calls Try.prog 19 #[.pointer (some ⟨p, 0, none⟩), .string s] w fun e w' => e = .returned (.tuple #[.agg #[.string y0, .int .i64 y1, .int .i64 y2, .int .i64 y3, .int .i64 y4], .bool (getB l s).2]) ∧ Step (fun _ => False) w w' := by
  refine ⟨(getB l s).1.f0, (getB l s).1.f1, (getB l s).1.f2, (getB l s).1.f3, (getB l s).1.f4, fun x hx => ?_, get_calls h (Nat.le_trans hmax (by omega)) s⟩
  unfold getB
  rw [hx]

/-- The pool and one other block of a law. -/
structure BJ (w0 w : World) (p : Nat) (A : Option Addr) (c : Nat) (l : List S38) (b : Nat) : Prop where
  pj : PJ w0 w p A c l
  sep1 : b ≠ p
  sep2 : blockOf A ≠ some b
  lowb : w0.heap.size ≤ b
  ltb : b < w.heap.size
section
variable {w0 w w' : World} {p : Nat} {A A' : Option Addr} {c c' : Nat} {l l' : List S38} {b : Nat}
theorem BJ.still (h : BJ w0 w p A c l b) (hs : Step (fun _ => False) w w') : BJ w0 w' p A c l b :=
  ⟨h.pj.still hs, h.sep1, h.sep2, h.lowb, Nat.lt_of_lt_of_le h.ltb hs.size⟩
theorem BJ.pool (h : BJ w0 w p A c l b) (hP : PAt w' p A' c' l') (hs : PStep p A w w') (hn : Near w A A') (hg : Good l') : BJ w0 w' p A' c' l' b :=
  ⟨h.pj.pool hP hs hn hg, h.sep1, fun e => by
    rcases hn b e with e' | e'
    · exact h.sep2 e'
    · have := h.ltb; omega, h.lowb, Nat.lt_of_lt_of_le h.ltb (Step.size hs)⟩
theorem BJ.map (h : BJ w0 w p A c l b) (hs : Step (· = b) w w') : BJ w0 w' p A c l b :=
  ⟨h.pj.keep hs (fun e => h.sep1 e.symm) (fun k hk e => h.sep2 (by rw [hk, e])) (fun k e => by rw [e]; exact h.lowb), h.sep1, h.sep2, h.lowb, Nat.lt_of_lt_of_le h.ltb hs.size⟩
theorem BJ.free (h : BJ w0 w p A c l b) : ¬ (b = p ∨ blockOf A = some b) := fun e => e.elim h.sep1 h.sep2
theorem BJ.len (h : BJ w0 w p A c l b) : l.length ≤ 1024 := h.pj.good.len
end
end Go.Proofs.Yteebahjpoafhmaa.Pool
