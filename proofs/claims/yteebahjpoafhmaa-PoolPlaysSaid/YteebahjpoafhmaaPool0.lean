/- pool: what its calls do to the list of backends. Own work of this seat. -/
import Derived.Test.YteebahjpoafhmaaPool4
namespace Go.Proofs.Yteebahjpoafhmaa.Pool
open Go.RowKit Go.Proofs.Yteebahjpoafhmaa.Kit Go.Proofs.Yteebahjpoafhmaa.PPoolPlays
set_option linter.unusedVariables false
set_option linter.unusedSimpArgs false

/-- A list as a pool has it, but for those who are to be swept. -/
structure Good0 (l : List S38) : Prop where
  nd : (l.map (·.f0)).Nodup
  num : ∀ x ∈ l, 0 ≤ x.f4 ∧ x.f4 ≤ x.f2 ∧ x.f2 ≤ 65535
  len : l.length ≤ 1024
/-- A list as a pool has it. -/
structure Good (l : List S38) : Prop extends Good0 l where
  kept : ∀ x ∈ l, x.f3 = 2 → 0 < x.f4

/-- The one of that name becomes another. -/
def upd (s : ByteArray) (g : S38 → S38) (l : List S38) : List S38 := l.map fun y => if y.f0 = s then g y else y
section
variable {l : List S38} {s : ByteArray} {g : S38 → S38} {x : S38}
theorem find_mem (h : l.find? (named s) = some x) : x ∈ l ∧ x.f0 = s :=
  ⟨List.mem_of_find?_eq_some h, by have := List.find?_some h; exact of_decide_eq_true this⟩
theorem find_none (h : l.find? (named s) = none) : ∀ x ∈ l, x.f0 ≠ s := by
  intro x hx e
  exact absurd (List.find?_eq_none.1 h x hx) (by simp [named, e])
theorem nodup_inj (hn : (l.map (·.f0)).Nodup) {x y : S38} (hx : x ∈ l) (hy : y ∈ l) (e : x.f0 = y.f0) : x = y := by
  induction l with
  | nil => cases hx
  | cons a r ih =>
    rw [List.map_cons, List.nodup_cons] at hn
    rcases List.mem_cons.1 hx with h1 | h1 <;> rcases List.mem_cons.1 hy with h2 | h2
    · rw [h1, h2]
    · exact absurd (show a.f0 ∈ r.map (·.f0) by rw [← h1, e]; exact List.mem_map_of_mem (f := (·.f0)) h2) hn.1
    · exact absurd (show a.f0 ∈ r.map (·.f0) by rw [← h2, ← e]; exact List.mem_map_of_mem (f := (·.f0)) h1) hn.1
    · exact ih hn.2 h1 h2
theorem find_of (hn : (l.map (·.f0)).Nodup) (hx : x ∈ l) : l.find? (named x.f0) = some x := by
  cases hf : l.find? (named x.f0) with
  | none => exact absurd rfl (find_none hf x hx)
  | some y =>
    obtain ⟨hy, e⟩ := find_mem hf
    rw [nodup_inj hn hy hx e]
theorem find_iff (hn : (l.map (·.f0)).Nodup) : l.find? (named s) = some x ↔ x ∈ l ∧ x.f0 = s :=
  ⟨find_mem, fun ⟨hx, e⟩ => e ▸ find_of hn hx⟩
theorem upd_none (h : ∀ x ∈ l, x.f0 ≠ s) : upd s g l = l := by
  unfold upd
  conv => rhs; rw [← List.map_id l]
  refine List.map_congr_left (fun y hy => ?_)
  rw [if_neg (h y hy)]; rfl
theorem set_upd (hn : (l.map (·.f0)).Nodup) : ∀ {i : Nat}, l[i]? = some x → x.f0 = s → l.set i (g x) = upd s g l := by
  induction l with
  | nil => intro i hi; simp at hi
  | cons a r ih =>
    intro i hi hs
    rw [List.map_cons, List.nodup_cons] at hn
    cases i with
    | zero =>
      obtain rfl : a = x := by simpa using hi
      have : upd s g r = r := upd_none (fun y hy e => hn.1 (by rw [hs, ← e]; exact List.mem_map_of_mem hy))
      rw [List.set_cons_zero]
      show _ = (if a.f0 = s then g a else a) :: upd s g r
      rw [if_pos hs, this]
    | succ i =>
      have hi' : r[i]? = some x := by simpa using hi
      have hx : x ∈ r := List.mem_of_getElem? hi'
      rw [List.set_cons_succ, ih hn.2 hi' hs]
      show _ = (if a.f0 = s then g a else a) :: upd s g r
      rw [if_neg (fun e => hn.1 (by rw [e, ← hs]; exact List.mem_map_of_mem hx))]
theorem mem_upd {y : S38} : y ∈ upd s g l ↔ ∃ x ∈ l, (x.f0 = s ∧ y = g x) ∨ (x.f0 ≠ s ∧ y = x) := by
  unfold upd
  rw [List.mem_map]
  constructor
  · rintro ⟨x, hx, e⟩
    refine ⟨x, hx, ?_⟩
    by_cases h : x.f0 = s
    · rw [if_pos h] at e; exact .inl ⟨h, e.symm⟩
    · rw [if_neg h] at e; exact .inr ⟨h, e.symm⟩
  · rintro ⟨x, hx, ⟨h, e⟩ | ⟨h, e⟩⟩
    · exact ⟨x, hx, by rw [if_pos h, e]⟩
    · exact ⟨x, hx, by rw [if_neg h, e]⟩
theorem upd_names (hg : ∀ x ∈ l, x.f0 = s → (g x).f0 = x.f0) : (upd s g l).map (·.f0) = l.map (·.f0) := by
  unfold upd
  rw [List.map_map]
  refine List.map_congr_left (fun y hy => ?_)
  show (if y.f0 = s then g y else y).f0 = y.f0
  by_cases h : y.f0 = s
  · rw [if_pos h]; exact hg y hy h
  · rw [if_neg h]
theorem Good0.upd (h : Good0 l) (hg : ∀ x ∈ l, x.f0 = s → (g x).f0 = x.f0 ∧ 0 ≤ (g x).f4 ∧ (g x).f4 ≤ (g x).f2 ∧ (g x).f2 ≤ 65535) : Good0 (upd s g l) :=
  ⟨by rw [upd_names (fun x hx e => (hg x hx e).1)]; exact h.nd, fun y hy => by
    obtain ⟨x, hx, ⟨e, rfl⟩ | ⟨_, rfl⟩⟩ := mem_upd.1 hy
    · exact (hg x hx e).2
    · exact h.num y hx, by unfold Pool.upd; rw [List.length_map]; exact h.len⟩
theorem Good.upd (h : Good l) (hg : ∀ x ∈ l, x.f0 = s → (g x).f0 = x.f0 ∧ 0 ≤ (g x).f4 ∧ (g x).f4 ≤ (g x).f2 ∧ (g x).f2 ≤ 65535) (hk : ∀ x ∈ l, x.f0 = s → (g x).f3 = 2 → 0 < (g x).f4) : Good (upd s g l) :=
  ⟨h.toGood0.upd hg, fun y hy h2 => by
    obtain ⟨x, hx, ⟨e, rfl⟩ | ⟨_, rfl⟩⟩ := mem_upd.1 hy
    · exact hk x hx e h2
    · exact h.kept y hx h2⟩
theorem mem_swept {y : S38} : y ∈ swept l ↔ y ∈ l ∧ ¬ (y.f3 = 2 ∧ y.f4 = 0) := by
  unfold swept keepB gone
  rw [List.mem_filter]
  by_cases h1 : y.f3 = 2 <;> by_cases h2 : y.f4 = 0 <;> simp [h1, h2]
theorem Good0.swept (h : Good0 l) : Good (swept l) := by
  have hsub : (Pool.swept l).Sublist l := List.filter_sublist
  exact ⟨⟨(hsub.map _).nodup h.nd, fun x hx => h.num x (mem_swept.1 hx).1, Nat.le_trans hsub.length_le h.len⟩, fun x hx e => by
    obtain ⟨h1, h2⟩ := mem_swept.1 hx
    have := (h.num x h1).1
    have : x.f4 ≠ 0 := fun e' => h2 ⟨e, e'⟩
    omega⟩
end

def cntok (n : Int) : Bool := decide (1 ≤ n) && decide (n ≤ 65535)
def addR (l : List S38) (s : ByteArray) (wt cp : Int) : List S38 × Int :=
  if (tname s && cntok wt && cntok cp) = true then (if (l.find? (named s)).isSome then (l, 7) else if 1024 ≤ l.length then (l, 8) else (l ++ [⟨s, wt, cp, 0, 0⟩], 0)) else (l, 1)
def chgR (l : List S38) (s : ByteArray) (g : S38 → S38) : List S38 × Int :=
  match l.find? (named s) with
  | none => (l, 6)
  | some x => if x.f3 = 2 then (l, 6) else (upd s g l, 0)
def toS (st : Int) (x : S38) : S38 := { x with f3 := st }
def toW (n : Int) (x : S38) : S38 := { x with f1 := n }
def toB (n : Int) (x : S38) : S38 := { x with f4 := n }
def rewR (l : List S38) (s : ByteArray) (n : Int) : List S38 × Int :=
  match l.find? (named s) with
  | none => (l, 6)
  | some x => if x.f3 = 2 then (l, 6) else if cntok n = true then (upd s (toW n) l, 0) else (l, 1)
def remR (l : List S38) (s : ByteArray) : List S38 × Int := (swept (chgR l s (toS 2)).1, (chgR l s (toS 2)).2)
def takeR (l : List S38) (s : ByteArray) : List S38 × Int :=
  match l.find? (named s) with
  | none => (l, 6)
  | some x => if x.f3 ≠ 0 then (l, 9) else if x.f2 ≤ x.f4 then (l, 8) else (upd s (fun y => toB (y.f4 + 1) y) l, 0)
def giveR (l : List S38) (s : ByteArray) : List S38 × Bool × Int :=
  match l.find? (named s) with
  | none => (l, false, 6)
  | some x => if x.f4 = 0 then (l, false, 9) else (swept (upd s (fun y => toB (y.f4 - 1) y) l), decide (x.f3 ≠ 0) && decide (x.f4 = 1), 0)

section
variable {l : List S38}
theorem add_good (h : Good l) (s : ByteArray) (wt cp : Int) : Good (addR l s wt cp).1 := by
  unfold addR
  split
  · rename_i h1
    split
    · exact h
    · rename_i h2
      split
      · exact h
      · have hc : 1 ≤ cp ∧ cp ≤ 65535 := by
          have := (Bool.and_eq_true _ _ ▸ h1).2
          unfold cntok at this
          simpa using this
        have hn : ∀ x ∈ l, x.f0 ≠ s := find_none (by simpa using h2)
        refine ⟨⟨?_, fun x hx => ?_, by simp; omega⟩, fun x hx e => ?_⟩
        · rw [List.map_append, List.nodup_append]
          refine ⟨h.nd, by simp, fun a ha b hb => ?_⟩
          obtain ⟨x, hx, rfl⟩ := List.mem_map.1 ha
          simp only [List.map_cons, List.map_nil, List.mem_singleton] at hb
          rw [hb]; exact hn x hx
        · rcases List.mem_append.1 hx with hx | hx
          · exact h.num x hx
          · rw [List.mem_singleton.1 hx]
            refine ⟨Int.le_refl _, ?_, hc.2⟩
            show (0 : Int) ≤ cp
            omega
        · rcases List.mem_append.1 hx with hx | hx
          · exact h.kept x hx e
          · rw [List.mem_singleton.1 hx] at e; cases e
  · exact h
theorem chg_good0 (h : Good0 l) (s : ByteArray) (st : Int) : Good0 (chgR l s (toS st)).1 := by
  unfold chgR
  split
  · exact h
  · split
    · exact h
    · exact h.upd (fun x hx _ => ⟨rfl, h.num x hx⟩)
theorem chg_good (h : Good l) (s : ByteArray) (st : Int) (hst : st ≠ 2) : Good (chgR l s (toS st)).1 := by
  unfold chgR
  split
  · exact h
  · split
    · exact h
    · exact h.upd (fun x hx _ => ⟨rfl, h.num x hx⟩) (fun x hx _ e => absurd e hst)
theorem rew_good (h : Good l) (s : ByteArray) (n : Int) : Good (rewR l s n).1 := by
  unfold rewR
  split
  · exact h
  · split
    · exact h
    · split
      · exact h.upd (fun x hx _ => ⟨rfl, h.num x hx⟩) (fun x hx _ e => h.kept x hx e)
      · exact h
theorem rem_good (h : Good l) (s : ByteArray) : Good (remR l s).1 := (chg_good0 h.toGood0 s 2).swept
theorem take_good (h : Good l) (s : ByteArray) : Good (takeR l s).1 := by
  unfold takeR
  split
  · exact h
  · rename_i x hf
    obtain ⟨hx, hs⟩ := find_mem hf
    split
    · exact h
    · rename_i h3
      split
      · exact h
      · refine h.upd (fun y hy e => ?_) (fun y hy e e2 => ?_)
        · obtain rfl := nodup_inj h.nd hx hy (hs.trans e.symm)
          have := h.num x hx
          exact ⟨rfl, by show 0 ≤ x.f4 + 1; omega, by show x.f4 + 1 ≤ x.f2; omega, this.2.2⟩
        · have := h.num y hy
          show 0 < y.f4 + 1
          omega
theorem give_good (h : Good l) (s : ByteArray) : Good (giveR l s).1 := by
  unfold giveR
  split
  · exact h
  · rename_i x hf
    obtain ⟨hx, hs⟩ := find_mem hf
    split
    · exact h
    · refine Good0.swept (h.toGood0.upd (fun y hy e => ?_))
      obtain rfl := nodup_inj h.nd hx hy (hs.trans e.symm)
      have := h.num x hx
      exact ⟨rfl, by show 0 ≤ x.f4 - 1; omega, by show x.f4 - 1 ≤ x.f2; omega, this.2.2⟩
end
end Go.Proofs.Yteebahjpoafhmaa.Pool
