/- pool: the pool behind its pointer; at, sweep, New, List, Clone, Busy, Get, Drained. Own work of this seat. -/
import Derived.Test.YteebahjpoafhmaaPool3
namespace Go.Proofs.Yteebahjpoafhmaa.Pool
open Go.RowKit Go.Proofs.Yteebahjpoafhmaa.Kit Go.Proofs.Yteebahjpoafhmaa.PPoolPlays Go.Proofs.YteebahjpoafhmaaW.PrintWords Go.Proofs.YteebahjpoafhmaaW.PrintLast Go.Proofs.YteebahjpoafhmaaW.PrintMore
set_option linter.unusedVariables false
set_option linter.unusedSimpArgs false

/-- The pool behind block p has the backends l; its row is .slice A l.length c. -/
structure PAt (w : World) (p : Nat) (A : Option Addr) (c : Nat) (l : List S38) : Prop where
  blk : Blk w p 53 [.slice A l.length c]
  seg : BSeg w A l.length c l
  ne : ∀ k, blockOf A = some k → k ≠ p
/-- A step that touches the pool alone. -/
def PStep (p : Nat) (A : Option Addr) (w w' : World) : Prop := Step (fun k => k = p ∨ blockOf A = some k) w w'
/-- The row's block is as before, or new. -/
def Near (w : World) (A A' : Option Addr) : Prop := ∀ k, blockOf A' = some k → blockOf A = some k ∨ w.heap.size ≤ k
theorem Near.refl (w : World) (A : Option Addr) : Near w A A := fun k h => .inl h
section
variable {w w' : World} {p : Nat} {A : Option Addr} {c : Nat} {l : List S38} {F : Nat → Prop}
theorem PAt.keep (h : PAt w p A c l) (hs : Step F w w') (hp : ¬ F p) (hA : ∀ k, blockOf A = some k → ¬ F k) : PAt w' p A c l := ⟨h.blk.keep hs hp, h.seg.keep hs hA, h.ne⟩
theorem PAt.still (h : PAt w p A c l) (hs : Step (fun _ => False) w w') : PAt w' p A c l := h.keep hs (fun h => h) (fun _ _ h => h)
theorem PAt.lt (h : PAt w p A c l) : p < w.heap.size := h.blk.lt
theorem PAt.ltA (h : PAt w p A c l) {k : Nat} (hk : blockOf A = some k) : k < w.heap.size := h.seg.lt hk
theorem PStep.refl : PStep p A w w := Step.refl _ _
theorem pstep_still (h : Step (fun _ => False) w w') : PStep p A w w' := h.mono (fun _ _ h => h.elim)
end

def named (s : ByteArray) (x : S38) : Bool := decide (x.f0 = s)
/-- Where the one of that name stands; below 0: it isn't there. -/
def atv (l : List S38) (s : ByteArray) : Int := ixv (named s) l

set_option maxRecDepth 100000 in
set_option maxHeartbeats 1000000 in
theorem at_calls {w : World} {p : Nat} {A : Option Addr} {c : Nat} {l : List S38} (h : PAt w p A c l) (hmax : l.length ≤ 1000000) (s : ByteArray) :
    Calls Try.prog 26 #[.pointer (some ⟨p, 0, none⟩), .string s] w fun e w' => e = .returned (.int .i64 (atv l s)) ∧ Step (fun _ => False) w w' := by
  have hi : ∀ w1 v, Step (fun _ => False) w w1 → Blk w1 v 9 [.string s] → _ := fun w1 v hs hv => index_at_calls hv (h.seg.keep hs (fun _ _ h => h)) hmax
  go_enter Try.func26, Try.ntmps26
  go_upto_region 1 with (fail)
  refine alloc_next (cs := [.string s]) ?_
  intro w1 hE hs1
  have c0 := (h.blk.keep hs1 (fun h => h)).cell (i := 0) rfl
  have HC := hi _ _ hs1 hE
  clear hi
  go_wp2_with (go_at_call 40; refine HC.mono ?_; rintro e1 w2 ⟨rfl, hs2⟩)
  go_ret
  exact ⟨rfl, hs1.same hs2⟩

set_option maxRecDepth 100000 in
set_option maxHeartbeats 1000000 in
theorem sweep_calls {w : World} {p : Nat} {A : Option Addr} {c : Nat} {l : List S38} (h : PAt w p A c l) (hmax : l.length ≤ 1000000) :
    Calls Try.prog 29 #[.pointer (some ⟨p, 0, none⟩)] w fun e w' => e = .returned (.tuple #[]) ∧ PAt w' p A c (swept l) ∧ PStep p A w w' := by
  have c0 := h.blk.cell (i := 0) rfl
  have f0 := h.blk.free 0
  have HD := delete_calls h.seg hmax
  go_enter Try.func29, Try.ntmps29
  go_wp2_with (go_at_call 43; refine HD.mono ?_; rintro e1 w1 ⟨n1, rfl, hL1, hs1⟩; have hB1 := h.blk.keep hs1 (fun hk => h.ne _ hk rfl); have d0 := hB1.cell (i := 0) rfl; have g0 := hB1.free 0)
  obtain rfl := hL1.len
  have hst : Step (· = p) w1 (w1.setCell ⟨p, 0, none⟩ (.slice A (swept l).length c)) := step_put w1 p 0 _
  go_end0
  exact ⟨rfl, ⟨hB1.set 0 _, hL1.keep hst (fun k hk e => h.ne k hk e), h.ne⟩, (hs1.mono (fun _ _ h => .inr h)).same (hst.mono (fun _ _ h => .inl h))⟩

set_option maxRecDepth 100000 in
set_option maxHeartbeats 1000000 in
theorem new_calls {w : World} : Calls Try.prog 7 #[] w fun e w' => ∃ p, e = .returned (.pointer (some ⟨p, 0, none⟩)) ∧ PAt w' p none 0 [] ∧ w.heap.size ≤ p ∧ Step (fun _ => False) w w' := by
  go_enter Try.func7, Try.ntmps7
  go_wp2
  go_ret
  exact ⟨w.heap.size, rfl, ⟨blk_new w _ _, fseg_nil _ _ _, fun k hk => by simp [blockOf] at hk⟩, Nat.le_refl _, (Step.refl _ _).alloc _⟩

set_option maxRecDepth 100000 in
set_option maxHeartbeats 1000000 in
theorem list_calls {w : World} {p : Nat} {A : Option Addr} {c : Nat} {l : List S38} (h : PAt w p A c l) (hmax : l.length ≤ 1000000) :
    Calls Try.prog 16 #[.pointer (some ⟨p, 0, none⟩)] w fun e w' => ∃ A' c', e = .returned (.slice A' l.length c') ∧ BSeg w' A' l.length c' l ∧ (∀ k, blockOf A' = some k → w.heap.size ≤ k) ∧ Step (fun _ => False) w w' := by
  have c0 := h.blk.cell (i := 0) rfl
  have HD := clone_calls h.seg hmax
  go_enter Try.func16, Try.ntmps16
  go_wp2_with (go_at_call 30; refine HD.mono ?_; rintro e1 w1 ⟨A1, c1, rfl, hL1, hn1, hb1⟩)
  go_ret
  exact ⟨A1, c1, rfl, hL1, hn1, Step.of_below hb1⟩

set_option maxRecDepth 100000 in
set_option maxHeartbeats 1000000 in
theorem pclone_calls {w : World} {p : Nat} {A : Option Addr} {c : Nat} {l : List S38} (h : PAt w p A c l) (hmax : l.length ≤ 1000000) :
    Calls Try.prog 23 #[.pointer (some ⟨p, 0, none⟩)] w fun e w' => ∃ q A' c', e = .returned (.pointer (some ⟨q, 0, none⟩)) ∧ PAt w' q A' c' l ∧ w.heap.size ≤ q ∧ (∀ k, blockOf A' = some k → w.heap.size ≤ k) ∧ Step (fun _ => False) w w' := by
  have c0 := h.blk.cell (i := 0) rfl
  have HD := clone_calls h.seg hmax
  go_enter Try.func23, Try.ntmps23
  go_wp2_with (go_at_call 30; refine HD.mono ?_; rintro e1 w1 ⟨A1, c1, rfl, hL1, hn1, hb1⟩)
  go_ret
  have hst : Step (fun _ => False) w1 (w1.alloc (.cells #[.slice A1 l.length c1] 53)) := (Step.refl _ _).alloc _
  exact ⟨w1.heap.size, A1, c1, rfl, ⟨blk_new w1 _ _, hL1.keep hst (fun _ _ h => h), fun k hk => by have := hL1.lt hk; omega⟩, hb1.size, hn1, (Step.of_below hb1).same hst⟩

/-- How many requests all have. -/
def bsum (l : List S38) : Int := (l.map (·.f4)).sum
theorem bsum_le : ∀ (l : List S38), (∀ x ∈ l, 0 ≤ x.f4 ∧ x.f4 ≤ 65535) → 0 ≤ bsum l ∧ bsum l ≤ 65535 * (l.length : Int)
  | [], _ => by simp [bsum]
  | x :: r, h => by
    have h1 := bsum_le r (fun y hy => h y (List.mem_cons_of_mem _ hy))
    have h2 := h x (List.mem_cons_self ..)
    simp only [bsum, List.map_cons, List.sum_cons, List.length_cons] at h1 ⊢
    omega
theorem bsum_take (l : List S38) (i : Nat) (x : S38) (h : l[i]? = some x) : bsum (l.take (i + 1)) = bsum (l.take i) + x.f4 := by
  rw [List.take_add_one, h]
  simp [bsum]

end Go.Proofs.Yteebahjpoafhmaa.Pool
