/- The numbers handed in: New, Push, Left, Short. Own work of this seat. -/
import Derived.Test.YtlmppdpjjkdoaaaSegs
import Derived.Test.YtlmppdpjjkdoaaaDrawsPure
import Derived.WalkSpells
namespace Go.Proofs.Ytlmppdpjjkdoaaa.Draws
open Go.RowKit Go.Proofs.Ytlmppdpjjkdoaaa.Kit Go.Proofs.Ytlmppdpjjkdoaaa.PDrawsTwo Go.Proofs.YtlmppdpjjkdoaaaW.PrintWords Go.Proofs.YtlmppdpjjkdoaaaW.PrintLast Go.Proofs.YtlmppdpjjkdoaaaW.PrintMore
set_option linter.unusedVariables false
set_option linter.unusedSimpArgs false

def uvals (xs : List Int) : List Value := xs.map fun x => .int .u64 x
theorem uvals_length (xs : List Int) : (uvals xs).length = xs.length := by simp [uvals]
theorem uvals_append (xs ys : List Int) : uvals (xs ++ ys) = uvals xs ++ uvals ys := by simp [uvals]
theorem uvals_one (xs : List Int) : ∀ v ∈ uvals xs, v.oneCell' = true := by
  intro v hv
  obtain ⟨x, _, rfl⟩ := List.mem_map.1 hv
  rfl
def Fits (xs : List Int) : Prop := ∀ x ∈ xs, 0 ≤ x ∧ x < 18446744073709551616

/-- The numbers xs and the count s lie behind the pointer to block p; all that holds them is new since base. -/
structure DAt (base : Nat) (w : World) (p : Nat) (xs : List Int) (s : Int) (A : Option Addr) (n c : Nat) : Prop where
  low : base ≤ p
  blk : Blk w p 94 [.slice A n c, .int .i64 s]
  seg : Seg w 76 A n c (uvals xs)
  far : ∀ k, blockOf A = some k → base ≤ k ∧ k ≠ p
  fits : Fits xs
theorem DAt.len {base : Nat} {w : World} {p : Nat} {xs : List Int} {s : Int} {A : Option Addr} {n c : Nat} (h : DAt base w p xs s A n c) : n = xs.length := by
  have := h.seg.len; rw [uvals_length] at this; exact this.symm
theorem DAt.keep {base : Nat} {w w' : World} {p : Nat} {xs : List Int} {s : Int} {A : Option Addr} {n c : Nat} (h : DAt base w p xs s A n c) (hb : Step (fun _ => False) w w') : DAt base w' p xs s A n c :=
  ⟨h.low, h.blk.keep hb (fun h => h), h.seg.keep hb (fun _ _ h => h), h.far, h.fits⟩

/-- From w to w' all that was there ahead of base stays. -/
theorem below_of_step {base : Nat} {F : Nat → Prop} {w w' : World} (h : Step F w w') (hb : base ≤ w.heap.size) (hF : ∀ k, F k → base ≤ k) : Below base w w' := h.below hb hF

set_option maxRecDepth 100000 in
set_option maxHeartbeats 4000000 in
theorem new_calls (w : World) : Calls Try.prog 35 #[] w fun e w' => ∃ p, e = .returned (.pointer (some ⟨p, 0, none⟩)) ∧ DAt w.heap.size w' p [] 0 none 0 0 ∧ Below w.heap.size w w' := by
  go_enter Try.func35, Try.ntmps35
  go_wp2
  go_ret
  exact ⟨w.heap.size, rfl, ⟨Nat.le_refl _, blk_new w _ _, seg_nil _ _, by intro k hk; simp [blockOf] at hk, by intro x hx; simp at hx⟩, below_alloc (Below.refl _ _) _⟩

set_option maxRecDepth 100000 in
set_option maxHeartbeats 4000000 in
theorem short_calls {base : Nat} {w : World} {p : Nat} {xs : List Int} {s : Int} {A : Option Addr} {n c : Nat} (h : DAt base w p xs s A n c) : Calls Try.prog 38 #[.pointer (some ⟨p, 0, none⟩)] w fun e w' => e = .returned (.int .i64 s) ∧ w' = w := by
  have c0 := h.blk.cell (i := 0) rfl
  have c1 := h.blk.cell (i := 1) rfl
  go_enter Try.func38, Try.ntmps38
  go_wp2
  go_ret
  exact ⟨rfl, rfl⟩

set_option maxRecDepth 100000 in
set_option maxHeartbeats 4000000 in
theorem left_calls {base : Nat} {w : World} {p : Nat} {xs : List Int} {s : Int} {A : Option Addr} {n c : Nat} (h : DAt base w p xs s A n c) (hn : n ≤ 9223372036854775807) : Calls Try.prog 59 #[.pointer (some ⟨p, 0, none⟩)] w fun e w' => e = .returned (.int .i64 n) ∧ w' = w := by
  have c0 := h.blk.cell (i := 0) rfl
  have c1 := h.blk.cell (i := 1) rfl
  go_enter Try.func59, Try.ntmps59
  go_wp2
  go_ret
  exact ⟨rfl, rfl⟩

set_option maxRecDepth 100000 in
set_option maxHeartbeats 4000000 in
theorem push_calls {base : Nat} {w : World} {p : Nat} {xs : List Int} {s : Int} {A : Option Addr} {n c : Nat} (h : DAt base w p xs s A n c) {B : Option Addr} {m cB : Nat} {ys : List Int} (hB : Src w B m (uvals ys)) (hy : Fits ys) (hb : (n + m) * 8 ≤ 140737488355328) :
    Calls Try.prog 36 #[.pointer (some ⟨p, 0, none⟩), .slice B m cB] w fun e w' => e = .returned (.tuple #[]) ∧ (∃ A' c', DAt base w' p (xs ++ ys) s A' (n + m) c') ∧ Below base w w' := by
  have c0 := h.blk.cell (i := 0) rfl
  have c1 := h.blk.cell (i := 1) rfl
  have f0 := h.blk.free 0
  obtain ⟨i0, hi0, hp⟩ : ∃ i, Try.prog.info? 76 = some i ∧ (i.zero, i.size, i.bytes) = (some (Value.int .u64 0), 1, 8) := by
    exact Option.map_eq_some_iff.1 (by kernel_rfl : (Try.prog.info? 76).map (fun i => (i.zero, i.size, i.bytes)) = some (some (Value.int .u64 0), 1, 8))
  simp only [Prod.mk.injEq] at hp
  obtain ⟨hz0, hs0, hy0⟩ := hp
  have hpl := h.blk.lt
  have hbp := h.low
  go_enter Try.func36, Try.ntmps36
  go_wp2_with (at_builtin; refine wpList_append_seg_seg _ rfl (.tmp 8) (.tmp 9) 60 rfl 76 i0 _ Try.underlying60 hi0 hz0 rfl hs0 hy0 rfl h.seg rfl hB (uvals_one _) hb ?_; intro A2 c2' w2 hg2 hs2 hat2; have hB2 := h.blk.keep hs2 (fun hk => (h.far p hk).2 rfl); have d0 := hB2.cell (i := 0) rfl; have e0 := hB2.free 0)
  have hst : Step (· = p) w2 (w2.setCell ⟨p, 0, none⟩ (.slice A2 (n + m) c2')) := step_put w2 p 0 _
  have hfar : ∀ k, blockOf A2 = some k → base ≤ k ∧ k ≠ p := by
    intro k hk
    rcases hat2 with hat2 | ⟨j, hj, hjl⟩
    · exact h.far k (hat2 ▸ hk)
    · obtain rfl : j = k := Option.some.inj (hj.symm.trans hk)
      exact ⟨by omega, by omega⟩
  go_end0
  refine ⟨rfl, ⟨A2, c2', hbp, hB2.set 0 _, ?_, hfar, ?_⟩, ?_⟩
  · rw [uvals_append]; exact hg2.keep hst (fun k hk e => (hfar k hk).2 e)
  · intro x hx; rcases List.mem_append.1 hx with hx | hx
    · exact h.fits x hx
    · exact hy x hx
  · exact ((hs2.mono (G := fun k => base ≤ k) (fun j _ hk => (h.far j hk).1)).same (hst.mono (G := fun k => base ≤ k) (fun j _ e => by have e' : j = p := e; omega))).below (by omega) (fun k h => h)
end Go.Proofs.Ytlmppdpjjkdoaaa.Draws
