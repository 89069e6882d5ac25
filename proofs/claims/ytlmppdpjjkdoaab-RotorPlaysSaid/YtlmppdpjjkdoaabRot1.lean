/- rotor: New, Mark, the set's closure, slices.IndexFunc, DeleteFunc and Clone of entries whose names are all different, once. Own work of this seat. -/
import Derived.Test.YtlmppdpjjkdoaabMaps
import Derived.Test.YtlmppdpjjkdoaabRotFew
import Derived.WalkSpells
namespace Go.Proofs.Ytlmppdpjjkdoaab.Rot
open Go.RowKit Go.Proofs.Ytlmppdpjjkdoaab.Kit Go.Proofs.Ytlmppdpjjkdoaab.PRotorPlays Go.Proofs.YtlmppdpjjkdoaabW.PrintWords Go.Proofs.YtlmppdpjjkdoaabW.PrintLast Go.Proofs.YtlmppdpjjkdoaabW.PrintMore
set_option linter.unusedVariables false
set_option linter.unusedSimpArgs false

/-- The marks lie behind the pointer to block p, in the map of block b. -/
structure RAt (w : World) (p b n : Nat) (f : ByteArray → Int) : Prop where
  blk : Blk w p 70 [.map (some b)]
  map : MInt w b n f
  ne : p ≠ b
theorem RAt.keep {w w' : World} {F : Nat → Prop} {p b n : Nat} {f : ByteArray → Int} (h : RAt w p b n f) (hs : Step F w w') (hp : ¬ F p) (hb : ¬ F b) : RAt w' p b n f := ⟨h.blk.keep hs hp, h.map.keep hs hb, h.ne⟩

/-- Entries: the slice A's elements; name and weight are two cells. -/
def ecells (l : List (ByteArray × Int)) : List Value := l.flatMap fun e => [.string e.1, .int .i64 e.2]
def ERow (w : World) (A : Option Addr) (l : List (ByteArray × Int)) : Prop :=
  l = [] ∨ ∃ g o, A = some ⟨g, o, none⟩ ∧ ∀ i e, l[i]? = some e → w.cell? ⟨g, o + i * 2, none⟩ = some (.string e.1) ∧ w.cell? ⟨g, o + i * 2 + 1, none⟩ = some (.int .i64 e.2)
def Short (l : List (ByteArray × Int)) : Prop := ∀ e ∈ l, e.1.size ≤ 1000

set_option maxRecDepth 100000 in
set_option maxHeartbeats 1000000 in
theorem new_calls (w : World) : Calls Try.prog 14 #[] w fun e w' => ∃ p b, e = .returned (.pointer (some ⟨p, 0, none⟩)) ∧ RAt w' p b 0 (fun _ => 0) ∧ w.heap.size ≤ p ∧ w.heap.size ≤ b ∧ Below w.heap.size w w' := by
  have hmm := @run_makeMap Try.prog
  go_enter Try.func14, Try.ntmps14
  go_wp2
  go_ret
  have e1 : (w.alloc (.map #[] 0)).heap.size = w.heap.size + 1 := by show (w.heap.push _).size = _; simp
  have hb := blk_new (w.alloc (.map #[] 0)) [.map (some w.heap.size)] 70
  rw [e1] at hb
  exact ⟨w.heap.size + 1, w.heap.size, rfl, ⟨hb, (mint_new w).keep (Step.alloc (Step.refl (fun _ => False) _) _) (fun h => h), by omega⟩, by omega, by omega, (below_alloc (Below.refl _ _) _).alloc (by rw [e1]; omega) _⟩

set_option maxRecDepth 100000 in
set_option maxHeartbeats 1000000 in
theorem mark_calls {w : World} {p b n : Nat} {f : ByteArray → Int} (h : RAt w p b n f) (s : ByteArray) (hs : s.size ≤ 1000) : Calls Try.prog 17 #[.pointer (some ⟨p, 0, none⟩), .string s] w fun e w' => e = .returned (.int .i64 (f s)) ∧ w' = w := by
  have c0 := h.blk.cell (i := 0) rfl
  go_enter Try.func17, Try.ntmps17
  go_wp2_with (at_lookup; refine wpList_mint_look rfl _ _ rfl h.map hs rfl rfl ?_)
  go_ret
  exact ⟨rfl, rfl⟩

set_option maxRecDepth 100000 in
set_option maxHeartbeats 1000000 in
theorem del_calls {w : World} {v b n : Nat} {g : ByteArray → Bool} (hv : Blk w v 91 [.map (some b)]) (hm : MSet w b n g) (hne : v ≠ b) (hn : n ≤ 1000000) (e : ByteArray × Int) (hs : e.1.size ≤ 1000) :
    Calls Try.prog 49 #[.agg #[.string e.1, .int .i64 e.2], .pointer (some ⟨v, 0, none⟩)] w fun e' w' => e' = .returned (.bool (g e.1)) ∧ MSet w' b (n + 1) (fun t => decide (t = e.1) || g t) ∧ Step (· = b) w w' := by
  have c0 := hv.cell (i := 0) rfl
  go_enter Try.func49, Try.ntmps49
  obtain ⟨s, z⟩ := e
  go_upto_region 1 with (fail)
  refine alloc_next (cs := [.string s, .int .i64 z]) ?_
  intro w1 hE hs1
  have hv1 := hv.keep hs1 (fun h => h)
  have hm1 := hm.keep hs1 (fun h => h)
  have hbl := hm.lt
  have d0 := hv1.cell (i := 0) rfl
  have e0 := hE.cell (i := 0) rfl
  have e1 := hE.cell (i := 1) rfl
  have d0' := (hv1.alloc (.cells #[] 93)).cell (i := 0) rfl
  have e0' := (hE.alloc (.cells #[] 93)).cell (i := 0) rfl
  clear c0
  generalize w.heap.size = eb at *
  go_wp2_with (first | (at_lookup; refine wpList_mset_look rfl _ _ rfl hm1 hs rfl rfl ?_) | (at_mapUpdate; refine wpList_mset_put rfl _ _ _ rfl (hm1.keep (Step.alloc (Step.refl (fun _ => False) w1) _) (fun h => h)) hn hs rfl rfl rfl ?_; intro w2 hm2 hs2))
  go_ret
  exact ⟨rfl, hm2, (hs1.mono (fun _ _ h => h.elim)).same ((Step.alloc (Step.refl (· = b) w1) _).same hs2)⟩
end Go.Proofs.Ytlmppdpjjkdoaab.Rot
