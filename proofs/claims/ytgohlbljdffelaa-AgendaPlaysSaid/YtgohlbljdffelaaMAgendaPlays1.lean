/- Lemmas and walks of the texts Kit, Flat, RSeg, Wk, HeapP, AgP, It20, Cmp, MapG, AgAStr, AgBStr, AgCStr, AgMStr, AgDStr, AgEStr, AgFStr, AgGStr, AgHStr, AgIStr, AgSStr, AgTStr, one behind the other: no condition. Own work of this seat. -/
import Derived.WalkKit
import Derived.KernelRfl
import Derived.RowKit3
import Derived.OneCell
import Derived.Laws.AppendOwn
import Derived.Laws.IdiomCopy
import Derived.Lib.AppendStr
import Derived.Lib.Hide
import Derived.Deep.Draws
import Derived.Laws.Slices
import Derived.Laws.CopyRow
import Derived.Laws.BytesArg
import Derived.Laws.Tables
import Derived.Test.YtgohlbljdffelaaProg
import Derived.Below
import Derived.Deep.AppendLies
import Derived.Maps.AppendAt
import Derived.OwnWalk
import Derived.Laws.MakeOwn
import Derived.Laws.OwnMore
import Derived.Deep.OwnRows
import Derived.Tactics
import Derived.Lib.ConvBytes
import Derived.Deep.LoopGhost
import Derived.Deep.QuietTactic
import Derived.BigQuiet
import Derived.WideLaws
import Derived.Deep.DeepCutAuto
import Derived.Deep.CutBlock
import Derived.Deep.RegionHeld3
import Derived.Laws.Rows
import Derived.ArgAppend
import Derived.OrdersHeld
import Derived.Laws.BitsLemmas
import Derived.RowKit
import Derived.Deep.Cut
import Derived.Deep.CutRange
import Derived.BigRegion
import Derived.StillTailTactics
import Derived.Lib.SliceRun
import Derived.WalkSpells
import Derived.WalkLawsBesides
import Derived.Defers
import Derived.Outline
import Derived.Deep.DeepFit
import Derived.Maps.OwnOps
import Derived.Maps.OwnSet
import Derived.Maps.Views
/- Words for walks by hand: how a world steps to another (all but some blocks stay), blocks known whole, slices that may begin inside their block. Own work of this seat; no condition. -/
namespace Go.Proofs.Ytgohlbljdffelaa.Kit
open Go.RowKit

/-- From w to w' all that was there stays, but for the blocks of F. -/
structure Step (F : Nat → Prop) (w w' : World) : Prop where
  os : w'.os = w.os
  tape : w'.tape = w.tape
  output : w'.output = w.output
  size : w.heap.size ≤ w'.heap.size
  block : ∀ k, k < w.heap.size → ¬ F k → w'.heap[k]? = w.heap[k]?

theorem Step.refl (F : Nat → Prop) (w : World) : Step F w w := ⟨rfl, rfl, rfl, Nat.le_refl _, fun _ _ _ => rfl⟩
theorem Step.trans {F G : Nat → Prop} {a b c : World} (h : Step F a b) (k : Step G b c) (hG : ∀ j, j < a.heap.size → G j → F j) : Step F a c :=
  ⟨k.os.trans h.os, k.tape.trans h.tape, k.output.trans h.output, Nat.le_trans h.size k.size, fun j hj hF => (k.block j (Nat.lt_of_lt_of_le hj h.size) (fun hg => hF (hG j hj hg))).trans (h.block j hj hF)⟩
theorem Step.mono {F G : Nat → Prop} {a b : World} (h : Step F a b) (hG : ∀ j, j < a.heap.size → F j → G j) : Step G a b :=
  ⟨h.os, h.tape, h.output, h.size, fun j hj hg => h.block j hj (fun hf => hg (hG j hj hf))⟩
theorem Step.same {F : Nat → Prop} {a b c : World} (h : Step F a b) (k : Step F b c) : Step F a c := h.trans k (fun _ _ h => h)
theorem Step.drew {F : Nat → Prop} {a w : World} (h : Step F a w) : Step F a w.drew := ⟨h.os, h.tape, h.output, h.size, h.block⟩
theorem Step.drewN {F : Nat → Prop} {a w : World} (h : Step F a w) (n : Nat) : Step F a (w.drewN n) := ⟨h.os, h.tape, h.output, h.size, h.block⟩
theorem Step.alloc {F : Nat → Prop} {a w : World} (h : Step F a w) (o : Obj) : Step F a (w.alloc o) :=
  ⟨h.os, h.tape, h.output, Nat.le_trans h.size (by show _ ≤ (w.heap.push o).size; rw [Array.size_push]; omega), fun j hj hF => (Below.heap_alloc w o j (Nat.lt_of_lt_of_le hj h.size)).trans (h.block j hj hF)⟩
theorem Step.setCell {F : Nat → Prop} {a w : World} (h : Step F a w) {p : Addr} (hp : p.block < a.heap.size → F p.block) (u : Value) : Step F a (w.setCell p u) :=
  ⟨h.os, h.tape, h.output, by simpa [World.setCell] using h.size, fun j hj hF => (Below.heap_setCell w p u j (fun e => hF (by rw [e] at hj ⊢; exact hp hj))).trans (h.block j hj hF)⟩
theorem Step.of_below {F : Nat → Prop} {w w' : World} (h : Below w.heap.size w w') : Step F w w' := ⟨h.os, h.tape, h.output, h.size, fun j hj _ => h.block j hj⟩
theorem Step.of_grown {F : Nat → Prop} {w w' : World} {row : Option Nat} (h : w.grownBy w' row) (hr : ∀ k, row = some k → k < w.heap.size → F k) : Step F w w' :=
  ⟨h.os, h.tape, h.output, h.size, fun j hj hF => h.block j hj (fun e => hF (hr j e.symm hj))⟩
theorem Step.below {F : Nat → Prop} {B : Nat} {w w' : World} (h : Step F w w') (hB : B ≤ w.heap.size) (hF : ∀ k, F k → B ≤ k) : Below B w w' :=
  ⟨h.os, h.tape, h.output, h.size, fun k hk => h.block k (Nat.lt_of_lt_of_le hk hB) (fun hf => by have := hF k hf; omega)⟩
theorem Step.then_below {F : Nat → Prop} {a b c : World} (h : Step F a b) (k : Below b.heap.size b c) : Step F a c := h.same (Step.of_below k)

/-- Block b is known whole. -/
def Blk (w : World) (b : Nat) (T : TypeId) (cs : List Value) : Prop := w.heap[b]? = some (.cells cs.toArray T (0, 0))
section
variable {w w' : World} {b : Nat} {T : TypeId} {cs : List Value} {F : Nat → Prop}
theorem Blk.lt (h : Blk w b T cs) : b < w.heap.size := lt_of_block h
theorem Blk.cell (h : Blk w b T cs) {i : Nat} {u : Value} (hi : cs[i]? = some u) : w.cell? ⟨b, i, none⟩ = some u := by
  unfold Blk at h
  simp [World.cell?, h, hi]
theorem Blk.free (h : Blk w b T cs) (i : Nat) : w.frozen? ⟨b, i, none⟩ = false := by
  unfold Blk at h
  simp [World.frozen?, h]
theorem Blk.keep (h : Blk w b T cs) (hs : Step F w w') (hb : ¬ F b) : Blk w' b T cs := (hs.block b h.lt hb).trans h
theorem Blk.drew (h : Blk w b T cs) : Blk w.drew b T cs := h
theorem Blk.drewN (h : Blk w b T cs) (n : Nat) : Blk (w.drewN n) b T cs := h
theorem Blk.alloc (h : Blk w b T cs) (o : Obj) : Blk (w.alloc o) b T cs := (Below.heap_alloc w o b h.lt).trans h
theorem Blk.set (h : Blk w b T cs) (i : Nat) (u : Value) : Blk (w.setCell ⟨b, i, none⟩ u) b T (cs.set i u) := by
  unfold Blk at h ⊢
  simp [World.setCell, Array.getElem?_modify, h]
theorem Blk.other (h : Blk w b T cs) {p : Addr} (hp : b ≠ p.block) (u : Value) : Blk (w.setCell p u) b T cs := (Below.heap_setCell w p u b hp).trans h
theorem blk_new (w : World) (cs : List Value) (T : TypeId) : Blk (w.alloc (.cells cs.toArray T (0, 0))) w.heap.size T cs := by
  show (w.heap.push _)[w.heap.size]? = _
  simp
end

theorem step_put (w : World) (b i : Nat) (u : Value) : Step (· = b) w (w.setCell ⟨b, i, none⟩ u) := (Step.refl (· = b) w).setCell (p := ⟨b, i, none⟩) (fun _ => rfl) u

/-- Behind a store into a block that is known whole (its region drew): the world gets a letter. -/
theorem put_drew {P : Program} {c : Code} {Q : Exit → Act → World → Prop} {a : Act} {w : World} {b : Nat} {T : TypeId} {cs : List Value} {i : Nat} {u : Value} (h : Blk w b T cs)
    (k : ∀ w1, Blk w1 b T (cs.set i u) → Step (· = b) w w1 → Code.wp P c Q a w1) : Code.wp P c Q a (w.setCell ⟨b, i, none⟩ u).drew :=
  k _ (h.set i u) (((Step.refl (· = b) w).setCell (p := ⟨b, i, none⟩) (fun _ => rfl) u).drew)
theorem put_plain {P : Program} {c : Code} {Q : Exit → Act → World → Prop} {a : Act} {w : World} {b : Nat} {T : TypeId} {cs : List Value} {i : Nat} {u : Value} (h : Blk w b T cs)
    (k : ∀ w1, Blk w1 b T (cs.set i u) → Step (· = b) w w1 → Code.wp P c Q a w1) : Code.wp P c Q a (w.setCell ⟨b, i, none⟩ u) :=
  k _ (h.set i u) ((Step.refl (· = b) w).setCell (p := ⟨b, i, none⟩) (fun _ => rfl) u)

/-- Behind a new block. -/
theorem alloc_next {P : Program} {c : Code} {Q : Exit → Act → World → Prop} {a : Act} {w : World} {T : TypeId} {cs : List Value}
    (k : ∀ w1, Blk w1 w.heap.size T cs → Step (fun _ => False) w w1 → Code.wp P c Q a w1) : Code.wp P c Q a (w.alloc (.cells cs.toArray T)) :=
  k _ (blk_new w cs T) ((Step.refl _ _).alloc _)

/-- Behind two new blocks. -/
theorem alloc_next2 {P : Program} {c : Code} {Q : Exit → Act → World → Prop} {a : Act} {w : World} {T T' : TypeId} {cs ds : List Value}
    (k : ∀ w1, Blk w1 w.heap.size T cs → Blk w1 (w.heap.size + 1) T' ds → Step (fun _ => False) w w1 → w.heap.size + 1 < w1.heap.size → Code.wp P c Q a w1) : Code.wp P c Q a ((w.alloc (.cells cs.toArray T)).alloc (.cells ds.toArray T')) := by
  have e : (w.alloc (.cells cs.toArray T)).heap.size = w.heap.size + 1 := by show (w.heap.push _).size = _; simp
  have h2 := blk_new (w.alloc (.cells cs.toArray T)) ds T'
  rw [e] at h2
  exact k _ ((blk_new w cs T).alloc _) h2 (((Step.refl _ _).alloc _).alloc _) h2.lt

/-- The slice .slice A n c (elements of type e, one cell each) reads as xs; its block is known up to its capacity. -/
def Seg (w : World) (e : TypeId) (A : Option Addr) (n c : Nat) (xs : List Value) : Prop :=
  xs.length = n ∧ ((A = none ∧ c = 0 ∧ xs = []) ∨ ∃ g o cur, A = some ⟨g, o, none⟩ ∧ w.heap[g]? = some (.cells cur e (0, 0)) ∧ n ≤ c ∧ o + c ≤ cur.size ∧ ∀ i u, xs[i]? = some u → cur[o + i]? = some u)

/-- A slice's block. -/
def blockOf : Option Addr → Option Nat
  | some a => some a.block
  | none => none

section
variable {w w' : World} {e : TypeId} {A : Option Addr} {n c : Nat} {xs : List Value} {F : Nat → Prop}
theorem seg_nil (w : World) (e : TypeId) : Seg w e none 0 0 [] := ⟨rfl, .inl ⟨rfl, rfl, rfl⟩⟩
theorem Seg.len (h : Seg w e A n c xs) : xs.length = n := h.1
theorem Seg.le (h : Seg w e A n c xs) : n ≤ c := by
  obtain ⟨h1, ⟨rfl, rfl, rfl⟩ | ⟨g, o, cur, rfl, _, h2, _⟩⟩ := h
  · simp at h1; omega
  · exact h2
theorem Seg.keep (h : Seg w e A n c xs) (hs : Step F w w') (hF : ∀ k, blockOf A = some k → ¬ F k) : Seg w' e A n c xs := by
  obtain ⟨h1, ⟨rfl, rfl, rfl⟩ | ⟨g, o, cur, rfl, h2, h3⟩⟩ := h
  · exact ⟨h1, .inl ⟨rfl, rfl, rfl⟩⟩
  · exact ⟨h1, .inr ⟨g, o, cur, rfl, (hs.block g (lt_of_block h2) (hF g rfl)).trans h2, h3⟩⟩
theorem Seg.lt (h : Seg w e A n c xs) {k : Nat} (hk : blockOf A = some k) : k < w.heap.size := by
  obtain ⟨h1, ⟨rfl, rfl, rfl⟩ | ⟨g, o, cur, rfl, h2, h3⟩⟩ := h
  · cases hk
  · obtain rfl : g = k := Option.some.inj hk
    exact lt_of_block h2
theorem Seg.cell (h : Seg w e A n c xs) {i : Nat} {u : Value} (hi : xs[i]? = some u) : ∃ g o, A = some ⟨g, o, none⟩ ∧ w.cell? ⟨g, o + i, none⟩ = some u := by
  obtain ⟨h1, ⟨rfl, rfl, rfl⟩ | ⟨g, o, cur, rfl, h2, h3, h4, h5⟩⟩ := h
  · simp at hi
  · exact ⟨g, o, rfl, by simp [World.cell?, h2, h5 i u hi]⟩
theorem Blk.seg {b : Nat} {T : TypeId} {cs : List Value} (h : Blk w b T cs) (hn : n = cs.length) : Seg w T (some ⟨b, 0, none⟩) n n cs := by
  subst hn
  exact ⟨rfl, .inr ⟨b, 0, cs.toArray, rfl, h, Nat.le_refl _, by simp, fun i u hi => by simpa using hi⟩⟩
/-- xs[k:] -/
theorem seg_drop {P : Program} {t : TypeId} (ht : P.underlying t = some (.slice (P.elem t))) (hsz : ∀ wx, (sizeOf (P.elem t)).run P wx = .ok 1 wx) (h : Seg w e A n c xs) {k : Nat} (kI : Int) (hkI : kI = (k : Int)) (hk : k ≤ n) :
    ∃ A' c', (∀ wx, (Instr.slice t (.slice A n c) (some (.int .i64 kI)) none none).run P wx = .ok (.slice A' (n - k) c') wx) ∧ Seg w e A' (n - k) c' (xs.drop k) ∧ blockOf A' = blockOf A ∧ c' = c - k := by
  subst hkI
  refine ⟨if c = k then A else A.map (·.add (k * 1)), c - k, fun wx => ?_, ?_, ?_, rfl⟩
  · rw [run_slice_l (P := P) wx t A n c ht .i64 (k : Int) (by omega) (by omega), hsz wx]
    simp [Result.andThen, sliced]
  · obtain ⟨h1, ⟨rfl, rfl, rfl⟩ | ⟨g, o, cur, rfl, h2, h3, h4, h5⟩⟩ := h
    · simp at h1
      subst h1
      exact ⟨by simp, .inl ⟨by simp, by simp, by simp⟩⟩
    · refine ⟨by simp [h1], .inr ?_⟩
      by_cases hck : c = k
      · rw [if_pos hck]
        exact ⟨g, o, cur, rfl, h2, by omega, by omega, fun i u hi => by
          rw [List.getElem?_drop, List.getElem?_eq_none (by omega)] at hi
          cases hi⟩
      · rw [if_neg hck]
        refine ⟨g, o + k, cur, ?_, h2, by omega, by omega, fun i u hi => ?_⟩
        · simp only [Option.map_some, Addr.add, Nat.mul_one]
          by_cases hk0 : k = 0
          · subst hk0; simp
          · simp [hk0]
        · rw [List.getElem?_drop] at hi
          rw [Nat.add_assoc]
          exact h5 _ _ hi
  · by_cases hck : c = k
    · rw [if_pos hck]
    · rw [if_neg hck]
      cases A with
      | none => rfl
      | some a => simp only [Option.map_some, blockOf, Addr.add]; split <;> rfl
end

section
variable {P : Program} (w : World)
open Go.Lib
/-- A string's bytes behind what a slice reads. -/
theorem run_append_seg_string (t u ty e : TypeId) (i : TypeInfo) (ht : P.underlying t = some (.slice e)) (hu : P.underlying u = some .string) (hi : P.info? e = some i) (hz : i.zero = some (.int .u8 0)) (hs1 : i.size = 1) (hby : i.bytes = 1)
    {A : Option Addr} {n c : Nat} {xs : List Value} (h : Seg w e A n c xs) (s : ByteArray) (hb : n + s.size ≤ 140737488355328) :
    ∃ A' c' w', (Builtin.append_ #[t, u] ty #[.slice A n c, .string s]).run P w = .ok (.slice A' (n + s.size) c') w' ∧ Seg w' e A' (n + s.size) c' (xs ++ strCells s) ∧ Step (fun k => blockOf A = some k) w w' ∧ (blockOf A' = blockOf A ∨ ∃ k, blockOf A' = some k ∧ w.heap.size ≤ k) := by
  have hlen : (xs ++ strCells s).length = n + s.size := by rw [List.length_append, h.len, strCells_length]
  have one1 : (Value.int IntKind.u8 0).cells.size = 1 := rfl
  have grown : ∀ (old : Nat), old < n + s.size →
      Seg (w.drew.alloc (.cells (xs.toArray ++ (strCells s).toArray ++ Builtin.zeroCells (Value.int .u8 0).cells (grownCap w (n + s.size) old e - (n + s.size))) e)) e (some ⟨w.heap.size, 0, none⟩) (n + s.size) (grownCap w (n + s.size) old e) (xs ++ strCells s) := by
    intro old ho
    have hge := grownCap_ge w (n + s.size) old e
    have hxl := h.len
    refine ⟨hlen, .inr ⟨w.heap.size, 0, _, rfl, heap_alloc_new w.drew _, hge, ?_, fun j u hj => ?_⟩⟩
    · simp only [Array.size_append, List.size_toArray, size_zeroCells, one1, hxl, strCells_length]
      omega
    · rw [Nat.zero_add, ← Array.getElem?_toList]
      simp only [Array.toList_append, List.append_assoc]
      rw [← List.append_assoc, List.getElem?_append_left (List.getElem?_eq_some_iff.1 hj).1]
      exact hj
  obtain ⟨hxl, ⟨rfl, rfl, rfl⟩ | ⟨g, o, cur, rfl, hg, hnc, hcs, hcell⟩⟩ := h
  · obtain rfl : n = 0 := by simpa using hxl.symm
    by_cases hm : s.size = 0
    · have hn : strCells s = [] := List.eq_nil_of_length_eq_zero (by rw [strCells_length]; exact hm)
      have hf := run_firstCells_string (P := P) w 1 s
      rw [hm] at hf
      refine ⟨none, 0, w, ?_, by rw [hm, hn]; exact seg_nil w e, Step.refl _ _, .inl rfl⟩
      simp [Builtin.append_, run_underlying ht, run_underlying hu, sizeOf, typeInfo, hi, hs1, Builtin.lenOf, hm, hf]
    · have hr := run_append_nil_string (P := P) w t u ty e i (.int .u8 0) ht hu hi hz s (by omega) (by omega) (by rw [hby]; omega)
      have hgr := grown 0 (by omega)
      simp only [Nat.zero_add, List.nil_append, Array.empty_append] at hgr ⊢
      have e1 : (s.data.map fun b => Value.int .u8 b.toNat) = (strCells s).toArray := by
        apply Array.ext'
        simp [strCells]
      rw [e1] at hr
      exact ⟨_, _, _, hr, hgr, (Step.refl _ _).drew.alloc _, .inr ⟨_, rfl, Nat.le_refl _⟩⟩
  · by_cases hroom : n + s.size ≤ c
    · have hf := run_firstCells_string (P := P) w 1 s
      have hst := run_storeCells_at P g (o + n) e (strCells s) 0 cur w hg (by rw [strCells_length]; omega) (strCells_oneCell s)
      simp only [Nat.add_zero, strCells_length] at hst
      have hadd : (⟨g, o, none⟩ : Addr).add (n * 1) = ⟨g, o + n, none⟩ := by
        unfold Addr.add
        by_cases hn : n = 0
        · subst hn; simp
        · simp [hn]
      have hl3 : (cur.toList.take (o + n)).length = o + n := by rw [List.length_take, Array.length_toList]; omega
      refine ⟨some ⟨g, o, none⟩, c, w.setRow g (cur.toList.take (o + n) ++ strCells s ++ cur.toList.drop (o + n + s.size)).toArray, ?_, ⟨hlen, .inr ⟨g, o, _, rfl, setRow_heap w g cur _ e _ hg, hroom, ?_, fun j u hj => ?_⟩⟩, ⟨rfl, rfl, rfl, by simp, fun k _ hk => setRow_other w g k _ (fun e => hk (by simp [blockOf, e]))⟩, .inl rfl⟩
      · simp only [Nat.mul_one] at hadd
        simp [Builtin.append_, run_underlying ht, run_underlying hu, sizeOf, typeInfo, hi, hs1, Builtin.lenOf, hroom, hf, hadd, hst]
      · simp only [List.size_toArray, List.length_append, hl3, List.length_drop, Array.length_toList, strCells_length]
        omega
      · rw [List.getElem?_toArray]
        rcases Nat.lt_or_ge j n with hjn | hjn
        · rw [List.getElem?_append_left (by omega)] at hj
          rw [List.append_assoc, List.getElem?_append_left (by omega), List.getElem?_take, if_pos (by omega), Array.getElem?_toList]
          exact hcell j u hj
        · rw [List.getElem?_append_right (by omega), hxl] at hj
          rw [List.append_assoc, List.getElem?_append_right (by omega), hl3, List.getElem?_append_left (by have := (List.getElem?_eq_some_iff.1 hj).1; omega), show o + j - (o + n) = j - n by omega]
          exact hj
    · have hr := run_append_grow_string (P := P) w t u ty e i (.int .u8 0) ht hu hi hz ⟨g, o, none⟩ n c xs (by rw [hs1]; omega) (fun j u hj => by
        have hadd : (⟨g, o, none⟩ : Addr).add j = ⟨g, o + j, none⟩ := by
          unfold Addr.add
          by_cases hn : j = 0
          · subst hn; simp
          · simp [hn]
        rw [hadd]
        simp [World.cell?, hg, hcell j u hj]) s (by omega) (by omega) (by rw [hby]; exact growslice_fits (by omega) (by omega))
      exact ⟨_, _, _, hr, grown c (by omega), (Step.refl _ _).drew.alloc _, .inr ⟨_, rfl, Nat.le_refl _⟩⟩

/-- The operation, for the walk. -/
theorem wpList_append_seg_string {ops : Array Oper} {rest : List Oper} {o : Oper} {a : Act} {Q : Exit → Act → World → Prop} (hgd : o.guard = none) (sl x : Operand) (t u : TypeId)
    (ho : o.op = .call { callee := .builtin .append, args := #[sl, x], argTypes := #[t, u] })
    (e : TypeId) (i : TypeInfo) (ht : P.underlying t = some (.slice e)) (hu : P.underlying u = some .string) (hi : P.info? e = some i) (hz : i.zero = some (.int .u8 0)) (hs1 : i.size = 1) (hby : i.bytes = 1)
    {A : Option Addr} {n c : Nat} {xs : List Value} (hs : a.eval sl = .slice A n c) (hseg : Seg w e A n c xs) (s : ByteArray) (hx : a.eval x = .string s) (hb : n + s.size ≤ 140737488355328)
    (h : ∀ A' c' w', Seg w' e A' (n + s.size) c' (xs ++ strCells s) → Step (fun k => blockOf A = some k) w w' → (blockOf A' = blockOf A ∨ ∃ k, blockOf A' = some k ∧ w.heap.size ≤ k) → wpList P ops Q rest (a.put o.dst (.slice A' (n + s.size) c')) w') : wpList P ops Q (o :: rest) a w := by
  refine wpList_plain hgd fun K hK => ?_
  obtain ⟨A', c', w', hr, h2, h3, h4⟩ := run_append_seg_string (P := P) w t u o.type e i ht hu hi hz hs1 hby hseg s hb
  unfold Oper.wp execOp
  simp only [ho, resolve, invoke, builtin, Sem.run_bind, Sem.run_pure, Result.andThen_ok, List.map_toArray, List.map_cons, List.map_nil, hs, hx, hr]
  exact hK _ _ (h A' c' w' h2 h3 h4)
end

section
variable {P : Program} (w : World)
/-- copy into a block that is known whole, from its head on. -/
theorem run_copy_seg (dT sT ty elem : TypeId) (hu : P.underlying dT = some (.slice elem)) (hs : (P.info? elem).map (·.size) = some 1) {g : Nat} {T : TypeId} {L : List Value} (hL : Blk w g T L) {dLen dCap : Nat} (hd : dLen = L.length)
    {e : TypeId} {A : Option Addr} {n c : Nat} {xs : List Value} (h : Seg w e A n c xs) (hn : n ≤ dLen) (h1 : ∀ v ∈ xs, v.oneCell' = true) :
    ∃ w', (Builtin.copy_ #[dT, sT] ty #[.slice (some ⟨g, 0, none⟩) dLen dCap, .slice A n c]).run P w = .ok (goInt n) w' ∧ Blk w' g T (xs ++ L.drop n) ∧ Step (· = g) w w' := by
  have hxl := h.len
  have hc : ∀ a, A = some a → ∀ j v, xs[j]? = some v → w.cell? (a.add j) = some v := by
    intro a ha j v hj
    obtain ⟨g', o', he, hc⟩ := h.cell hj
    rw [ha] at he
    cases he
    have hadd : (⟨g', o', none⟩ : Addr).add j = ⟨g', o' + j, none⟩ := by
      unfold Addr.add
      by_cases hn : j = 0
      · subst hn; simp
      · simp [hn]
    rw [hadd]; exact hc
  cases A with
  | none =>
    obtain ⟨_, ⟨_, rfl, rfl⟩ | ⟨g', o', cur, he, _⟩⟩ := h
    · obtain rfl : n = 0 := by simpa using hxl.symm
      exact ⟨w, run_copy_nil (P := P) w dT sT ty elem _ _ _ hu (by cases hq : P.info? elem <;> simp [hq] at hs ⊢), by simpa using hL, Step.refl _ _⟩
    · cases he
  | some a =>
    have hfit : 0 + xs.length ≤ L.toArray.size := by simp only [List.size_toArray]; omega
    have hmin : Nat.min n dLen = n := Nat.min_eq_left hn
    have hr := run_copy_row (P := P) w dT sT ty elem g 0 dLen dCap a n c L.toArray T xs hu hs hL (by rw [hmin, hxl]) (hc a rfl) hfit h1
    rw [hxl] at hr
    refine ⟨_, hr, ?_, ⟨rfl, rfl, rfl, by simp, fun k _ hk => setRow_other w g k _ (fun e => hk e)⟩⟩
    have hh := setRow_heap w g L.toArray (List.take 0 L.toArray.toList ++ xs ++ List.drop (0 + n) L.toArray.toList).toArray T (0, 0) hL
    simpa [Blk] using hh

theorem wpList_copy_seg {ops : Array Oper} {rest : List Oper} {o : Oper} {a : Act} {Q : Exit → Act → World → Prop} (hgd : o.guard = none) (d s : Operand) (dT sT elem : TypeId)
    (ho : o.op = .call { callee := .builtin .copy, args := #[d, s], argTypes := #[dT, sT] }) (hu : P.underlying dT = some (.slice elem)) (hsz : (P.info? elem).map (·.size) = some 1)
    {g : Nat} {T : TypeId} {L : List Value} (hL : Blk w g T L) {dLen dCap : Nat} (hdl : dLen = L.length) {e : TypeId} {A : Option Addr} {n c : Nat} {xs : List Value} (hseg : Seg w e A n c xs) (hn : n ≤ dLen) (h1 : ∀ v ∈ xs, v.oneCell' = true)
    (hd : a.eval d = .slice (some ⟨g, 0, none⟩) dLen dCap) (hs : a.eval s = .slice A n c)
    (h : ∀ w', Blk w' g T (xs ++ L.drop n) → Step (· = g) w w' → wpList P ops Q rest (a.put o.dst (goInt n)) w') : wpList P ops Q (o :: rest) a w := by
  refine wpList_plain hgd fun K hK => ?_
  obtain ⟨w', hr, h2, h3⟩ := run_copy_seg (P := P) w dT sT o.type elem hu hsz hL (dCap := dCap) hdl hseg hn h1
  unfold Oper.wp execOp
  simp only [ho, resolve, invoke, builtin, Sem.run_bind, Sem.run_pure, Result.andThen_ok, List.map_toArray, List.map_cons, List.map_nil, hd, hs, hr]
  exact hK _ _ (h w' h2 h3)
end

section
variable {P : Program} (w : World)
/-- A whole row stored into a block that is known whole. -/
theorem store_row {g : Nat} {T : TypeId} {L cs : List Value} (h : Blk w g T L) (hl : cs.length = L.length) (h1 : ∀ v ∈ cs, v.oneCell' = true) :
    ∃ w', (storeCells ⟨g, 0, none⟩ cs).run P w = .ok () w' ∧ Blk w' g T cs ∧ Step (· = g) w w' := by
  have hst := run_storeCells_at P g 0 T cs 0 L.toArray w h (by simp [hl]) h1
  refine ⟨_, hst, ?_, ⟨rfl, rfl, rfl, by simp, fun k _ hk => setRow_other w g k _ (fun e => hk e)⟩⟩
  have hh := setRow_heap w g L.toArray (L.toArray.toList.take (0 + 0) ++ cs ++ L.toArray.toList.drop (0 + 0 + cs.length)).toArray T (0, 0) h
  simpa [Blk, hl] using hh

open Go.Lib in
/-- copy of a string's first bytes into a block that is known whole. -/
theorem run_copy_str (dT sT ty elem : TypeId) (hu : P.underlying dT = some (.slice elem)) (hs : (P.info? elem).map (·.size) = some 1) {g : Nat} {T : TypeId} {L : List Value} (hL : Blk w g T L) {dLen dCap : Nat} (hd : dLen = L.length) (s : ByteArray) :
    ∃ (w' : World) (n : Nat), (Builtin.copy_ #[dT, sT] ty #[.slice (some ⟨g, 0, none⟩) dLen dCap, .string s]).run P w = .ok (goInt n) w' ∧ Blk w' g T ((strCells s).take dLen ++ L.drop s.size) ∧ Step (· = g) w w' := by
  have hlen : ((strCells s).take (Nat.min s.size dLen)).length = Nat.min s.size dLen := by
    rw [List.length_take, strCells_length]
    exact Nat.min_eq_left (Nat.min_le_left _ _)
  have hml : Nat.min s.size dLen ≤ L.length := by rw [← hd]; exact Nat.min_le_right _ _
  have hst := run_storeCells_at P g 0 T ((strCells s).take (Nat.min s.size dLen)) 0 L.toArray w hL (by rw [hlen]; simpa using hml) (fun v hv => strCells_oneCell s v (List.mem_of_mem_take hv))
  rw [hlen] at hst
  simp only [Nat.add_zero, Nat.zero_add] at hst
  have e1 : (strCells s).take dLen ++ L.drop s.size = (strCells s).take (Nat.min s.size dLen) ++ L.drop (Nat.min s.size dLen) := by
    rcases Nat.le_total s.size dLen with h | h
    · rw [show Nat.min s.size dLen = s.size from Nat.min_eq_left h, List.take_of_length_le (by rw [strCells_length]; exact h), List.take_of_length_le (by rw [strCells_length]; exact Nat.le_refl _)]
    · rw [show Nat.min s.size dLen = dLen from Nat.min_eq_right h, List.drop_eq_nil_of_le (by omega), List.drop_eq_nil_of_le (by omega)]
  refine ⟨w.setRow g (L.toArray.toList.take 0 ++ (strCells s).take (Nat.min s.size dLen) ++ L.toArray.toList.drop (Nat.min s.size dLen)).toArray, Nat.min s.size dLen, ?_, ?_, ⟨rfl, rfl, rfl, by simp, fun k _ hk => setRow_other w g k _ (fun e => hk e)⟩⟩
  · cases hq : P.info? elem with
    | none => simp [hq] at hs
    | some i =>
      have htk : List.take (Nat.min s.size dLen) (List.map (fun b : UInt8 => Value.int IntKind.u8 (b.toNat : Int)) s.data.toList) = (strCells s).take (Nat.min s.size dLen) := rfl
      simp [Builtin.copy_, run_underlying hu, Builtin.lenOf, Builtin.firstCells, sizeOf, typeInfo, hq]
      rw [htk, hst]
      simp [Result.andThen]
  · rw [e1]
    have hh := setRow_heap w g L.toArray (L.toArray.toList.take 0 ++ (strCells s).take (Nat.min s.size dLen) ++ L.toArray.toList.drop (Nat.min s.size dLen)).toArray T (0, 0) hL
    simpa [Blk] using hh

open Go.Lib in
theorem wpList_copy_str {ops : Array Oper} {rest : List Oper} {o : Oper} {a : Act} {Q : Exit → Act → World → Prop} (hgd : o.guard = none) (d s : Operand) (dT sT elem : TypeId)
    (ho : o.op = .call { callee := .builtin .copy, args := #[d, s], argTypes := #[dT, sT] }) (hu : P.underlying dT = some (.slice elem)) (hsz : (P.info? elem).map (·.size) = some 1)
    {g : Nat} {T : TypeId} {L : List Value} (hL : Blk w g T L) {dLen dCap : Nat} (hdl : dLen = L.length) (t : ByteArray) (hd : a.eval d = .slice (some ⟨g, 0, none⟩) dLen dCap) (hs : a.eval s = .string t)
    (h : ∀ w' (n : Nat), Blk w' g T ((strCells t).take dLen ++ L.drop t.size) → Step (· = g) w w' → wpList P ops Q rest (a.put o.dst (goInt n)) w') : wpList P ops Q (o :: rest) a w := by
  refine wpList_plain hgd fun K hK => ?_
  obtain ⟨w', n, hr, h2, h3⟩ := run_copy_str (P := P) w dT sT o.type elem hu hsz hL (dCap := dCap) hdl t
  unfold Oper.wp execOp
  simp only [ho, resolve, invoke, builtin, Sem.run_bind, Sem.run_pure, Result.andThen_ok, List.map_toArray, List.map_cons, List.map_nil, hd, hs, hr]
  exact hK _ _ (h w' n h2 h3)
end
end Go.Proofs.Ytgohlbljdffelaa.Kit

/- Rows of elements of several cells each, held flat. Own work of this seat. -/
namespace Go.Proofs.Ytgohlbljdffelaa.Kit
open Go.RowKit
set_option linter.unusedVariables false
set_option linter.unusedSimpArgs false

theorem addr_add' (g o k : Nat) : (⟨g, o, none⟩ : Addr).add k = ⟨g, o + k, none⟩ := by
  unfold Addr.add
  by_cases hk : k = 0
  · subst hk; simp
  · simp [hk]

/-- The slice .slice A n c (elements of type T, k cells each) begins at its block, and its cells are cs. -/
def FSeg (w : World) (T : TypeId) (k : Nat) (A : Option Addr) (n c : Nat) (cs : List Value) : Prop :=
  cs.length = n * k ∧ ((A = none ∧ c = 0 ∧ n = 0 ∧ cs = []) ∨ ∃ g cur, A = some ⟨g, 0, none⟩ ∧ w.heap[g]? = some (.cells cur T (0, 0)) ∧ n ≤ c ∧ c * k ≤ cur.size ∧ ∀ (j : Nat) (v : Value), cs[j]? = some v → cur[j]? = some v)
section
variable {w w' : World} {T : TypeId} {k : Nat} {A : Option Addr} {n c : Nat} {cs : List Value} {F : Nat → Prop}
theorem fseg_nil (w : World) (T : TypeId) (k : Nat) : FSeg w T k none 0 0 [] := ⟨by simp, .inl ⟨rfl, rfl, rfl, rfl⟩⟩
theorem FSeg.keep (h : FSeg w T k A n c cs) (hs : Step F w w') (hF : ∀ j, blockOf A = some j → ¬ F j) : FSeg w' T k A n c cs := by
  obtain ⟨h1, ⟨rfl, rfl, rfl, rfl⟩ | ⟨g, cur, rfl, h2, h3⟩⟩ := h
  · exact ⟨h1, .inl ⟨rfl, rfl, rfl, rfl⟩⟩
  · exact ⟨h1, .inr ⟨g, cur, rfl, (hs.block g (lt_of_block h2) (hF g rfl)).trans h2, h3⟩⟩
theorem FSeg.lt (h : FSeg w T k A n c cs) {j : Nat} (hj : blockOf A = some j) : j < w.heap.size := by
  obtain ⟨h1, ⟨rfl, rfl, rfl, rfl⟩ | ⟨g, cur, rfl, h2, h3⟩⟩ := h
  · cases hj
  · obtain rfl : g = j := Option.some.inj hj
    exact lt_of_block h2
theorem FSeg.le (h : FSeg w T k A n c cs) : n ≤ c := by
  obtain ⟨h1, ⟨rfl, rfl, rfl, rfl⟩ | ⟨g, cur, rfl, h2, h3, h4⟩⟩ := h
  · exact Nat.le_refl _
  · exact h3
theorem FSeg.isSome (h : FSeg w T k A n c cs) (hn : 0 < n) : ∃ g, A = some ⟨g, 0, none⟩ := by
  obtain ⟨h1, ⟨rfl, rfl, rfl, rfl⟩ | ⟨g, cur, rfl, h2, h3⟩⟩ := h
  · omega
  · exact ⟨g, rfl⟩
theorem FSeg.cell {g : Nat} (h : FSeg w T k (some ⟨g, 0, none⟩) n c cs) {j : Nat} {v : Value} (hj : cs[j]? = some v) : w.cell? ⟨g, j, none⟩ = some v := by
  obtain ⟨h1, ⟨h0, _⟩ | ⟨g', cur, e, h2, h3, h4, h5⟩⟩ := h
  · cases h0
  · obtain rfl : g = g' := by simpa using e
    simp [World.cell?, h2, h5 j v hj]
theorem FSeg.free {g : Nat} (h : FSeg w T k (some ⟨g, 0, none⟩) n c cs) (j : Nat) : w.frozen? ⟨g, j, none⟩ = false := by
  obtain ⟨h1, ⟨h0, _⟩ | ⟨g', cur, e, h2, h3, h4, h5⟩⟩ := h
  · cases h0
  · obtain rfl : g = g' := by simpa using e
    simp [World.frozen?, h2]
theorem FSeg.set {g : Nat} (h : FSeg w T k (some ⟨g, 0, none⟩) n c cs) (j : Nat) (v : Value) : FSeg (w.setCell ⟨g, j, none⟩ v) T k (some ⟨g, 0, none⟩) n c (cs.set j v) := by
  obtain ⟨h1, ⟨h0, _⟩ | ⟨g', cur, e, h2, h3, h4, h5⟩⟩ := h
  · cases h0
  · obtain rfl : g = g' := by simpa using e
    refine ⟨by rw [List.length_set]; exact h1, .inr ⟨g, cur.setIfInBounds j v, rfl, by simp [World.setCell, Array.getElem?_modify, h2], h3, by simpa using h4, fun i u hi => ?_⟩⟩
    rw [Array.getElem?_setIfInBounds]
    rw [List.getElem?_set] at hi
    by_cases e : j = i
    · subst e
      rw [if_pos rfl] at hi ⊢
      have hil : j < cs.length := by
        rcases Nat.lt_or_ge j cs.length with h | h
        · exact h
        · rw [if_neg (by omega)] at hi; cases hi
      rw [if_pos hil] at hi
      have hq := h5 j cs[j] (List.getElem?_eq_getElem hil)
      rw [if_pos (by exact (Array.getElem?_eq_some_iff.1 hq).1)]
      exact hi
    · rw [if_neg e] at hi ⊢
      exact h5 i u hi
/-- s[:m] -/
theorem FSeg.take (h : FSeg w T k A n c cs) {m : Nat} (hm : m ≤ n) : FSeg w T k A m c (cs.take (m * k)) := by
  obtain ⟨h1, ⟨rfl, rfl, rfl, rfl⟩ | ⟨g, cur, rfl, h2, h3, h4, h5⟩⟩ := h
  · obtain rfl : m = 0 := by omega
    exact ⟨by simp, .inl ⟨rfl, rfl, rfl, by simp⟩⟩
  · refine ⟨by rw [List.length_take, h1]; exact Nat.min_eq_left (Nat.mul_le_mul_right k hm), .inr ⟨g, cur, rfl, h2, by omega, h4, fun j v hj => ?_⟩⟩
    rw [List.getElem?_take] at hj
    split at hj
    · exact h5 j v hj
    · cases hj
end

section
variable {P : Program}
/-- append, of cells that stand in a row somewhere. -/
theorem run_append_flat (w : World) (t ty e : TypeId) (i : TypeInfo) (z : Value) (k by_ : Nat) (ht : P.underlying t = some (.slice e)) (hi : P.info? e = some i) (hz : i.zero = some z) (hzs : z.cells.size = k) (hs1 : i.size = k) (hby : i.bytes = by_) (hb48 : by_ ≤ 1000)
    {A : Option Addr} {n c m cB : Nat} {l r : List Value} (h : FSeg w e k A n c l) {aB : Addr} (hm : r.length = m * k) (hm0 : A = none → 0 < m) (hone : ∀ v ∈ r, v.oneCell' = true) (hcB : ∀ j v, r[j]? = some v → w.cell? (aB.add j) = some v) (hb : n + m ≤ 1000000) :
    ∃ A' c' w', (Builtin.append_ #[t, t] ty #[.slice A n c, .slice (some aB) m cB]).run P w = .ok (.slice A' (n + m) c') w' ∧ FSeg w' e k A' (n + m) c' (l ++ r) ∧ Step (fun k => blockOf A = some k) w w' ∧ (blockOf A' = blockOf A ∨ ∃ k, blockOf A' = some k ∧ w.heap.size ≤ k) := by
  have hbb : ∀ x : Nat, x ≤ 1000000 → x * by_ ≤ 1000000000 := fun x hx => Nat.le_trans (Nat.mul_le_mul hx hb48) (by omega)
  have hlen : (l ++ r).length = (n + m) * k := by rw [List.length_append, h.1, hm, Nat.add_mul]
  have grown : ∀ (old : Nat), old < n + m →
      FSeg (w.drew.alloc (.cells (l.toArray ++ r.toArray ++ Builtin.zeroCells z.cells (grownCap w (n + m) old e - (n + m))) e)) e k (some ⟨w.heap.size, 0, none⟩) (n + m) (grownCap w (n + m) old e) (l ++ r) := by
    intro old ho
    have hge := grownCap_ge w (n + m) old e
    refine ⟨hlen, .inr ⟨w.heap.size, _, rfl, heap_alloc_new w.drew _, hge, ?_, fun j u hj => ?_⟩⟩
    · simp only [Array.size_append, List.size_toArray, size_zeroCells, hzs, h.1, hm]
      rw [← Nat.add_mul, ← Nat.add_mul]
      exact Nat.mul_le_mul_right k (by omega)
    · rw [← Array.getElem?_toList]
      simp only [Array.toList_append, List.append_assoc]
      rw [← List.append_assoc, List.getElem?_append_left (List.getElem?_eq_some_iff.1 hj).1]
      exact hj
  obtain ⟨hxl, ⟨rfl, rfl, rfl, rfl⟩ | ⟨g, cur, rfl, hg, hnc, hcs, hcell⟩⟩ := h
  · have hm0' := hm0 rfl
    have hr := run_append_nil (P := P) w t ty e i z ht hi hz aB m cB r (by rw [hs1]; exact hm) hcB hm0' (by omega) (by rw [hby]; have := hbb m (by omega); omega)
    have hgr := grown 0 (by omega)
    simp only [Nat.zero_add, List.nil_append, Array.empty_append] at hgr ⊢
    exact ⟨_, _, _, hr, hgr, (Step.refl _ _).drew.alloc _, .inr ⟨_, rfl, Nat.le_refl _⟩⟩
  · by_cases hroom : n + m ≤ c
    · have hf := run_firstCells_some (P := P) w k m aB m cB r hm hcB
      have hnk : n * k + m * k ≤ cur.size := by
        rw [← Nat.add_mul]; exact Nat.le_trans (Nat.mul_le_mul_right k hroom) hcs
      have hst := run_storeCells_at P g (0 + n * k) e r 0 cur w hg (by omega) hone
      simp only [Nat.add_zero, Nat.zero_add] at hst
      have hadd := addr_add' g 0 (n * k)
      rw [Nat.zero_add] at hadd
      have hl3 : (cur.toList.take (n * k)).length = n * k := by rw [List.length_take, Array.length_toList]; omega
      refine ⟨some ⟨g, 0, none⟩, c, w.setRow g (cur.toList.take (n * k) ++ r ++ cur.toList.drop (n * k + r.length)).toArray, ?_, ⟨hlen, .inr ⟨g, _, rfl, setRow_heap w g cur _ e _ hg, hroom, ?_, fun j u hj => ?_⟩⟩, ⟨rfl, rfl, rfl, by simp, fun k _ hk => setRow_other w g k _ (fun e => hk (by simp [blockOf, e]))⟩, .inl rfl⟩
      · simp [Builtin.append_, run_underlying ht, sizeOf, typeInfo, hi, hs1, Builtin.lenOf, hroom, hf, hadd, hst]
      · simp only [List.size_toArray, List.length_append, hl3, List.length_drop, Array.length_toList]
        omega
      · rw [List.getElem?_toArray]
        rcases Nat.lt_or_ge j (n * k) with hjn | hjn
        · rw [List.getElem?_append_left (by omega)] at hj
          rw [List.append_assoc, List.getElem?_append_left (by omega), List.getElem?_take, if_pos (by omega), Array.getElem?_toList]
          exact hcell j u hj
        · rw [List.getElem?_append_right (by omega), hxl] at hj
          rw [List.append_assoc, List.getElem?_append_right (by omega), hl3, List.getElem?_append_left (by have := (List.getElem?_eq_some_iff.1 hj).1; omega)]
          exact hj
    · have hr := run_append_grow (P := P) w t ty e i z ht hi hz ⟨g, 0, none⟩ n c l (by rw [hs1]; exact hxl) (fun j u hj => by rw [addr_add', Nat.zero_add]; simp [World.cell?, hg, hcell j u hj]) aB m cB r (by rw [hs1]; exact hm) hcB (by omega) (by omega) (by rw [hby]; exact growslice_fits (by omega) (Nat.le_trans (hbb (n + m) hb) (by omega)))
      exact ⟨_, _, _, hr, grown c (by omega), (Step.refl _ _).drew.alloc _, .inr ⟨_, rfl, Nat.le_refl _⟩⟩

theorem wpList_append_flat (w : World) {ops : Array Oper} {rest : List Oper} {o : Oper} {a : Act} {Q : Exit → Act → World → Prop} (hgd : o.guard = none) (sl x : Operand) (t : TypeId)
    (ho : o.op = .call { callee := .builtin .append, args := #[sl, x], argTypes := #[t, t] })
    (e : TypeId) (i : TypeInfo) (z : Value) (k by_ : Nat) (ht : P.underlying t = some (.slice e)) (hi : P.info? e = some i) (hz : i.zero = some z) (hzs : z.cells.size = k) (hs1 : i.size = k) (hby : i.bytes = by_) (hb48 : by_ ≤ 1000)
    {A : Option Addr} {n c m cB : Nat} {l r : List Value} (hs : a.eval sl = .slice A n c) (h0 : FSeg w e k A n c l) {aB : Addr} (hx : a.eval x = .slice (some aB) m cB) (hm : r.length = m * k) (hm0 : A = none → 0 < m) (hone : ∀ v ∈ r, v.oneCell' = true) (hcB : ∀ j v, r[j]? = some v → w.cell? (aB.add j) = some v) (hb : n + m ≤ 1000000)
    (h : ∀ A' c' w', FSeg w' e k A' (n + m) c' (l ++ r) → Step (fun k => blockOf A = some k) w w' → (blockOf A' = blockOf A ∨ ∃ k, blockOf A' = some k ∧ w.heap.size ≤ k) → wpList P ops Q rest (a.put o.dst (.slice A' (n + m) c')) w') : wpList P ops Q (o :: rest) a w := by
  refine wpList_plain hgd fun K hK => ?_
  obtain ⟨A', c', w', hr, h2, h3, h4⟩ := run_append_flat (P := P) (cB := cB) w t o.type e i z k by_ ht hi hz hzs hs1 hby hb48 h0 hm hm0 hone hcB hb
  unfold Oper.wp execOp
  simp only [ho, resolve, invoke, builtin, Sem.run_bind, Sem.run_pure, Result.andThen_ok, List.map_toArray, List.map_cons, List.map_nil, hs, hx, hr]
  exact hK _ _ (h A' c' w' h2 h3 h4)

/-- clear(s[m:]), of a row that begins at its block. -/
theorem run_clear_tail {w : World} (t ty : TypeId) (e : TypeId) (z : Value) (k : Nat) (ht : P.underlying t = some (.slice e)) (hv : ∀ w, (zeroValue e).run P w = .ok z w) (hzs : z.cells.size = k) (hz1 : ∀ v ∈ z.cells.toList, v.oneCell' = true)
    {g n c m : Nat} {cs : List Value} (cB : Nat) (h : FSeg w e k (some ⟨g, 0, none⟩) n c cs) (hm : m < n) :
    ∃ w', (Builtin.clear_ #[t] ty #[.slice (some ⟨g, m * k, none⟩) (n - m) cB]).run P w = .ok (.tuple #[]) w' ∧ FSeg w' e k (some ⟨g, 0, none⟩) m c (cs.take (m * k)) ∧ Step (· = g) w w' := by
  obtain ⟨hl, ⟨h0, _⟩ | ⟨g', cur, e', hg, h3, h4, h5⟩⟩ := h
  · cases h0
  obtain rfl : g = g' := by simpa using e'
  have hzl : (Builtin.zeroCells z.cells (n - m)).toList.length = (n - m) * k := by rw [Array.length_toList, size_zeroCells, hzs]
  have hnm : m * k + (n - m) * k = n * k := by rw [← Nat.add_mul, Nat.add_sub_cancel' (by omega)]
  have hnc : n * k ≤ c * k := Nat.mul_le_mul_right k h3
  have hone : ∀ v ∈ (Builtin.zeroCells z.cells (n - m)).toList, v.oneCell' = true := by
    intro v hv
    have hv' : v ∈ Builtin.zeroCells z.cells (n - m) := by simpa using hv
    unfold Builtin.zeroCells at hv'
    obtain ⟨q, hq, rfl⟩ := Array.mem_map.1 hv'
    rw [Array.mem_range] at hq
    have hz0 : 0 < z.cells.size := by
      rcases Nat.eq_zero_or_pos z.cells.size with h | h
      · rw [h] at hq; omega
      · exact h
    have hlt := Nat.mod_lt q hz0
    rw [getElem!_pos z.cells _ hlt]
    exact hz1 _ (by simp)
  have hst := run_storeCells_at P g (m * k) e (Builtin.zeroCells z.cells (n - m)).toList 0 cur w hg (by rw [hzl]; omega) hone
  refine ⟨_, ?_, ⟨by rw [List.length_take, hl]; exact Nat.min_eq_left (by omega), .inr ⟨g, _, rfl, setRow_heap w g cur (cur.toList.take (m * k) ++ (Builtin.zeroCells z.cells (n - m)).toList ++ cur.toList.drop (m * k + (Builtin.zeroCells z.cells (n - m)).toList.length)).toArray e _ hg, by omega, ?_, fun j u hj => ?_⟩⟩, ⟨rfl, rfl, rfl, by simp, fun k _ hk => setRow_other w g k _ (fun e => hk e)⟩⟩
  · have hr : (storeCells ⟨g, m * k, none⟩ (Builtin.zeroCells z.cells (n - m)).toList).run P w = .ok () (w.setRow g (cur.toList.take (m * k) ++ (Builtin.zeroCells z.cells (n - m)).toList ++ cur.toList.drop (m * k + (Builtin.zeroCells z.cells (n - m)).toList.length)).toArray) := hst
    clear hst hone hzl hnm hnc
    obtain ⟨q, hq⟩ : ∃ q, n - m = q + 1 := ⟨n - m - 1, by omega⟩
    rw [hq] at hr ⊢
    simp [Builtin.clear_, run_underlying ht, hv]
    simpa using congrArg (fun r => r.andThen fun _ w => .ok (Value.tuple #[]) w) hr
  · simp only [List.size_toArray, List.length_append, List.length_take, List.length_drop, Array.length_toList, hzl, size_zeroCells, hzs]
    omega
  · rw [List.getElem?_toArray]
    rw [List.getElem?_take] at hj
    split at hj
    · rename_i hjm
      rw [List.append_assoc, List.getElem?_append_left (by rw [List.length_take, Array.length_toList]; omega), List.getElem?_take, if_pos hjm, Array.getElem?_toList]
      exact h5 j u hj
    · cases hj
end
section
variable {P : Program}
/-- A whole element is stored. -/
theorem wpList_store_flat {ops : Array Oper} {rest : List Oper} {o : Oper} {a : Act} {w : World} {Q : Exit → Act → World → Prop} (hgd : o.guard = none) (ty : TypeId) (x y : Operand) (ho : o.op = .store ty x y)
    {T : TypeId} {k g n c m : Nat} {cs vs : List Value} (hv : vs.length = k) (hi : (P.info? ty).map (·.size) = some k) (h1 : ∀ v ∈ vs, v.oneCell' = true) (h : FSeg w T k (some ⟨g, 0, none⟩) n c cs) (hm : m < n)
    (hx : a.eval x = .pointer (some ⟨g, m * k, none⟩)) (hy : a.eval y = .agg vs.toArray)
    (hK : ∀ w', FSeg w' T k (some ⟨g, 0, none⟩) n c (cs.take (m * k) ++ vs ++ cs.drop (m * k + k)) → Step (· = g) w w' → wpList P ops Q rest (a.put o.dst undef) w') : wpList P ops Q (o :: rest) a w := by
  obtain ⟨hl, ⟨h0, _⟩ | ⟨g', cur, e', hg, h3, h4, h5⟩⟩ := h
  · cases h0
  obtain rfl : g = g' := by simpa using e'
  have hmk : m * k + k ≤ n * k := by rw [← Nat.succ_mul]; exact Nat.mul_le_mul_right k hm
  have hnc : n * k ≤ c * k := Nat.mul_le_mul_right k h3
  have hst := run_storeCells_at P g (m * k) T vs 0 cur w hg (by omega) h1
  have hst' : (storeCells ⟨g, m * k, none⟩ vs).run P w = .ok () (w.setRow g (cur.toList.take (m * k) ++ vs ++ cur.toList.drop (m * k + k)).toArray) := by
    rw [hv] at hst; simpa using hst
  have hlt : (cur.toList.take (m * k)).length = m * k := by rw [List.length_take, Array.length_toList]; omega
  refine wpList_plain hgd fun K hK' => ?_
  have hnew := hK _ ⟨by simp only [List.length_append, List.length_take, List.length_drop]; omega, .inr ⟨g, _, rfl, setRow_heap w g cur (cur.toList.take (m * k) ++ vs ++ cur.toList.drop (m * k + k)).toArray T _ hg, h3, ?_, fun j u hj => ?_⟩⟩ ⟨rfl, rfl, rfl, by simp, fun k _ hk => setRow_other w g k _ (fun e => hk e)⟩
  · cases hq : P.info? ty with
    | none => simp [hq] at hi
    | some i =>
      have hs : i.size = k := by simpa [hq] using hi
      have hr : (storeVar ty ⟨g, m * k, none⟩ (.agg vs.toArray)).run P w = .ok () (w.setRow g (cur.toList.take (m * k) ++ vs ++ cur.toList.drop (m * k + k)).toArray) := by
        have hvs : vs.toArray.size = i.size := by simp [hs, hv]
        simp only [List.size_toArray] at hvs
        simp [storeVar, sizeOf, typeInfo, hq, Value.cells, hvs, hst']
      unfold Oper.wp execOp
      simp only [ho, hx, hy, Instr.storeAt, Instr.sureAddr, Sem.run_bind, Sem.run_pure, Result.andThen_ok, hr]
      exact hK' _ _ hnew
  · simp only [List.size_toArray, List.length_append, hlt, List.length_drop, Array.length_toList]
    omega
  · rw [List.getElem?_toArray]
    rcases Nat.lt_or_ge j (m * k) with hjm | hjm
    · rw [List.append_assoc, List.getElem?_append_left (by rw [List.length_take]; omega), List.getElem?_take, if_pos hjm] at hj
      rw [List.append_assoc, List.getElem?_append_left (by omega), List.getElem?_take, if_pos hjm, Array.getElem?_toList]
      exact h5 j u hj
    · have hlc : (cs.take (m * k)).length = m * k := by rw [List.length_take]; omega
      rw [List.append_assoc, List.getElem?_append_right (by omega), hlc] at hj
      rw [List.append_assoc, List.getElem?_append_right (by omega), hlt]
      rcases Nat.lt_or_ge (j - m * k) vs.length with hjv | hjv
      · rw [List.getElem?_append_left hjv] at hj ⊢
        exact hj
      · rw [List.getElem?_append_right hjv, List.getElem?_drop] at hj ⊢
        rw [Array.getElem?_toList]
        exact h5 _ _ hj
/-- A block that is known whole is stored over whole. -/
theorem wpList_store_blk {ops : Array Oper} {rest : List Oper} {o : Oper} {a : Act} {w : World} {Q : Exit → Act → World → Prop} (hgd : o.guard = none) (ty : TypeId) (x y : Operand) (ho : o.op = .store ty x y)
    {g : Nat} {T : TypeId} {cs vs : List Value} (h : Blk w g T cs) (hx : a.eval x = .pointer (some ⟨g, 0, none⟩)) (hy : a.eval y = .agg vs.toArray) (hi : (P.info? ty).map (·.size) = some vs.length) (hl : cs.length = vs.length) (h1 : ∀ v ∈ vs, v.oneCell' = true)
    (hK : ∀ w', Blk w' g T vs → Step (· = g) w w' → wpList P ops Q rest (a.put o.dst undef) w') : wpList P ops Q (o :: rest) a w := by
  refine wpList_store_row hgd ty x y ho g vs.toArray hx hy T cs.toArray h (by simpa using hi) (by simpa using hl) (by simpa using h1) (hK _ ?_ ⟨rfl, rfl, rfl, by simp, fun k _ hk => setRow_other w g k _ (fun e => hk e)⟩)
  exact setRow_heap w g cs.toArray vs.toArray T (0, 0) h
end
end Go.Proofs.Ytgohlbljdffelaa.Kit

/- Rows that are only read, wherever they begin; one element appended to a row of the call's own. Own work of this seat; no condition. -/
namespace Go.Proofs.Ytgohlbljdffelaa.Kit
open Go.RowKit
set_option linter.unusedVariables false
set_option linter.unusedSimpArgs false

theorem cell_block {w w' : World} {p : Addr} (h : w'.heap[p.block]? = w.heap[p.block]?) : w'.cell? p = w.cell? p := by
  unfold World.cell?
  rw [h]
theorem cell_lt' {w : World} {p : Addr} {v : Value} (h : w.cell? p = some v) : p.block < w.heap.size := by
  rcases Nat.lt_or_ge p.block w.heap.size with hl | hl
  · exact hl
  · unfold World.cell? at h
    rw [Array.getElem?_eq_none hl] at h
    simp at h
/-- The slice .slice A n c of elements of k cells reads as the cells cs. -/
def RSeg (w : World) (k : Nat) (A : Option Addr) (n : Nat) (cs : List Value) : Prop := cs.length = n * k ∧ ∀ j v, cs[j]? = some v → ∃ g o, A = some ⟨g, o, none⟩ ∧ w.cell? ⟨g, o + j, none⟩ = some v
section
variable {w w' : World} {T : TypeId} {k : Nat} {A : Option Addr} {n c : Nat} {cs : List Value} {F : Nat → Prop}
theorem FSeg.rseg (h : FSeg w T k A n c cs) : RSeg w k A n cs := by
  refine ⟨h.1, fun j v hj => ?_⟩
  obtain ⟨hl, ⟨rfl, rfl, rfl, rfl⟩ | ⟨g, cur, rfl, _⟩⟩ := id h
  · simp at hj
  · exact ⟨g, 0, rfl, by rw [Nat.zero_add]; exact FSeg.cell h hj⟩
theorem RSeg.keep (h : RSeg w k A n cs) (hs : Step F w w') (hF : ∀ j, blockOf A = some j → ¬ F j) : RSeg w' k A n cs := by
  refine ⟨h.1, fun j v hj => ?_⟩
  obtain ⟨g, o, rfl, hc⟩ := h.2 j v hj
  have hb := cell_lt' hc
  refine ⟨g, o, rfl, ?_⟩
  rw [cell_block (hs.block _ hb (hF _ rfl))]
  exact hc
theorem RSeg.same (h : RSeg w k A n cs) (hs : Step (fun _ => False) w w') : RSeg w' k A n cs := h.keep hs (fun _ _ h => h)
theorem RSeg.lt (h : RSeg w k A n cs) (hn : 0 < n) (hk : 0 < k) {j : Nat} (hj : blockOf A = some j) : j < w.heap.size := by
  have hl : 0 < cs.length := by rw [h.1]; exact Nat.mul_pos hn hk
  obtain ⟨g, o, rfl, hc⟩ := h.2 0 cs[0] (List.getElem?_eq_getElem hl)
  obtain rfl : g = j := Option.some.inj hj
  exact cell_lt' hc
theorem rseg_nil (w : World) (k : Nat) (A : Option Addr) : RSeg w k A 0 [] := ⟨by simp, fun j v hj => by simp at hj⟩
theorem RSeg.isSome (h : RSeg w k A n cs) (hk : 0 < k) (hn : 0 < n) : ∃ g o, A = some ⟨g, o, none⟩ := by
  have hl : 0 < cs.length := by rw [h.1]; exact Nat.mul_pos hn hk
  obtain ⟨g, o, e, hc⟩ := h.2 0 cs[0] (List.getElem?_eq_getElem hl)
  exact ⟨g, o, e⟩
theorem RSeg.cell {g o : Nat} (h : RSeg w k (some ⟨g, o, none⟩) n cs) {j : Nat} {v : Value} (hj : cs[j]? = some v) : w.cell? ⟨g, o + j, none⟩ = some v := by
  obtain ⟨g', o', e, hc⟩ := h.2 j v hj
  injection e with e
  injection e with e1 e2 _
  rw [e1, e2]
  exact hc
theorem RSeg.cell' {g o : Nat} (h : RSeg w k (some ⟨g, o, none⟩) n cs) {i j : Nat} {v : Value} (hj : cs[i + j]? = some v) : w.cell? ⟨g, o + i + j, none⟩ = some v := by
  rw [Nat.add_assoc]
  exact h.cell hj
/-- xs[m:] -/
theorem rseg_drop {P : Program} {t : TypeId} (ht : P.underlying t = some (.slice (P.elem t))) (hsz : ∀ wx, (sizeOf (P.elem t)).run P wx = .ok k wx) (h : RSeg w k A n cs) (hc : n ≤ c) {m : Nat} (hm : m ≤ n) :
    ∃ A', (∀ wx, (Instr.slice t (.slice A n c) (some (.int .i64 (m : Int))) none none).run P wx = .ok (.slice A' (n - m) (c - m)) wx) ∧ RSeg w k A' (n - m) (cs.drop (m * k)) ∧ blockOf A' = blockOf A := by
  refine ⟨if c = m then A else A.map (·.add (m * k)), fun wx => ?_, ⟨?_, fun j v hj => ?_⟩, ?_⟩
  · rw [run_slice_l (P := P) wx t A n c ht .i64 (m : Int) (by omega) (by omega)]
    rw [hsz wx]
    simp [Result.andThen, sliced]
  · rw [List.length_drop, h.1, Nat.sub_mul]
  · rw [List.getElem?_drop] at hj
    obtain ⟨g, o, rfl, hcc⟩ := h.2 _ v hj
    by_cases e : c = m
    · have h1 := (List.getElem?_eq_some_iff.1 hj).1
      rw [h.1] at h1
      have : n = m := by omega
      rw [this] at h1
      omega
    · rw [if_neg e]
      refine ⟨g, o + m * k, ?_, by rw [Nat.add_assoc]; exact hcc⟩
      simp only [Option.map_some, Addr.add]
      by_cases h0 : m * k = 0
      · rw [if_pos h0, h0, Nat.add_zero]
      · rw [if_neg h0]
  · by_cases e : c = m
    · rw [if_pos e]
    · rw [if_neg e]
      cases A with
      | none => rfl
      | some a => simp only [Option.map_some, blockOf, Addr.add]; split <;> rfl
end
/-- One element behind a row of the call's own. -/
theorem run_app_one {P : Program} {w : World} (t T : TypeId) (ht : P.underlying t = some (.slice T)) {i : TypeInfo} {z : Value} {k by_ : Nat} (hi : P.info? T = some i) (hz : i.zero = some z) (hzs : z.cells.size = k) (hs : i.size = k) (hy : i.bytes = by_) (hb48 : by_ ≤ 1000)
    {A : Option Addr} {n c b : Nat} {l v : List Value} (h : FSeg w T k A n c l) (hv : v.length = k) (h1 : ∀ x ∈ v, x.oneCell' = true) (hB : Blk w b T v) (hb : n + 1 ≤ 1000000) :
    ∃ A' c' w', (Builtin.append_ #[t, t] t #[.slice A n c, .slice (some ⟨b, 0, none⟩) 1 1]).run P w = .ok (.slice A' (n + 1) c') w' ∧ FSeg w' T k A' (n + 1) c' (l ++ v) ∧ Step (fun k => blockOf A = some k) w w' ∧ (blockOf A' = blockOf A ∨ ∃ k, blockOf A' = some k ∧ w.heap.size ≤ k) :=
  run_append_flat (P := P) (cB := 1) w t t T i z k by_ ht hi hz hzs hs hy hb48 h (m := 1) (r := v) (aB := ⟨b, 0, none⟩) (by rw [hv, Nat.one_mul]) (fun _ => Nat.one_pos) h1 (fun j v hj => by rw [addr_add', Nat.zero_add]; exact hB.cell hj) hb
theorem wpList_app1 {P : Program} {ops : Array Oper} {rest : List Oper} {o : Oper} {a : Act} {w w' : World} {Q : Exit → Act → World → Prop} (hgd : o.guard = none) (s x : Operand) (t : TypeId)
    (ho : o.op = .call { callee := .builtin .append, args := #[s, x], argTypes := #[t, t] }) {vs vx v : Value} (hs : a.eval s = vs) (hx : a.eval x = vx) (hr : (Builtin.append_ #[t, t] o.type #[vs, vx]).run P w = .ok v w') (h : wpList P ops Q rest (a.put o.dst v) w') :
    wpList P ops Q (o :: rest) a w := by
  refine wpList_plain hgd fun K hK => ?_
  unfold Oper.wp execOp
  simp only [ho, resolve, invoke, builtin, Sem.run_bind, Sem.run_pure, Result.andThen_ok, List.map_toArray, List.map_cons, List.map_nil, hs, hx, hr]
  exact hK _ _ h
end Go.Proofs.Ytgohlbljdffelaa.Kit

/- What the walks of this seat import. -/

/- Heaps as functions: what a swap of a parent and its child, up and down, leaves of the order. Plain Lean; own work of this seat. -/
namespace Go.Proofs.Ytgohlbljdffelaa.HeapP
set_option linter.unusedVariables false
def par (k : Nat) : Nat := (k - 1) / 2
section
variable {α : Type} (le : α → α → Prop)
def Bad1 (g : Nat → α) (p n : Nat) : Prop :=
  (∀ k, 0 < k → k < n → k ≠ p → par k ≠ p → le (g (par k)) (g k)) ∧ (∀ k, 0 < k → k < n → par k = p → 0 < p → le (g (par p)) (g k))
def KidsOk (g : Nat → α) (p n : Nat) : Prop := ∀ k, 0 < k → k < n → par k = p → le (g p) (g k)
def HeapG (g : Nat → α) (n : Nat) : Prop := ∀ k, 0 < k → k < n → le (g (par k)) (g k)
def swp (g : Nat → α) (i j : Nat) : Nat → α := fun k => if k = i then g j else if k = j then g i else g k
def Tr : Prop := ∀ a b c, le a b → le b c → le a c
variable {le}
theorem par_lt {k : Nat} (h : 0 < k) : par k < k := by unfold par; omega
theorem swp_l (g : Nat → α) (i j : Nat) : swp g i j i = g j := by simp [swp]
theorem swp_r (g : Nat → α) (i j : Nat) : swp g i j j = g i := by
  unfold swp
  by_cases h : j = i
  · subst h; simp
  · simp [h]
theorem swp_o (g : Nat → α) {i j k : Nat} (h1 : k ≠ i) (h2 : k ≠ j) : swp g i j k = g k := by simp [swp, h1, h2]
theorem stop {g : Nat → α} {j n : Nat} (hb : Bad1 le g j n) (hk : KidsOk le g j n) (hp : 0 < j → le (g (par j)) (g j)) : HeapG le g n := by
  intro k h0 h1
  by_cases e : k = j
  · subst e; exact hp h0
  · by_cases e2 : par k = j
    · have := hk k h0 h1 e2
      rw [e2]; exact this
    · exact hb.1 k h0 h1 e e2
theorem up_step (tr : Tr le) {g : Nat → α} {j n : Nat} (h0 : 0 < j) (hj : j < n) (hb : Bad1 le g j n) (hk : KidsOk le g j n) (hl : le (g j) (g (par j))) : Bad1 le (swp g (par j) j) (par j) n ∧ KidsOk le (swp g (par j) j) (par j) n := by
  have hpj := par_lt h0
  have hup : 0 < par j → le (g (par (par j))) (g (par j)) := fun h => by
    have := par_lt h
    exact hb.1 (par j) h (by omega) (by omega) (by omega)
  refine ⟨⟨fun k k0 k1 k2 k3 => ?_, fun k k0 k1 k2 k3 => ?_⟩, fun k k0 k1 k2 => ?_⟩
  · have hkj : k ≠ j := fun e => k3 (by rw [e])
    rw [swp_o g k2 hkj]
    by_cases e : par k = j
    · rw [e, swp_r]
      exact hb.2 k k0 k1 e h0
    · rw [swp_o g k3 e]
      exact hb.1 k k0 k1 hkj e
  · have h1 := par_lt k3
    rw [swp_o g (by omega : par (par j) ≠ par j) (by omega)]
    by_cases e : k = j
    · subst e
      rw [swp_r]; exact hup k3
    · have := par_lt k0
      rw [swp_o g (by omega) e]
      refine tr _ _ _ (hup k3) ?_
      have := hb.1 k k0 k1 e (by omega)
      rwa [k2] at this
  · rw [swp_l]
    by_cases e : k = j
    · subst e
      rw [swp_r]; exact hl
    · have h1 := par_lt k0
      rw [swp_o g (by omega) e]
      refine tr _ _ _ hl ?_
      have := hb.1 k k0 k1 e (by omega)
      rwa [k2] at this
theorem dn_step {g : Nat → α} {i j n : Nat} (h0 : 0 < j) (hj : j < n) (hp : par j = i) (hb : Bad1 le g i n) (hl : le (g j) (g i)) (hm : KidsOk le (fun k => if k = i then g j else g k) i n) :
    Bad1 le (swp g i j) j n ∧ (0 < j → le (swp g i j (par j)) (swp g i j j)) := by
  have hij : i < j := by have := par_lt h0; omega
  refine ⟨⟨fun k k0 k1 k2 k3 => ?_, fun k k0 k1 k2 k3 => ?_⟩, fun _ => ?_⟩
  · by_cases e : k = i
    · subst e
      have h1 := par_lt k0
      rw [swp_o g (by omega) k3, swp_l]
      exact hb.2 j h0 hj hp k0
    · rw [swp_o g e k2]
      by_cases e2 : par k = i
      · rw [e2, swp_l]
        have := hm k k0 k1 e2
        simpa [e] using this
      · rw [swp_o g e2 k3]
        exact hb.1 k k0 k1 e e2
  · have h1 := par_lt k0
    rw [hp, swp_l, swp_o g (by omega) (by omega)]
    have := hb.1 k k0 k1 (by omega) (by omega)
    rwa [k2] at this
  · rw [hp, swp_l, swp_r]
    exact hl
theorem push_bad {g g' : Nat → α} {n : Nat} (h : HeapG le g n) (e : ∀ k, k < n → g' k = g k) : Bad1 le g' n (n + 1) ∧ KidsOk le g' n (n + 1) := by
  refine ⟨⟨fun k k0 k1 k2 k3 => ?_, fun k k0 k1 k2 k3 => ?_⟩, fun k k0 k1 k2 => ?_⟩
  · have := par_lt k0
    rw [e _ (by omega), e _ (by omega)]
    exact h k k0 (by omega)
  · have := par_lt k0; omega
  · have := par_lt k0; omega
theorem remove_bad (tr : Tr le) {g : Nat → α} {i n : Nat} (hi : i < n) (h : HeapG le g (n + 1)) : Bad1 le (swp g i n) i n := by
  refine ⟨fun k k0 k1 k2 k3 => ?_, fun k k0 k1 k2 k3 => ?_⟩
  · have := par_lt k0
    rw [swp_o g k2 (by omega), swp_o g k3 (by omega)]
    exact h k k0 (by omega)
  · have h1 := par_lt k0
    have h2 := par_lt k3
    rw [swp_o g (by omega : k ≠ i) (by omega), swp_o g (by omega : par i ≠ i) (by omega)]
    refine tr _ _ _ (h i k3 (by omega)) ?_
    have := h k k0 (by omega)
    rwa [k2] at this
theorem fix_bad (tr : Tr le) {g g' : Nat → α} {p n : Nat} (h : HeapG le g n) (e : ∀ k, k ≠ p → g' k = g k) : Bad1 le g' p n := by
  refine ⟨fun k k0 k1 k2 k3 => ?_, fun k k0 k1 k2 k3 => ?_⟩
  · rw [e k k2, e _ k3]
    exact h k k0 k1
  · have h1 := par_lt k0
    have h2 := par_lt k3
    rw [e k (by omega), e _ (by omega : par p ≠ p)]
    refine tr _ _ _ (h p k3 (by omega)) ?_
    have := h k k0 (by omega)
    rwa [k2] at this
theorem shrink {g : Nat → α} {n m : Nat} (h : HeapG le g n) (hm : m ≤ n) : HeapG le g m := fun k k0 k1 => h k k0 (by omega)
theorem heap_ext {g g' : Nat → α} {n : Nat} (h : HeapG le g n) (e : ∀ k, k < n → g' k = g k) : HeapG le g' n := fun k k0 k1 => by
  have := par_lt k0
  rw [e k k1, e _ (by omega)]; exact h k k0 k1
theorem heap_min (tr : Tr le) (rf : ∀ a, le a a) {g : Nat → α} {n : Nat} (h : HeapG le g n) : ∀ k, k < n → le (g 0) (g k) := by
  intro k
  induction k using Nat.strongRecOn with
  | ind k ih =>
    intro hk
    by_cases e : k = 0
    · subst e; exact rf _
    · have h0 : 0 < k := by omega
      have := par_lt h0
      exact tr _ _ _ (ih (par k) this (by omega)) (h k h0 hk)
end

section
variable {α : Type} [Inhabited α]
def lg (xs : List α) : Nat → α := fun k => xs.getD k default
def sw (xs : List α) (i j : Nat) : List α := (xs.set i (lg xs j)).set j (lg xs i)
theorem lg_get {xs : List α} {k : Nat} (h : k < xs.length) : lg xs k = xs[k] := by
  unfold lg; rw [List.getD_eq_getElem?_getD, List.getElem?_eq_getElem h]; rfl
theorem lg_some {xs : List α} {k : Nat} {x : α} (h : xs[k]? = some x) : lg xs k = x := by
  unfold lg; rw [List.getD_eq_getElem?_getD, h]; rfl
theorem get_lg {xs : List α} {k : Nat} (h : k < xs.length) : xs[k]? = some (lg xs k) := by rw [lg_get h, List.getElem?_eq_getElem h]
theorem sw_length (xs : List α) (i j : Nat) : (sw xs i j).length = xs.length := by simp [sw]
theorem lg_sw {xs : List α} {i j : Nat} (hi : i < xs.length) (hj : j < xs.length) : lg (sw xs i j) = swp (lg xs) i j := by
  funext k
  unfold swp
  by_cases e1 : k = i
  · subst e1
    rw [if_pos rfl]
    apply lg_some
    unfold sw
    rw [List.getElem?_set]
    by_cases e : j = k
    · subst e; simp [hj]
    · rw [if_neg e, List.getElem?_set_self hi]
  · rw [if_neg e1]
    by_cases e2 : k = j
    · subst e2
      rw [if_pos rfl]
      apply lg_some
      unfold sw
      rw [List.getElem?_set_self (by simpa using hj)]
    · rw [if_neg e2]
      unfold sw lg
      rw [List.getD_eq_getElem?_getD, List.getElem?_set_ne (fun h => e2 h.symm), List.getElem?_set_ne (fun h => e1 h.symm), ← List.getD_eq_getElem?_getD]
theorem sw_get {xs : List α} {i j k : Nat} (hi : i < xs.length) (hj : j < xs.length) (hk : k < xs.length) : (sw xs i j)[k]? = some (swp (lg xs) i j k) := by
  rw [get_lg (by rw [sw_length]; exact hk), lg_sw hi hj]
theorem sw_perm {xs : List α} {i j : Nat} (hi : i < xs.length) (hj : j < xs.length) : (sw xs i j).Perm xs := by
  unfold sw
  rw [lg_get hi, lg_get hj]
  exact List.set_set_perm hi hj
theorem sw_self {xs : List α} {i : Nat} (hi : i < xs.length) : sw xs i i = xs := by
  apply List.ext_getElem?
  intro k
  by_cases hk : k < xs.length
  · rw [sw_get hi hi hk, get_lg hk]
    unfold swp
    split
    · rename_i h; rw [h]
    · rfl
  · rw [List.getElem?_eq_none (by rw [sw_length]; omega), List.getElem?_eq_none (by omega)]
end
end Go.Proofs.Ytgohlbljdffelaa.HeapP

/- agenda: what is to be done, as a sorted list of keys, ticks and turns. Plain Lean; own work of this seat. -/
namespace Go.Proofs.Ytgohlbljdffelaa.AgP
set_option linter.unusedVariables false
structure Ev (κ : Type) where
  key : κ
  tm : Int
  turn : Int
section
variable {κ : Type}
def ltE (a b : Ev κ) : Prop := a.tm < b.tm ∨ (a.tm = b.tm ∧ a.turn < b.turn)
def Sorted (L : List (Ev κ)) : Prop := L.Pairwise ltE
def insL (L : List (Ev κ)) (e : Ev κ) : List (Ev κ) := L.takeWhile (fun s => decide (s.tm ≤ e.tm)) ++ e :: L.dropWhile (fun s => decide (s.tm ≤ e.tm))
theorem ltE_tr {a b c : Ev κ} (h : ltE a b) (k : ltE b c) : ltE a c := by unfold ltE at *; omega
theorem mem_tw {α : Type} (p : α → Bool) : ∀ (l : List α) (x : α), x ∈ l.takeWhile p → p x = true
  | [], x, h => by simp at h
  | y :: l, x, h => by
    rw [List.takeWhile_cons] at h
    split at h
    · rcases List.mem_cons.1 h with rfl | h
      · assumption
      · exact mem_tw p l x h
    · simp at h
theorem dw_head {L : List (Ev κ)} (hs : Sorted L) (n : Int) : ∀ s ∈ L.dropWhile (fun s => decide (s.tm ≤ n)), n < s.tm := by
  induction L with
  | nil => intro s h; simp at h
  | cons y L ih =>
    intro s h
    rw [List.dropWhile_cons] at h
    have hs' := List.pairwise_cons.1 hs
    split at h
    · exact ih hs'.2 s h
    · rename_i hy
      have hy' : ¬ y.tm ≤ n := by simpa using hy
      rcases List.mem_cons.1 h with rfl | h
      · omega
      · have := hs'.1 s h
        unfold ltE at this
        omega
theorem perm_ins (L : List (Ev κ)) (e : Ev κ) : (insL L e).Perm (e :: L) := by
  unfold insL
  refine List.perm_middle.trans ?_
  rw [List.takeWhile_append_dropWhile]
theorem sorted_ins {L : List (Ev κ)} {e : Ev κ} (h : Sorted L) (hn : ∀ s ∈ L, s.turn < e.turn) : Sorted (insL L e) := by
  unfold insL Sorted
  have hsub := h
  have e1 := List.takeWhile_append_dropWhile (p := fun s : Ev κ => decide (s.tm ≤ e.tm)) (l := L)
  unfold Sorted at hsub
  rw [← e1, List.pairwise_append] at hsub
  have ht : ∀ s ∈ L.takeWhile (fun s => decide (s.tm ≤ e.tm)), ltE s e := fun s hs => by
    have h1 : s.tm ≤ e.tm := by simpa using mem_tw _ _ _ hs
    have h2 := hn s (((List.takeWhile_sublist _).mem hs))
    unfold ltE; omega
  have hd : ∀ s ∈ L.dropWhile (fun s => decide (s.tm ≤ e.tm)), ltE e s := fun s hs => by
    have := dw_head h e.tm s hs
    unfold ltE; omega
  rw [List.pairwise_append]
  refine ⟨hsub.1, List.pairwise_cons.2 ⟨hd, hsub.2.1⟩, fun x hx y hy => ?_⟩
  rcases List.mem_cons.1 hy with rfl | hy
  · exact ht x hx
  · exact hsub.2.2 x hx y hy
/-- The head of a sorted list is what is the least. -/
theorem head_least {L : List (Ev κ)} {s : Ev κ} (h : Sorted L) {r : List (Ev κ)} (hp : (s :: r).Perm L) (hm : ∀ x ∈ L, ¬ ltE x s) : ∃ L', L = s :: L' ∧ r.Perm L' := by
  cases L with
  | nil => simp at hp
  | cons y L =>
    have hs' := List.pairwise_cons.1 h
    have hmem : s ∈ y :: L := hp.mem_iff.1 (List.mem_cons_self ..)
    rcases List.mem_cons.1 hmem with rfl | hin
    · exact ⟨L, rfl, (List.perm_cons _).1 hp⟩
    · exact absurd (hs'.1 s hin) (hm y (List.mem_cons_self ..))
end
section
variable {κ : Type} [DecidableEq κ]
def dropL (L : List (Ev κ)) (k : κ) : List (Ev κ) := L.filter (fun s => decide (s.key ≠ k))
def setL (L : List (Ev κ)) (k : κ) (n turn : Int) : List (Ev κ) := insL (dropL L k) ⟨k, n, turn⟩
def atL (L : List (Ev κ)) (k : κ) : Option (Ev κ) := L.find? (fun s => decide (s.key = k))
theorem sorted_drop {L : List (Ev κ)} (h : Sorted L) (k : κ) : Sorted (dropL L k) := h.filter _
theorem mem_drop {L : List (Ev κ)} {k : κ} {s : Ev κ} : s ∈ dropL L k ↔ s ∈ L ∧ s.key ≠ k := by simp [dropL]
theorem perm_set (L : List (Ev κ)) (k : κ) (n turn : Int) : (setL L k n turn).Perm (⟨k, n, turn⟩ :: dropL L k) := perm_ins _ _
theorem sorted_set {L : List (Ev κ)} (h : Sorted L) (k : κ) (n : Int) {turn : Int} (hn : ∀ s ∈ L, s.turn < turn) : Sorted (setL L k n turn) :=
  sorted_ins (sorted_drop h k) (fun s hs => hn s (mem_drop.1 hs).1)
theorem mem_set {L : List (Ev κ)} {k : κ} {n turn : Int} {s : Ev κ} : s ∈ setL L k n turn ↔ s = ⟨k, n, turn⟩ ∨ (s ∈ L ∧ s.key ≠ k) := by
  rw [(perm_set L k n turn).mem_iff, List.mem_cons, mem_drop]
theorem length_set_le (L : List (Ev κ)) (k : κ) (n turn : Int) : (setL L k n turn).length ≤ L.length + 1 := by
  rw [(perm_set L k n turn).length_eq, List.length_cons]
  have := List.length_filter_le (fun s : Ev κ => decide (s.key ≠ k)) L
  unfold dropL
  omega
/-- Taken out by its key. -/
theorem perm_drop {L R : List (Ev κ)} {s : Ev κ} (hk : (L.map (·.key)).Nodup) (hp : (s :: R).Perm L) : R.Perm (dropL L s.key) := by
  have h1 := (hp.map (·.key)).nodup_iff.2 hk
  rw [List.map_cons, List.nodup_cons] at h1
  have h2 : (dropL (s :: R) s.key).Perm (dropL L s.key) := hp.filter _
  have h3 : dropL (s :: R) s.key = R := by
    unfold dropL
    rw [List.filter_cons_of_neg (by simp)]
    rw [List.filter_eq_self]
    intro a ha
    simp only [decide_eq_true_eq]
    intro e
    exact h1.1 (e ▸ List.mem_map_of_mem ha)
  rw [h3] at h2
  exact h2
theorem drop_none {L : List (Ev κ)} {k : κ} (h : ∀ s ∈ L, s.key ≠ k) : dropL L k = L := by
  unfold dropL
  rw [List.filter_eq_self]
  intro a ha
  simp only [decide_eq_true_eq]
  exact h a ha
theorem nodup_set {L : List (Ev κ)} (k : κ) (n turn : Int) (h : (L.map (·.key)).Nodup) : ((setL L k n turn).map (·.key)).Nodup := by
  rw [((perm_set L k n turn).map (·.key)).nodup_iff, List.map_cons, List.nodup_cons]
  refine ⟨fun hm => ?_, h.sublist ((List.filter_sublist).map _)⟩
  obtain ⟨s, hs, e⟩ := List.mem_map.1 hm
  exact (mem_drop.1 hs).2 e
theorem nodup_drop {L : List (Ev κ)} (k : κ) (h : (L.map (·.key)).Nodup) : ((dropL L k).map (·.key)).Nodup := h.sublist ((List.filter_sublist).map _)
end
end Go.Proofs.Ytgohlbljdffelaa.AgP

/- the document's agenda: rows of items; Drop, Set, Pop. Own work of this seat; no condition but on lengths. -/
namespace Go.Proofs.Ytgohlbljdffelaa.It
open Go.RowKit Go.Proofs.Ytgohlbljdffelaa.Kit
set_option linter.unusedVariables false
set_option linter.unusedSimpArgs false

/-- What is to be done, and when. -/
structure It where
  key : ByteArray
  tm : Int
def itc (x : It) : List Value := [.string x.key, .int .i64 x.tm]
def itcs (l : List It) : List Value := l.flatMap itc
theorem itcs_append (l r : List It) : itcs (l ++ r) = itcs l ++ itcs r := by simp [itcs]
theorem itcs_one (x : It) : itcs [x] = itc x := by simp [itcs]
theorem itcs_length (l : List It) : (itcs l).length = l.length * 2 := by
  induction l with
  | nil => rfl
  | cons x r ih => simp only [itcs, itc, List.flatMap_cons, List.length_append, List.length_cons, List.length_nil] at ih ⊢; omega
theorem itcs_at {l : List It} {j : Nat} {e : It} (h : l[j]? = some e) : (itcs l)[j * 2 + 0]? = some (.string e.key) ∧ (itcs l)[j * 2 + 1]? = some (.int .i64 e.tm) := by
  have hl := (List.getElem?_eq_some_iff.1 h).1
  have e1 : itcs l = itcs (l.take j) ++ (itc e ++ itcs (l.drop (j + 1))) := by
    have h2 : l[j] = e := (List.getElem?_eq_some_iff.1 h).2
    have h3 : l = l.take j ++ (e :: l.drop (j + 1)) := by rw [← h2, ← List.drop_eq_getElem_cons hl, List.take_append_drop]
    have h4 := congrArg itcs h3
    rw [itcs_append] at h4
    exact h4
  have e2 : (itcs (l.take j)).length = j * 2 := by rw [itcs_length, List.length_take, Nat.min_eq_left (Nat.le_of_lt hl)]
  rw [e1]
  refine ⟨?_, ?_⟩
  · rw [List.getElem?_append_right (by omega), e2, Nat.add_sub_cancel_left]; rfl
  · rw [List.getElem?_append_right (by omega), e2, Nat.add_sub_cancel_left]; rfl
theorem itcs_drop (l : List It) (m : Nat) : itcs (l.drop m) = (itcs l).drop (m * 2) := by
  induction m generalizing l with
  | zero => simp
  | succ m ih =>
    cases l with
    | nil => simp [itcs]
    | cons x r =>
      rw [List.drop_succ_cons, ih, show (m + 1) * 2 = 2 + m * 2 by omega, ← List.drop_drop]
      rfl
theorem itc_cell (x : It) : ∀ v ∈ itc x, v.oneCell' = true := by
  intro v hv
  simp only [itc, List.mem_cons, List.not_mem_nil, or_false] at hv
  rcases hv with rfl | rfl <;> rfl
/-- Rows of items: one's own; read. -/
def IW (w : World) (A : Option Addr) (n c : Nat) (l : List It) : Prop := FSeg w 97 2 A n c (itcs l)
def IRd (w : World) (A : Option Addr) (n : Nat) (l : List It) : Prop := RSeg w 2 A n (itcs l)
section
variable {w w' : World} {A : Option Addr} {n c : Nat} {l : List It} {F : Nat → Prop}
theorem IW.len (h : IW w A n c l) : l.length = n := by have := h.1; rw [itcs_length] at this; omega
theorem IRd.len (h : IRd w A n l) : l.length = n := by have := h.1; rw [itcs_length] at this; omega
theorem IW.rd (h : IW w A n c l) : IRd w A n l := FSeg.rseg h
theorem IW.keep (h : IW w A n c l) (hs : Step F w w') (hF : ∀ j, blockOf A = some j → ¬ F j) : IW w' A n c l := FSeg.keep h hs hF
theorem IRd.keep (h : IRd w A n l) (hs : Step F w w') (hF : ∀ j, blockOf A = some j → ¬ F j) : IRd w' A n l := RSeg.keep h hs hF
theorem IRd.same (h : IRd w A n l) (hs : Step (fun _ => False) w w') : IRd w' A n l := RSeg.same h hs
end
theorem i0it : ∃ i, Try.prog.info? 97 = some i ∧ i.zero = some (.agg #[.string ⟨#[]⟩, .int .i64 0]) ∧ i.size = 2 ∧ i.bytes = 24 := by
  obtain ⟨i, hi, hp⟩ := Option.map_eq_some_iff.1 (by kernel_rfl : (Try.prog.info? 97).map (fun i => (i.zero, i.size, i.bytes)) = some (some (.agg #[.string ⟨#[]⟩, .int .i64 0]), 2, 24))
  simp only [Prod.mk.injEq] at hp
  exact ⟨i, hi, hp⟩
theorem app_it {w : World} {A : Option Addr} {n c b : Nat} {l : List It} {x : It} (h : IW w A n c l) (hB : Blk w b 97 (itc x)) (hb : n + 1 ≤ 1000000) :
    ∃ A' c' w', (Builtin.append_ #[50, 50] 50 #[.slice A n c, .slice (some ⟨b, 0, none⟩) 1 1]).run Try.prog w = .ok (.slice A' (n + 1) c') w' ∧ IW w' A' (n + 1) c' (l ++ [x]) ∧ Step (fun k => blockOf A = some k) w w' ∧ (blockOf A' = blockOf A ∨ ∃ k, blockOf A' = some k ∧ w.heap.size ≤ k) := by
  obtain ⟨i0, hi0, hz0, hs0, hy0⟩ := i0it
  unfold IW
  rw [itcs_append, itcs_one]
  exact run_app_one 50 97 Try.underlying50 hi0 hz0 rfl hs0 hy0 (by omega) h rfl (itc_cell x) hB hb

/-- One item more in a row of the call's own. -/
theorem app_step {w w1 : World} {B : Option Addr} {m cB : Nat} {l : List It} (hst : Step (fun _ => False) w w1) (hB : IW w1 B m cB l) (hBf : ∀ k, blockOf B = some k → w.heap.size ≤ k) (hb : m + 1 ≤ 1000000) (xk : ByteArray) (xt : Int) :
    ∃ B' c' w', (Builtin.append_ #[50, 50] 50 #[.slice B m cB, .slice (some ⟨w1.heap.size, 0, none⟩) 1 1]).run Try.prog (w1.alloc (.cells #[.string xk, .int .i64 xt] 97)) = .ok (.slice B' (m + 1) c') w' ∧
      IW w' B' (m + 1) c' (l ++ [⟨xk, xt⟩]) ∧ (∀ k, blockOf B' = some k → w.heap.size ≤ k) ∧ Step (fun _ => False) w w' ∧ Step (fun k => blockOf B = some k) w1 w' := by
  have hal : Step (fun _ => False) w1 (w1.alloc (.cells #[.string xk, .int .i64 xt] 97)) := (Step.refl _ _).alloc _
  obtain ⟨B5, c5, w5, hap, hB6, hs5, hn5⟩ := app_it (x := ⟨xk, xt⟩) (hB.keep hal (fun _ _ h => h)) (blk_new w1 (itc ⟨xk, xt⟩) 97) hb
  have hz4 := hst.size
  have hz6 := hal.size
  refine ⟨B5, c5, w5, hap, hB6, fun k hk => ?_, (hst.same hal).trans hs5 (fun j hj h => by have := hBf j h; omega), (hal.mono (fun _ _ h => h.elim)).same hs5⟩
  rcases hn5 with e | ⟨j, e, hj⟩
  · exact hBf k (e ▸ hk)
  · rw [hk] at e
    obtain rfl := Option.some.inj e
    omega
theorem bytes_ne {t s : ByteArray} (h : t ≠ s) : (t.toList == s.toList) = false := by
  rw [← beq_toListBytes]
  cases t with | mk a => cases s with | mk b =>
    have hab : a ≠ b := fun e => h (by rw [e])
    show (a == b) = false
    exact beq_eq_false_iff_ne.2 hab
theorem bytes_same (s : ByteArray) : (s.toList == s.toList) = true := by simp

/-- Without a key. -/
def itDrop (l : List It) (s : ByteArray) : List It := l.filter (fun x => decide (x.key ≠ s))
theorem itDrop_take {l : List It} {s : ByteArray} {i : Nat} {x : It} (h : l[i]? = some x) : itDrop (l.take (i + 1)) s = itDrop (l.take i) s ++ (if x.key = s then [] else [x]) := by
  unfold itDrop
  rw [List.take_add_one, h, List.filter_append]
  by_cases e : x.key = s <;> simp [e]
set_option maxRecDepth 100000 in
set_option maxHeartbeats 1000000 in
theorem drop_calls {w : World} {A : Option Addr} {n c : Nat} {l : List It} (h : IRd w A n l) (hn : n ≤ 100000) (s : ByteArray) :
    Calls Try.prog 42 #[.slice A n c, .string s] w fun e w' => ∃ B cB, e = .returned (.tuple #[.slice B (itDrop l s).length cB, .bool (decide ((itDrop l s).length < n))]) ∧ IW w' B (itDrop l s).length cB (itDrop l s) ∧ (∀ k, blockOf B = some k → w.heap.size ≤ k) ∧ Step (fun _ => False) w w' := by
  have hlen := h.len
  have HH := Lib.hid h
  have HLN := Lib.hid hlen
  clear h hlen
  go_enter Try.func42, Try.ntmps42
  go_upto_region 2 with (fail)
  have hB0 : IW (w.alloc (.cells #[] 97)) (some ⟨w.heap.size, 0, none⟩) 0 0 [] := ⟨rfl, .inr ⟨w.heap.size, #[], rfl, by show (w.heap.push _)[w.heap.size]? = _; simp, Nat.le_refl _, Nat.le_refl _, fun j v hj => by simp [itcs] at hj⟩⟩
  have hs0 : Step (fun _ => False) w (w.alloc (.cells #[] 97)) := (Step.refl _ _).alloc _
  generalize hw0 : w.alloc (.cells #[] 97) = w0 at *
  have hf0 : ∀ k, blockOf (some (⟨w.heap.size, 0, none⟩ : Addr)) = some k → w.heap.size ≤ k := fun k hk => by
    obtain rfl : w.heap.size = k := Option.some.inj hk
    exact Nat.le_refl _
  clear hw0
  generalize (some (⟨w.heap.size, 0, none⟩ : Addr)) = A0 at *
  go_wp2
  go_loopw [6, 12] (fun v6 v12 wr => ∃ (i m : Nat) (B : Option Addr) (cB : Nat), v12 = .int .i64 (i : Int) ∧ v6 = .slice B m cB ∧ i ≤ n ∧ m = (itDrop (l.take i) s).length ∧ m ≤ i ∧ IW wr B m cB (itDrop (l.take i) s) ∧ (∀ k, blockOf B = some k → w.heap.size ≤ k) ∧ Step (fun _ => False) w wr) (fun _ v _ => n - (intOf v).toNat)
  case atStart => exact ⟨0, 0, A0, 0, rfl, rfl, Nat.zero_le _, rfl, Nat.le_refl _, hB0, hf0, hs0⟩
  case round =>
    clear hB0 hf0 hs0
    obtain ⟨i, m, B, cB, rfl, rfl, hi, hm, hmi, hB, hBf, hst⟩ := hrel
    by_cases hin : i < n
    · have hin' : ((i : Int) < (n : Int)) := by omega
      have hR := HH.out.same hst
      obtain ⟨g, o, rfl⟩ := RSeg.isSome hR (by omega) (by omega)
      obtain ⟨x, hx⟩ : ∃ x, l[i]? = some x := ⟨_, List.getElem?_eq_getElem (by rw [HLN.out]; exact hin)⟩
      obtain ⟨g0, g1⟩ := itcs_at hx
      have a0 := RSeg.cell hR g0
      have a1 := RSeg.cell' hR g1
      have HTK := Lib.hid (itDrop_take (s := s) hx)
      rw [Nat.add_zero] at a0
      obtain ⟨xk, xt⟩ := x
      simp only at a0 a1 HTK
      have HM := Lib.hid hm
      clear hR hx g0 g1 hm
      go_upto_region 5 with (fail)
      refine alloc_next (cs := [.string xk, .int .i64 xt]) ?_
      intro w1 hX hs1
      have hst1 := hst.same hs1
      have hB1 := hB.keep hs1 (fun _ _ h => h)
      have x0 := hX.cell (i := 0) rfl
      have x1 := hX.cell (i := 1) rfl
      clear a0 a1 hB
      generalize wr.heap.size = xb at *
      by_cases hk : xk = s
      · have hsa : (xk.toList == s.toList) = true := by rw [hk]; exact bytes_same s
        have HT : Hid (itDrop (l.take (i + 1)) s = itDrop (l.take i) s) := Lib.hid (by rw [HTK.out, if_pos hk, List.append_nil])
        have HB1 := Lib.hid hB1
        clear hk hB1 HTK
        go_wp2
        go_roundw
        case rel => exact ⟨i + 1, m, B, cB, by go_num, rfl, by omega, by rw [HT.out]; exact HM.out, by omega, by rw [HT.out]; exact HB1.out, hBf, hst1⟩
        case measure => simp [intOf]; omega
      · have hsa : (xk.toList == s.toList) = false := bytes_ne hk
        have HT : Hid (itDrop (l.take (i + 1)) s = itDrop (l.take i) s ++ [⟨xk, xt⟩]) := Lib.hid (by rw [HTK.out, if_neg hk])
        clear hk HTK
        go_upto_region 6 with (fail)
        have hal : Step (fun _ => False) w1 (w1.alloc (.cells #[.string xk, .int .i64 xt] 97)) := (Step.refl _ _).alloc _
        obtain ⟨B5, c5, w5, hap, hB6, hs5, hn5⟩ := app_it (x := ⟨xk, xt⟩) (hB1.keep hal (fun _ _ h => h)) (blk_new w1 (itc ⟨xk, xt⟩) 97) (by omega)
        have hst4 := hst1.same hal
        have hz4 := hst1.size
        have hz6 := hal.size
        have hst5 : Step (fun _ => False) w w5 := hst4.trans hs5 (fun j hj h => by have := hBf j h; omega)
        have hB5f : ∀ k, blockOf B5 = some k → w.heap.size ≤ k := fun k hk => by
          rcases hn5 with e | ⟨j, e, hj⟩
          · exact hBf k (e ▸ hk)
          · rw [hk] at e
            obtain rfl := Option.some.inj e
            omega
        have HB6 := Lib.hid hB6
        have HST5 := Lib.hid hst5
        clear hB6 hst5 hst4 hs5 hn5 hal hB1
        go_wp2_with (at_builtin; refine wpList_app1 (by rfl) (.tmp 20) (.tmp 22) 50 (by rfl) (by rfl) (by rfl) hap ?_)
        go_roundw
        case rel => exact ⟨i + 1, m + 1, B5, c5, by go_num, rfl, by omega, by rw [HT.out, List.length_append, ← HM.out]; rfl, by omega, by rw [HT.out]; exact HB6.out, hB5f, HST5.out⟩
        case measure => simp [intOf]; omega
    · obtain rfl : i = n := by omega
      have hin' : ¬ ((i : Int) < (i : Int)) := by omega
      rw [List.take_of_length_le (by rw [HLN.out]; exact Nat.le_refl _)] at hB hm
      have HM := Lib.hid hm
      have HB := Lib.hid hB
      clear hm hB
      go_wp2
      go_ret2
      exact ⟨B, cB, by rw [← HM.out]; first | rfl | (congr 3; simp), by rw [← HM.out]; exact HB.out, hBf, hst⟩

def clipI (x : Int) : Int := max 0 (min x 1099511627776)
theorem clipI_if (x : Int) : (if (0 : Int) < (if (1099511627776 : Int) < x then 1099511627776 else x) then (if (1099511627776 : Int) < x then 1099511627776 else x) else 0) = clipI x := by
  unfold clipI
  split <;> split <;> omega
/-- How far a new item is in: the row so far, and is it in? -/
def outS (l : List It) (e : It) : List It × Bool := if l.all (fun x => decide (x.tm ≤ e.tm)) = true then (l, false) else (l.takeWhile (fun x => decide (x.tm ≤ e.tm)) ++ e :: l.dropWhile (fun x => decide (x.tm ≤ e.tm)), true)
def itIns (l : List It) (e : It) : List It := l.takeWhile (fun x => decide (x.tm ≤ e.tm)) ++ e :: l.dropWhile (fun x => decide (x.tm ≤ e.tm))
def itSet (l : List It) (s : ByteArray) (n : Int) : List It := itIns (itDrop l s) ⟨s, clipI n⟩
theorem tw_all {α : Type} {p : α → Bool} : ∀ {l : List α}, l.all p = true → l.takeWhile p = l ∧ l.dropWhile p = []
  | [], _ => ⟨rfl, rfl⟩
  | x :: l, h => by
    rw [List.all_cons, Bool.and_eq_true] at h
    obtain ⟨h1, h2⟩ := tw_all h.2
    rw [List.takeWhile_cons, List.dropWhile_cons, h.1]
    exact ⟨by simp [h1], by simp [h2]⟩
theorem tw_snoc {α : Type} {p : α → Bool} {x : α} : ∀ {l : List α}, l.all p = false → (l ++ [x]).takeWhile p = l.takeWhile p ∧ (l ++ [x]).dropWhile p = l.dropWhile p ++ [x]
  | [], h => by simp at h
  | y :: l, h => by
    rw [List.cons_append, List.takeWhile_cons, List.dropWhile_cons, List.takeWhile_cons, List.dropWhile_cons]
    rw [List.all_cons] at h
    cases hp : p y with
    | true =>
      rw [hp, Bool.true_and] at h
      obtain ⟨h1, h2⟩ := tw_snoc (x := x) h
      simp [h1, h2]
    | false => simp
theorem tw_hit {α : Type} {p : α → Bool} {x : α} (hx : p x = false) : ∀ {l : List α}, l.all p = true → (l ++ [x]).takeWhile p = l ∧ (l ++ [x]).dropWhile p = [x]
  | [], _ => by simp [hx]
  | y :: l, h => by
    rw [List.all_cons, Bool.and_eq_true] at h
    obtain ⟨h1, h2⟩ := tw_hit hx h.2
    rw [List.cons_append, List.takeWhile_cons, List.dropWhile_cons, h.1]
    exact ⟨by simp [h1], by simp [h2]⟩
theorem outS_nil (e : It) : outS [] e = ([], false) := rfl
theorem outS_done {l : List It} {e x : It} (h : (outS l e).2 = true) : outS (l ++ [x]) e = ((outS l e).1 ++ [x], true) := by
  unfold outS at h ⊢
  cases ha : l.all (fun x => decide (x.tm ≤ e.tm)) with
  | true => rw [ha] at h; simp at h
  | false =>
    obtain ⟨h1, h2⟩ := tw_snoc (x := x) ha
    rw [if_neg (by rw [List.all_append, ha]; simp), if_neg (by simp), h1, h2]
    simp
theorem outS_late {l : List It} {e x : It} (h : (outS l e).2 = false) (hx : ¬ x.tm ≤ e.tm) : outS (l ++ [x]) e = ((outS l e).1 ++ [e] ++ [x], true) := by
  unfold outS at h ⊢
  cases ha : l.all (fun x => decide (x.tm ≤ e.tm)) with
  | false => rw [ha] at h; simp at h
  | true =>
    have hpx : (fun x : It => decide (x.tm ≤ e.tm)) x = false := by simpa using hx
    obtain ⟨h1, h2⟩ := tw_hit (p := fun x : It => decide (x.tm ≤ e.tm)) hpx ha
    rw [if_neg (by rw [List.all_append, ha, List.all_cons, decide_eq_false hx]; simp), if_pos rfl, h1, h2]
    simp
theorem outS_soon {l : List It} {e x : It} (h : (outS l e).2 = false) (hx : x.tm ≤ e.tm) : outS (l ++ [x]) e = ((outS l e).1 ++ [x], false) := by
  unfold outS at h ⊢
  cases ha : l.all (fun x => decide (x.tm ≤ e.tm)) with
  | false => rw [ha] at h; simp at h
  | true =>
    have hpx : (fun x : It => decide (x.tm ≤ e.tm)) x = true := by simpa using hx
    rw [if_pos (by rw [List.all_append, ha, List.all_cons, decide_eq_true hx]; rfl), if_pos rfl]
theorem outS_end (l : List It) (e : It) : (if (outS l e).2 = true then (outS l e).1 else (outS l e).1 ++ [e]) = itIns l e := by
  unfold outS itIns
  cases ha : l.all (fun x => decide (x.tm ≤ e.tm)) with
  | false => simp
  | true =>
    obtain ⟨h1, h2⟩ := tw_all ha
    rw [if_pos rfl, h1, h2]
    simp
theorem outS_len (l : List It) (e : It) : (outS l e).1.length ≤ l.length + 1 := by
  unfold outS
  split
  · simp
  · have := congrArg List.length (List.takeWhile_append_dropWhile (p := fun x : It => decide (x.tm ≤ e.tm)) (l := l))
    rw [List.length_append] at this
    simp only [List.length_append, List.length_cons]
    omega
theorem itIns_len (l : List It) (e : It) : (itIns l e).length = l.length + 1 := by
  unfold itIns
  have := congrArg List.length (List.takeWhile_append_dropWhile (p := fun x : It => decide (x.tm ≤ e.tm)) (l := l))
  rw [List.length_append] at this
  simp only [List.length_append, List.length_cons]
  omega
theorem itDrop_le (l : List It) (s : ByteArray) : (itDrop l s).length ≤ l.length := List.length_filter_le _ _
set_option maxRecDepth 100000 in
set_option maxHeartbeats 2000000 in
theorem set_calls {w : World} {A : Option Addr} {n c : Nat} {l : List It} (h : IRd w A n l) (hn : n ≤ 100000) (s : ByteArray) (v : Int) :
    Calls Try.prog 41 #[.slice A n c, .string s, .int .i64 v] w fun e w' => ∃ B cB, e = .returned (.slice B (itSet l s v).length cB) ∧ IW w' B (itSet l s v).length cB (itSet l s v) ∧ (∀ k, blockOf B = some k → w.heap.size ≤ k) ∧ Step (fun _ => False) w w' := by
  have hlen := h.len
  have hcl := clipI_if v
  unfold itSet
  have HD := Lib.hid (drop_calls (c := c) h hn s)
  have hdl := itDrop_le l s
  rw [hlen] at hdl
  clear h hlen
  generalize clipI v = v' at *
  generalize itDrop l s = r at *
  obtain ⟨mq, hmq⟩ : ∃ mq, (if (1099511627776 : Int) < v then 1099511627776 else v) = mq := ⟨_, rfl⟩
  rw [hmq] at hcl
  go_enter Try.func41, Try.ntmps41
  go_upto_region 2 with (fail)
  clear hcl hmq
  go_upto_region 3 with (go_at_call 42; refine HD.out.mono ?_; rintro e1 w1 ⟨R, cR, rfl, hR1, hRf1, hs1⟩)
  have hRr := hR1.rd
  have HR := Lib.hid hRr
  have hRl := hR1.len
  obtain ⟨m0, hm0⟩ : ∃ m0, r.length = m0 := ⟨_, rfl⟩
  rw [hm0] at hdl HR
  have HLN := Lib.hid hm0
  simp only [hm0]
  clear HD hRr hR1 hRl hm0
  go_upto_region 5 with (fail)
  have hB0 : IW (w1.alloc (.cells #[] 97)) (some ⟨w1.heap.size, 0, none⟩) 0 0 [] := ⟨rfl, .inr ⟨w1.heap.size, #[], rfl, by show (w1.heap.push _)[w1.heap.size]? = _; simp, Nat.le_refl _, Nat.le_refl _, fun j v hj => by simp [itcs] at hj⟩⟩
  have hs0 : Step (fun _ => False) w1 (w1.alloc (.cells #[] 97)) := (Step.refl _ _).alloc _
  have hst0 : Step (fun _ => False) w (w1.alloc (.cells #[] 97)) := hs1.same hs0
  have hz1 := hs1.size
  have hf0 : ∀ k, blockOf (some (⟨w1.heap.size, 0, none⟩ : Addr)) = some k → w.heap.size ≤ k := fun k hk => by
    obtain rfl : w1.heap.size = k := Option.some.inj hk
    exact hz1
  have hg0 : ∀ k, blockOf (some (⟨w1.heap.size, 0, none⟩ : Addr)) = some k → w1.heap.size ≤ k := fun k hk => by
    obtain rfl : w1.heap.size = k := Option.some.inj hk
    exact Nat.le_refl _
  generalize hw0 : w1.alloc (.cells #[] 97) = w0 at *
  clear hw0
  generalize (some (⟨w1.heap.size, 0, none⟩ : Addr)) = A0 at *
  clear hs1
  go_wp2
  go_loopw [10, 11, 26] (fun v10 v11 v26 wr => ∃ (i m : Nat) (d : Bool) (B : Option Addr) (cB : Nat), v26 = .int .i64 (i : Int) ∧ v10 = .slice B m cB ∧ v11 = .bool d ∧ i ≤ m0 ∧ m = (outS (r.take i) ⟨s, v'⟩).1.length ∧ d = (outS (r.take i) ⟨s, v'⟩).2 ∧ m ≤ i + 1 ∧ IW wr B m cB (outS (r.take i) ⟨s, v'⟩).1 ∧ (∀ k, blockOf B = some k → w1.heap.size ≤ k) ∧ Step (fun _ => False) w1 wr ∧ Step (fun _ => False) w wr) (fun _ _ v _ => m0 - (intOf v).toNat)
  case atStart => exact ⟨0, 0, false, A0, 0, rfl, rfl, rfl, Nat.zero_le _, rfl, rfl, by omega, hB0, hg0, hs0, hst0⟩
  case round =>
    clear hB0 hf0 hs0 hg0 hst0
    obtain ⟨i, m, d, B, cB, rfl, rfl, rfl, hi, hm, hd, hmi, hB, hBf, hst, hst'⟩ := hrel
    by_cases hin : i < m0
    · have hin' : ((i : Int) < (m0 : Int)) := by omega
      have hR := HR.out.same hst
      obtain ⟨g, o, rfl⟩ := RSeg.isSome hR (by omega) (by omega)
      obtain ⟨x, hx⟩ : ∃ x, r[i]? = some x := ⟨_, List.getElem?_eq_getElem (by rw [HLN.out]; exact hin)⟩
      obtain ⟨g0, g1⟩ := itcs_at hx
      have a0 := RSeg.cell hR g0
      have a1 := RSeg.cell' hR g1
      have htk : r.take (i + 1) = r.take i ++ [x] := by rw [List.take_add_one, hx]; rfl
      rw [Nat.add_zero] at a0
      obtain ⟨xk, xt⟩ := x
      simp only at a0 a1
      have HM := Lib.hid hm
      have HD := Lib.hid hd
      have HTK := Lib.hid htk
      have HLE := Lib.hid (fun (y : It) => outS_len (r.take i ++ [y]) ⟨s, v'⟩)
      clear hR hx g0 g1 hm hd htk
      go_upto_region 8 with (fail)
      refine alloc_next (cs := [.string xk, .int .i64 xt]) ?_
      intro w2 hX hs2
      have hst1 := hst.same hs2
      have hst1' := hst'.same hs2
      have hB1 := hB.keep hs2 (fun _ _ h => h)
      have HBW := Lib.hid (fun k (hk : blockOf B = some k) => (FSeg.lt hB hk : k < wr.heap.size))
      clear a0 a1 hB
      obtain ⟨xb, hxb⟩ : ∃ xb, wr.heap.size = xb := ⟨_, rfl⟩
      rw [hxb] at hX HBW ⊢
      have hBx : ∀ k, blockOf B = some k → k ≠ xb := fun k hk => by have := FSeg.lt hB1 hk; have := HBW.out k hk; omega
      clear hxb
      have x1 := hX.cell (i := 1) rfl
      cases d with
      | true =>
        have x0 := hX.cell (i := 0) rfl
        have HS := Lib.hid (outS_done (x := ⟨xk, xt⟩) HD.out.symm)
        have HLB : m + 1 ≤ i + 1 + 1 := by
          have h1 := HLE.out ⟨xk, xt⟩
          rw [HS.out, List.length_append, List.length_append, ← HM.out, List.length_take] at h1
          simp only [List.length_cons, List.length_nil] at h1
          omega
        go_upto_region 11 with (fail)
        obtain ⟨B5, c5, w5, hap, hB6, hB5f, hst5, hks5⟩ := app_step hst1 hB1 hBf (by omega) xk xt
        have HB6 := Lib.hid hB6
        have HST5 := Lib.hid (hst1'.trans hks5 (fun j hj h => by have := hBf j h; omega))
        have HST6 := Lib.hid hst5
        clear hB6 hst5 hks5
        go_wp2_with (at_builtin; refine wpList_app1 (by rfl) (.tmp 44) (.tmp 46) 50 (by rfl) (by rfl) (by rfl) hap ?_)
        go_roundw
        case rel => exact ⟨i + 1, m + 1, true, B5, c5, by go_num, rfl, rfl, by omega, by rw [HTK.out, HS.out, List.length_append, ← HM.out]; rfl, by rw [HTK.out, HS.out], HLB, by rw [HTK.out, HS.out]; exact HB6.out, hB5f, HST6.out, HST5.out⟩
        case measure => simp [intOf]; omega
      | false =>
        by_cases hlate : xt ≤ v'
        · have HS := Lib.hid (outS_soon (x := ⟨xk, xt⟩) HD.out.symm hlate)
          have HLB : m + 1 ≤ i + 1 + 1 := by omega
          have hgt : ¬ (xt > v') := by omega
          clear hlate
          go_upto_region 11 with (fail)
          have x0 := hX.cell (i := 0) rfl
          obtain ⟨B5, c5, w5, hap, hB6, hB5f, hst5, hks5⟩ := app_step hst1 hB1 hBf (by omega) xk xt
          have HB6 := Lib.hid hB6
          have HST5 := Lib.hid (hst1'.trans hks5 (fun j hj h => by have := hBf j h; omega))
          have HST6 := Lib.hid hst5
          clear hB6 hst5 hks5
          go_wp2_with (at_builtin; refine wpList_app1 (by rfl) (.tmp 44) (.tmp 46) 50 (by rfl) (by rfl) (by rfl) hap ?_)
          go_roundw
          case rel => exact ⟨i + 1, m + 1, false, B5, c5, by go_num, rfl, rfl, by omega, by rw [HTK.out, HS.out, List.length_append, ← HM.out]; rfl, by rw [HTK.out, HS.out], HLB, by rw [HTK.out, HS.out]; exact HB6.out, hB5f, HST6.out, HST5.out⟩
          case measure => simp [intOf]; omega
        · have HS := Lib.hid (outS_late (x := ⟨xk, xt⟩) HD.out.symm hlate)
          have hml : m ≤ i := by
            have h1 := HLE.out ⟨xk, xt⟩
            rw [HS.out, List.length_append, List.length_append, ← HM.out, List.length_append, List.length_take] at h1
            simp only [List.length_cons, List.length_nil] at h1
            omega
          have hgt : xt > v' := by omega
          clear hlate
          go_upto_region 9 with (fail)
          obtain ⟨B4, c4, w4, hap4, hB4, hB4f, hst4, hks4⟩ := app_step hst1 hB1 hBf (by omega) s v'
          have hX4 := hX.keep hks4 (fun h => hBx _ h rfl)
          have hst4' := hst1'.trans hks4 (fun j hj h => by have := hBf j h; omega)
          clear hks4 hX x1
          go_upto_region 10 with (at_builtin; refine wpList_app1 (by rfl) (.tmp 38) (.tmp 42) 50 (by rfl) (by rfl) (by rfl) hap4 ?_)
          have x0 := hX4.cell (i := 0) rfl
          have x1 := hX4.cell (i := 1) rfl
          go_upto_region 11 with (fail)
          obtain ⟨B5, c5, w5, hap, hB6, hB5f, hst5, hks5⟩ := app_step hst4 hB4 hB4f (by omega) xk xt
          have HB6 := Lib.hid hB6
          have HST5 := Lib.hid (hst4'.trans hks5 (fun j hj h => by have := hB4f j h; omega))
          have HST6 := Lib.hid hst5
          clear hB6 hst5 hks5 hap4 hB4
          go_wp2_with (at_builtin; refine wpList_app1 (by rfl) (.tmp 44) (.tmp 46) 50 (by rfl) (by rfl) (by rfl) hap ?_)
          go_roundw
          case rel => exact ⟨i + 1, m + 1 + 1, true, B5, c5, by go_num, rfl, rfl, by omega, by rw [HTK.out, HS.out, List.length_append, List.length_append, ← HM.out]; rfl, by rw [HTK.out, HS.out], by omega, by rw [HTK.out, HS.out]; exact HB6.out, hB5f, HST6.out, HST5.out⟩
          case measure => simp [intOf]; omega
    · obtain rfl : i = m0 := by omega
      have hin' : ¬ ((i : Int) < (i : Int)) := by omega
      rw [List.take_of_length_le (by rw [HLN.out]; exact Nat.le_refl _)] at hB hm hd
      have HE := Lib.hid (outS_end r ⟨s, v'⟩)
      have HM := Lib.hid hm
      have HD := Lib.hid hd
      have hmb : m ≤ i + 1 := hmi
      clear hm hd hmi
      cases d with
      | true =>
        have HE2 : Hid ((outS r ⟨s, v'⟩).1 = itIns r ⟨s, v'⟩) := Lib.hid (by have := HE.out; rw [if_pos HD.out.symm] at this; exact this)
        rw [HE2.out] at hB HM
        have HB := Lib.hid hB
        clear HE HE2 hB HD
        go_wp2
        go_ret
        exact ⟨B, cB, by rw [← HM.out]; rfl, by rw [← HM.out]; exact HB.out, fun k hk => by have := hBf k hk; omega, hst'⟩
      | false =>
        have HE2 : Hid ((outS r ⟨s, v'⟩).1 ++ [⟨s, v'⟩] = itIns r ⟨s, v'⟩) := Lib.hid (by have := HE.out; rw [if_neg (by rw [← HD.out]; simp)] at this; exact this)
        go_upto_region 14 with (fail)
        obtain ⟨B4, c4, w4, hap4, hB4, hB4f, hst4, hks4⟩ := app_step hst hB hBf (by omega) s v'
        rw [HE2.out] at hB4
        have hst4' := hst'.trans hks4 (fun j hj h => by have := hBf j h; omega)
        have HL : Hid ((itIns r ⟨s, v'⟩).length = m + 1) := Lib.hid (by rw [← HE2.out, List.length_append, ← HM.out]; rfl)
        have HB := Lib.hid hB4
        clear HE HE2 hB hB4 HD hst4 hks4
        go_wp2_with (at_builtin; refine wpList_app1 (by rfl) (.tmp 51) (.tmp 55) 50 (by rfl) (by rfl) (by rfl) hap4 ?_)
        go_ret
        exact ⟨B4, c4, by rw [HL.out]; rfl, by rw [HL.out]; exact HB.out, fun k hk => by have := hB4f k hk; omega, hst4'⟩

theorem post_tct {P : Program} {fn : Func} {R : Ending → World → Prop} {p u v : Tmp} {ty : TypeId} (h : fn.results = #[.tmp u, .cell p ty, .tmp v]) {a : Act} {w : World} {g : Nat} {T : TypeId} {cs : List Value} {d : TypeDesc} {vu vv : Value} (hp : a.tmps.getD p undef = .pointer (some ⟨g, 0, none⟩)) (hE : Blk w g T cs)
    (hu : P.underlying ty = some d) (hd : (match d with | .struct _ | .array _ _ => true | _ => false) = true) (hi : (P.info? ty).map (·.size) = some cs.length) (hvu : a.tmps.getD u undef = vu) (hvv : a.tmps.getD v undef = vv) (hdef : a.defers = []) (hR : R (.returned (.tuple #[vu, .agg cs.toArray, vv])) w) : bodyPost P fn R .ret a w := by
  refine bodyPost_ret ?_ hdef hR
  have hr := run_loadVar_row (P := P) w g T ty cs.toArray (0, 0) d hE hu hd (by simpa using hi)
  have hp' : a.tmps[p]?.getD undef = .pointer (some ⟨g, 0, none⟩) := by simpa using hp
  have hu' : a.tmps[u]?.getD undef = vu := by simpa using hvu
  have hv' : a.tmps[v]?.getD undef = vv := by simpa using hvv
  simp [results, h, hp', hu', hv', asAddr, hr]
set_option maxRecDepth 100000 in
set_option maxHeartbeats 1000000 in
theorem pop_none {w : World} {A : Option Addr} {n c : Nat} {l : List It} (h : IRd w A n l) (hn : n ≤ 100000) (now : Int) (hno : ∀ x ∈ l.head?, now < x.tm) :
    Calls Try.prog 44 #[.slice A n c, .int .i64 now] w fun e w' => e = .returned (.tuple #[.slice A n c, .agg #[.string ⟨#[]⟩, .int .i64 0], .bool false]) ∧ Step (fun _ => False) w w' := by
  have hlen := h.len
  cases l with
  | nil =>
    obtain rfl : n = 0 := hlen.symm
    clear hno h hlen
    go_enter Try.func44, Try.ntmps44
    go_upto_region 1 with (fail)
    refine alloc_next (cs := [.string ⟨#[]⟩, .int .i64 0]) ?_
    intro w1 hR hs1
    obtain ⟨rb, hrb⟩ : ∃ rb, w.heap.size = rb := ⟨_, rfl⟩
    rw [hrb] at hR ⊢
    have HRB := Lib.hid hrb
    clear hrb
    go_wp2_with (refine wpList_store_blk rfl 97 (.tmp 5) (.tmp 19) rfl hR rfl (vs := [.string ⟨#[]⟩, .int .i64 0]) rfl (by kernel_rfl) rfl (fun v hv => by simp only [List.mem_cons, List.not_mem_nil, or_false] at hv; rcases hv with rfl | rfl <;> rfl) ?_; intro w9 hZ9 hs9)
    try simp only [Exit.inBlock, Exit.then]
    exact post_tct (cs := [.string ⟨#[]⟩, .int .i64 0]) rfl rfl hZ9 Try.underlying97 rfl (by kernel_rfl) rfl rfl rfl ⟨rfl, hs1.trans hs9 (fun j hj e => by have := HRB.out; omega)⟩
  | cons x r =>
    have hx := hno x rfl
    have hn0 : 0 < n := by rw [← hlen]; simp
    have hgt : x.tm > now := hx
    obtain ⟨g, o, rfl⟩ := RSeg.isSome h (by omega) (by omega)
    have HH := Lib.hid h
    obtain ⟨xk, xt⟩ := x
    clear hno h hlen hx
    have hne : (n == 0) = false := by simp; omega
    simp only at hgt
    go_enter Try.func44, Try.ntmps44
    go_upto_region 1 with (fail)
    refine alloc_next (cs := [.string ⟨#[]⟩, .int .i64 0]) ?_
    intro w1 hR hs1
    have a1 : w1.cell? ⟨g, o + 1, none⟩ = some (.int .i64 xt) := RSeg.cell (HH.out.same hs1) rfl
    obtain ⟨rb, hrb⟩ : ∃ rb, w.heap.size = rb := ⟨_, rfl⟩
    rw [hrb] at hR ⊢
    have HRB := Lib.hid hrb
    clear hrb
    go_wp2_with (refine wpList_store_blk rfl 97 (.tmp 5) (.tmp 19) rfl hR rfl (vs := [.string ⟨#[]⟩, .int .i64 0]) rfl (by kernel_rfl) rfl (fun v hv => by simp only [List.mem_cons, List.not_mem_nil, or_false] at hv; rcases hv with rfl | rfl <;> rfl) ?_; intro w9 hZ9 hs9)
    try simp only [Exit.inBlock, Exit.then]
    exact post_tct (cs := [.string ⟨#[]⟩, .int .i64 0]) rfl rfl hZ9 Try.underlying97 rfl (by kernel_rfl) rfl rfl rfl ⟨rfl, hs1.trans hs9 (fun j hj e => by have := HRB.out; omega)⟩
set_option maxRecDepth 100000 in
set_option maxHeartbeats 1000000 in
theorem pop_some {w : World} {A : Option Addr} {n c : Nat} {x : It} {r : List It} (h : IRd w A n (x :: r)) (hn : n ≤ 100000) (hnc : n ≤ c) (now : Int) (hx : ¬ now < x.tm) :
    Calls Try.prog 44 #[.slice A n c, .int .i64 now] w fun e w' => ∃ A', e = .returned (.tuple #[.slice A' (n - 1) (c - 1), .agg #[.string x.key, .int .i64 x.tm], .bool true]) ∧ IRd w' A' (n - 1) r ∧ blockOf A' = blockOf A ∧ Step (fun _ => False) w w' := by
  have hlen := h.len
  have hn0 : 0 < n := by rw [← hlen]; simp
  have hgt : ¬ (x.tm > now) := by omega
  obtain ⟨A', hsl, hA0', hbl⟩ := rseg_drop (c := c) (m := 1) (P := Try.prog) (t := 50) (by kernel_rfl) (fun wx => by kernel_rfl) h hnc hn0
  have hA' : IRd w A' (n - 1) r := by
    unfold IRd
    rw [show itcs r = (itcs (x :: r)).drop (1 * 2) from rfl]
    exact hA0'
  have HA' := Lib.hid hA'
  have HBL := Lib.hid hbl
  obtain ⟨g, o, rfl⟩ := RSeg.isSome h (by omega) (by omega)
  have HH := Lib.hid h
  obtain ⟨xk, xt⟩ := x
  have hsl1 : ∀ wx, (Instr.slice 50 (.slice (some ⟨g, o, none⟩) n c) (some (.int .i64 1)) none none).run Try.prog wx = .ok (.slice A' (n - 1) (c - 1)) wx := hsl
  clear h hlen hx hA' hA0' hbl hsl
  have hne : (n == 0) = false := by simp; omega
  have hn1 : 0 < (n : Int) := by omega
  simp only at hgt
  go_enter Try.func44, Try.ntmps44
  go_upto_region 1 with (fail)
  refine alloc_next (cs := [.string ⟨#[]⟩, .int .i64 0]) ?_
  intro w1 hR hs1
  have a0 : w1.cell? ⟨g, o, none⟩ = some (.string xk) := RSeg.cell (j := 0) (HH.out.same hs1) rfl
  have a1 : w1.cell? ⟨g, o + 1, none⟩ = some (.int .i64 xt) := RSeg.cell (HH.out.same hs1) rfl
  obtain ⟨rb, hrb⟩ : ∃ rb, w.heap.size = rb := ⟨_, rfl⟩
  rw [hrb] at hR ⊢
  have HRB := Lib.hid hrb
  clear hrb
  go_upto_region 3 with (fail)
  have f0 := hR.free 0
  have f1 := hR.free 1
  have z0 := hR.cell (i := 0) rfl
  have z1 := hR.cell (i := 1) rfl
  go_region
  all_goals
    go_wp2
    have hR2 := (hR.set 0 (.string xk)).set 1 (.int .i64 xt)
    have hst : Step (fun _ => False) w ((w1.setCell ⟨rb, 0, none⟩ (.string xk)).setCell ⟨rb, 1, none⟩ (.int .i64 xt)) := hs1.trans ((step_put w1 rb 0 _).same (step_put _ rb 1 _)) (fun j hj e => by have := HRB.out; omega)
    have hra : IRd ((w1.setCell ⟨rb, 0, none⟩ (.string xk)).setCell ⟨rb, 1, none⟩ (.int .i64 xt)) A' (n - 1) r := HA'.out.same hst
    exact post_tct (cs := [.string xk, .int .i64 xt]) rfl rfl (hR2.drew) Try.underlying97 rfl (by kernel_rfl) rfl rfl rfl ⟨A', rfl, hra.same (Step.refl _ _).drew, HBL.out, hst.drew⟩
end Go.Proofs.Ytgohlbljdffelaa.It

/- cmp.Compare and cmp.Or of whole numbers. Own work of this seat. -/
namespace Go.Proofs.Ytgohlbljdffelaa.Cmp
open Go.RowKit Go.Proofs.Ytgohlbljdffelaa.Kit
set_option linter.unusedVariables false
set_option linter.unusedSimpArgs false
def cmpI (a b : Int) : Int := if a < b then -1 else if b < a then 1 else 0
def orI (x y : Int) : Int := if x = 0 then y else x
theorem isnan_calls (a : Int) (w : World) : Calls Try.prog 77 #[.int .i64 a] w fun e w' => e = .returned (.bool false) ∧ w = w' := by
  go_enter Try.func77, Try.ntmps77
  go_wp2
  go_ret
  exact ⟨by simp, rfl⟩
theorem compare_calls (a b : Int) (w : World) : Calls Try.prog 70 #[.int .i64 a, .int .i64 b] w fun e w' => e = .returned (.int .i64 (cmpI a b)) ∧ w = w' := by
  unfold cmpI
  by_cases h1 : a < b
  · rw [if_pos h1]
    go_enter Try.func70, Try.ntmps70
    go_wp2_with (go_at_call 77; refine (isnan_calls _ _).mono ?_; rintro e w' ⟨rfl, rfl⟩)
    go_ret
    exact ⟨rfl, rfl⟩
  · rw [if_neg h1]
    by_cases h2 : b < a
    · rw [if_pos h2]
      go_enter Try.func70, Try.ntmps70
      go_wp2_with (go_at_call 77; refine (isnan_calls _ _).mono ?_; rintro e w' ⟨rfl, rfl⟩)
      go_ret
      exact ⟨rfl, rfl⟩
    · rw [if_neg h2]
      go_enter Try.func70, Try.ntmps70
      go_wp2_with (go_at_call 77; refine (isnan_calls _ _).mono ?_; rintro e w' ⟨rfl, rfl⟩)
      go_ret
      exact ⟨rfl, rfl⟩
theorem or_calls {w : World} {b : Nat} (x y : Int) (h : Blk w b 3 [.int .i64 x, .int .i64 y]) : Calls Try.prog 69 #[.slice (some ⟨b, 0, none⟩) 2 2] w fun e w' => e = .returned (.int .i64 (orI x y)) ∧ w = w' := by
  unfold orI
  have c0 := h.cell (i := 0) rfl
  have c1 := h.cell (i := 1) rfl
  by_cases h1 : x = 0
  · rw [if_pos h1]
    subst h1
    by_cases h2 : y = 0
    · subst h2
      go_enter Try.func69, Try.ntmps69
      go_wp2
      refine wp_loop_rounds 3 ?_
      rw [rounds_succ]
      go_wp2
      rw [rounds_succ]
      go_wp2
      rw [rounds_succ]
      go_wp2
      go_ret
      exact ⟨rfl, rfl⟩
    · have h3 : (y != 0) = true := by simpa using h2
      have h4 : (y == 0) = false := by simpa using h2
      go_enter Try.func69, Try.ntmps69
      go_wp2
      refine wp_loop_rounds 2 ?_
      rw [rounds_succ]
      go_wp2
      rw [rounds_succ]
      go_wp2
      go_ret
      exact ⟨rfl, rfl⟩
  · rw [if_neg h1]
    have h3 : (x != 0) = true := by simpa using h1
    have h4 : (x == 0) = false := by simpa using h1
    go_enter Try.func69, Try.ntmps69
    go_wp2
    refine wp_loop_rounds 1 ?_
    rw [rounds_succ]
    go_wp2
    go_ret
    exact ⟨rfl, rfl⟩
end Go.Proofs.Ytgohlbljdffelaa.Cmp

/- Maps of any elements, as functions of the key: made, read, written, struck, counted. Own work of this seat; no condition. -/
namespace Go.Proofs.Ytgohlbljdffelaa.Kit
open Go.RowKit Go.Maps Go.ChangeMaps
set_option linter.unusedVariables false
set_option linter.unusedSimpArgs false

def anyElem (v : Value) : Option (DataW Value × List MemPlace) := some (.held v, [])
/-- Block b is a map of m entries; under k it has f k; it was stored into at most n times. -/
def MG (P : Program) (K : TypeId) (w : World) (b n m : Nat) (f : Lit → Option Value) : Prop :=
  ∃ D : DataW Value, w.ownsMap P K anyElem b n D ∧ Maps.size D = m ∧ ∀ k, WideAt.IsKeyLit k → Maps.has D k = (f k).isSome ∧ ∀ z, D.atKey k (.held z) = .held ((f k).getD z)
def putF (f : Lit → Option Value) (k : Lit) (v : Value) : Lit → Option Value := fun j => if j.sameKey k then some v else f j
def delF (f : Lit → Option Value) (k : Lit) : Lit → Option Value := fun j => if j.sameKey k then none else f j
theorem sameKey_self {k : Lit} (h : WideAt.IsKeyLit k) : k.sameKey k = true := by
  cases k <;> first | (simp [Lit.sameKey]; done) | exact absurd h id
section
variable {P : Program} {K : TypeId} {w w' : World} {b n m : Nat} {f g : Lit → Option Value} {F : Nat → Prop}
theorem MG.lt (h : MG P K w b n m f) : b < w.heap.size := by obtain ⟨D, hD, _⟩ := h; exact hD.lt
theorem MG.keep (h : MG P K w b n m f) (hs : Step F w w') (hb : ¬ F b) : MG P K w' b n m f := by
  obtain ⟨D, hD, hf⟩ := h
  refine ⟨D, ?_, hf⟩
  have hlt := hD.lt
  obtain ⟨es, clock, hb', G, hn, hD⟩ := hD
  exact ⟨es, clock, (hs.block b hlt hb).trans hb', G, hn, hD⟩
theorem MG.mono (h : MG P K w b n m f) {n' : Nat} (hn : n ≤ n') : MG P K w b n' m f := by
  obtain ⟨D, hD, hf⟩ := h
  exact ⟨D, hD.mono hn, hf⟩
theorem MG.ext (h : MG P K w b n m f) (e : ∀ k, WideAt.IsKeyLit k → g k = f k) : MG P K w b n m g := by
  obtain ⟨D, hD, hm, hf⟩ := h
  exact ⟨D, hD, hm, fun k hk => by rw [e k hk]; exact hf k hk⟩
theorem MG.size_le (h : MG P K w b n m f) : m ≤ n := by
  obtain ⟨D, hD, rfl, hf⟩ := h
  exact hD.size_le
theorem mg_new (P : Program) (K : TypeId) (w : World) : MG P K (w.alloc (.map #[] 0)) w.heap.size 0 0 (fun _ => none) :=
  ⟨_, World.ownsMap_made _ _ _ _, rfl, fun k hk => ⟨rfl, fun z => rfl⟩⟩
theorem step_of_grown_some {w w' : World} {b : Nat} (h : w.grownBy w' (some b)) : Step (· = b) w w' := Step.of_grown h (fun k e _ => (Option.some.inj e).symm)

theorem MG.look {t e : TypeId} (h : MG P K w b n m f) (L : Keyed P K) (ht : P.underlying t = some (.map K e)) {z : Value} (hz : (zeroValue e).run P w = .ok z w) {key : Value} {kl : Lit} (hl : WideAt.IsKeyLit kl) (hkey : keyOf P K key = some kl) :
    (Instr.lookup t (.map (some b)) key false).run P w = .ok ((f kl).getD z) w := by
  obtain ⟨D, hD, _, hf⟩ := h
  obtain ⟨v, ps, hrun, hv⟩ := hD.lookup L ht hz (zd := .held z) (zp := []) rfl hkey
  rw [(hf kl hl).2 z] at hv
  unfold anyElem at hv
  injection hv with hv
  injection hv with hv _
  injection hv with hv
  rw [hrun, hv]
theorem MG.look_ok {t e : TypeId} (h : MG P K w b n m f) (L : Keyed P K) (ht : P.underlying t = some (.map K e)) {z : Value} (hz : (zeroValue e).run P w = .ok z w) {key : Value} {kl : Lit} (hl : WideAt.IsKeyLit kl) (hkey : keyOf P K key = some kl) :
    (Instr.lookup t (.map (some b)) key true).run P w = .ok (.tuple #[(f kl).getD z, .bool (f kl).isSome]) w := by
  obtain ⟨D, hD, _, hf⟩ := h
  obtain ⟨v, ps, hrun, hv⟩ := hD.look_ok L ht hz (zd := .held z) (zp := []) rfl hkey
  rw [(hf kl hl).2 z] at hv
  unfold anyElem at hv
  injection hv with hv
  injection hv with hv _
  injection hv with hv
  rw [hrun, hv, (hf kl hl).1]
theorem MG.len {t e : TypeId} (h : MG P K w b n m f) (ht : P.underlying t = some (.map K e)) (ty : TypeId) : (Builtin.len_ #[t] ty #[.map (some b)]).run P w = .ok (.int .i64 m) w := by
  obtain ⟨D, hD, rfl, hf⟩ := h
  exact hD.len ht ty
theorem MG.put {t e : TypeId} (h : MG P K w b n m f) (L : Keyed P K) (ht : P.underlying t = some (.map K e)) (hn : n ≤ 1000000) {key : Value} (val : Value) {kl : Lit} (hl : WideAt.IsKeyLit kl) (hkey : keyOf P K key = some kl) :
    ∃ w', (Instr.mapUpdate t (.map (some b)) key val).run P w = .ok () w' ∧ MG P K w' b (n + 1) (if (f kl).isSome then m else m + 1) (putF f kl val) ∧ Step (· = b) w w' := by
  obtain ⟨D, hD, hm, hf⟩ := h
  obtain ⟨w', hr, h1, h2⟩ := hD.update L ht (by unfold maxLen; omega) hkey (val := val) (d := .held val) (ps := []) rfl
  refine ⟨w', hr, ⟨_, h1, ?_, fun k hk => ?_⟩, step_of_grown_some h2⟩
  · rw [size_put (hD.tidy L), (hf kl hl).1, hm]
  · unfold putF
    by_cases e : k = kl
    · subst e
      rw [if_pos (sameKey_self hl)]
      exact ⟨has_put_same hD.isMap hl _, fun z => by rw [atKey_put_same hD.isMap hl]; rfl⟩
    · rw [if_neg (by rw [sameKey_ne e]; simp)]
      exact ⟨by rw [has_put_other e]; exact (hf k hk).1, fun z => by rw [atKey_put_other e]; exact (hf k hk).2 z⟩
theorem MG.drop {t e : TypeId} (h : MG P K w b n m f) (L : Keyed P K) (ht : P.underlying t = some (.map K e)) {key : Value} {kl : Lit} (hl : WideAt.IsKeyLit kl) (hkey : keyOf P K key = some kl) (ty : TypeId) :
    ∃ w', (Builtin.delete_ #[t, K] ty #[.map (some b), key]).run P w = .ok (.tuple #[]) w' ∧ MG P K w' b n (if (f kl).isSome then m - 1 else m) (delF f kl) ∧ Step (· = b) w w' := by
  obtain ⟨D, hD, hm, hf⟩ := h
  obtain ⟨w', hr, h1, h2⟩ := hD.drop L ht hkey ty
  refine ⟨w', hr, ⟨_, h1, ?_, fun k hk => ?_⟩, step_of_grown_some h2.grown⟩
  · have := size_del (k := kl) (hD.tidy L)
    rw [(hf kl hl).1, hm] at this
    split <;> simp_all <;> omega
  · unfold delF
    by_cases e : k = kl
    · subst e
      rw [if_pos (sameKey_self hl)]
      exact ⟨has_del_same, fun z => by rw [atKey_del_same]; rfl⟩
    · rw [if_neg (by rw [sameKey_ne e]; simp)]
      exact ⟨by rw [has_del_other e]; exact (hf k hk).1, fun z => by rw [atKey_del_other e]; exact (hf k hk).2 z⟩
end
section
variable {P : Program} {K : TypeId} {b n m : Nat} {f : Lit → Option Value} {ops : Array Oper} {rest : List Oper} {o : Oper} {a : Act} {Q : Exit → Act → World → Prop} {w : World}
theorem wpList_mg_put (hg : o.guard = none) (mo x v : Operand) (t : TypeId) (hop : o.op = Op.mapUpdate t mo x v) {e : TypeId} (h : MG P K w b n m f) (L : Keyed P K) (ht : P.underlying t = some (.map K e)) (hn : n ≤ 1000000) {key val : Value} {kl : Lit} (hl : WideAt.IsKeyLit kl) (hkey : keyOf P K key = some kl)
    (hm : a.eval mo = .map (some b)) (hx : a.eval x = key) (hv : a.eval v = val)
    (hK : ∀ w', MG P K w' b (n + 1) (if (f kl).isSome then m else m + 1) (putF f kl val) → Step (· = b) w w' → wpList P ops Q rest (a.put o.dst undef) w') : wpList P ops Q (o :: rest) a w := by
  refine wpList_plain hg fun K' hK' => ?_
  obtain ⟨w', hrun, r1, r2⟩ := h.put L ht hn val hl hkey
  unfold Oper.wp
  simp [execOp, hop, hm, hx, hv, hrun, Result.andThen]
  exact hK' _ _ (hK w' r1 r2)
theorem wpList_mg_drop (hg : o.guard = none) (mo x : Operand) (t : TypeId) (hop : o.op = Op.call { callee := Callee.builtin Builtin.delete, args := #[mo, x], argTypes := #[t, K] }) {e : TypeId} (h : MG P K w b n m f) (L : Keyed P K) (ht : P.underlying t = some (.map K e)) {key : Value} {kl : Lit} (hl : WideAt.IsKeyLit kl) (hkey : keyOf P K key = some kl)
    (hm : a.eval mo = .map (some b)) (hx : a.eval x = key)
    (hK : ∀ w', MG P K w' b n (if (f kl).isSome then m - 1 else m) (delF f kl) → Step (· = b) w w' → wpList P ops Q rest (a.put o.dst (.tuple #[])) w') : wpList P ops Q (o :: rest) a w := by
  refine wpList_plain hg fun K' hK' => ?_
  obtain ⟨w', hrun, r1, r2⟩ := h.drop L ht hl hkey o.type
  unfold Oper.wp
  simp [execOp, hop, resolve, invoke, builtin, hm, hx, hrun, Result.andThen]
  exact hK' _ _ (hK w' r1 r2)
end

/-! ### keys -/
def slit (s : ByteArray) : Lit := .string s.data.toList
theorem slit_inj {s t : ByteArray} (e : slit s = slit t) : s = t := by
  unfold slit at e
  injection e with e
  cases s with | mk a => cases t with | mk b => cases a; cases b; simp_all
theorem skey {P : Program} {K : TypeId} (hK : P.underlying K = some .string) {s : ByteArray} (h : s.size ≤ 1000000) : keyOf P K (.string s) = some (slit s) := Go.WideMaps.keyOf_string_mk hK (by unfold maxLen; omega)
def ilit (n : Int) : Lit := .int .i64 n
theorem ilit_inj {s t : Int} (e : ilit s = ilit t) : s = t := by
  unfold ilit at e
  injection e with _ e
theorem ikey {P : Program} {K : TypeId} (hK : P.underlying K = some (.int .i64)) {n : Int} (h0 : -9223372036854775808 ≤ n) (h1 : n ≤ 9223372036854775807) : keyOf P K (.int .i64 n) = some (ilit n) := Go.Maps.keyOf_int_mk hK (WalkArith.wf_i64 ⟨h0, h1⟩)
theorem slit_ok (s : ByteArray) : WideAt.IsKeyLit (slit s) := trivial
theorem ilit_ok (s : Int) : WideAt.IsKeyLit (ilit s) := trivial
end Go.Proofs.Ytgohlbljdffelaa.Kit

/- agenda: the items and their pile in memory; compare, Len, Less. Own work of this seat. -/
namespace Go.Proofs.Ytgohlbljdffelaa.AgStr
open Go.RowKit Go.Proofs.Ytgohlbljdffelaa.Kit Go.Proofs.Ytgohlbljdffelaa.Cmp Go.Proofs.Ytgohlbljdffelaa.HeapP
set_option linter.unusedVariables false
set_option linter.unusedSimpArgs false

structure It where
  key : ByteArray
  tm : Int
  turn : Int
  blk : Nat
instance : Inhabited It := ⟨⟨default, 0, 0, 0⟩⟩
def lt (x y : It) : Bool := decide (x.tm < y.tm) || (decide (x.tm = y.tm) && decide (x.turn < y.turn))
def le (x y : It) : Prop := lt y x = false
def cmpV (x y : It) : Int := orI (cmpI x.tm y.tm) (cmpI x.turn y.turn)
theorem lt_iff (x y : It) : lt x y = true ↔ (x.tm < y.tm ∨ (x.tm = y.tm ∧ x.turn < y.turn)) := by simp [lt]
theorem lt_not (x y : It) : lt x y = false ↔ ¬ (x.tm < y.tm ∨ (x.tm = y.tm ∧ x.turn < y.turn)) := by
  rw [← lt_iff]; simp
theorem le_iff (x y : It) : le x y ↔ ¬ (y.tm < x.tm ∨ (y.tm = x.tm ∧ y.turn < x.turn)) := lt_not y x
theorem le_tr : Tr le := by
  intro a b c h1 h2
  rw [le_iff] at *
  omega
theorem le_rf (a : It) : le a a := by rw [le_iff]; omega
theorem le_of_lt {a b : It} (h : lt a b = true) : le a b := by
  rw [lt_iff] at h
  rw [le_iff]
  omega
theorem cmpV_lt (x y : It) : decide (cmpV x y < 0) = lt x y := by
  rw [Bool.eq_iff_iff, lt_iff, decide_eq_true_eq]
  unfold cmpV orI cmpI
  by_cases h1 : x.tm < y.tm
  · simp [h1]
  · by_cases h2 : y.tm < x.tm
    · simp [h1, h2]; omega
    · have e : x.tm = y.tm := by omega
      by_cases h3 : x.turn < y.turn
      · simp [h1, h2, h3, e]
      · by_cases h4 : y.turn < x.turn
        · simp [h1, h2, h3, h4, e]
        · simp [h1, h2, h3, h4, e]

def icells (x : It) (i : Nat) : List Value := [Value.string x.key, .int .i64 x.tm, .int .i64 x.turn, .int .i64 (i : Int)]
def ptr (x : It) : Value := .pointer (some ⟨x.blk, 0, none⟩)
structure HM (w : World) (a : Nat) (M : Value) (turn : Int) (A : Option Addr) (c : Nat) (xs : List It) : Prop where
  blk : Blk w a 92 [.slice A xs.length c, M, .int .i64 turn]
  row : FSeg w 102 1 A xs.length c (xs.map ptr)
  itm : ∀ i x, xs[i]? = some x → Blk w x.blk 104 (icells x i)
  nd : (xs.map (·.blk)).Nodup
  na : ∀ x ∈ xs, x.blk ≠ a ∧ blockOf A ≠ some x.blk
  nA : blockOf A ≠ some a
/-- The blocks of the pile: its row and its items. -/
def foot (A : Option Addr) (xs : List It) (k : Nat) : Prop := blockOf A = some k ∨ ∃ x ∈ xs, x.blk = k
theorem HM.still {w w' : World} {a : Nat} {M : Value} {turn : Int} {A : Option Addr} {c : Nat} {xs : List It} {F : Nat → Prop} (h : HM w a M turn A c xs) (hs : Step F w w') (ha : ¬ F a) (hf : ∀ k, foot A xs k → ¬ F k) : HM w' a M turn A c xs :=
  ⟨h.blk.keep hs ha, h.row.keep hs (fun k hk => hf k (.inl hk)), fun i x hi => (h.itm i x hi).keep hs (hf _ (.inr ⟨x, List.mem_of_getElem? hi, rfl⟩)), h.nd, h.na, h.nA⟩
theorem HM.same {w w' : World} {a : Nat} {M : Value} {turn : Int} {A : Option Addr} {c : Nat} {xs : List It} (h : HM w a M turn A c xs) (hs : Step (fun _ => False) w w') : HM w' a M turn A c xs := h.still hs (fun h => h) (fun _ _ h => h)

set_option maxRecDepth 100000 in
set_option maxHeartbeats 1000000 in
theorem compare_calls {w : World} (x y : It) (i j : Nat) (hx : Blk w x.blk 104 (icells x i)) (hy : Blk w y.blk 104 (icells y j)) :
    Calls Try.prog 64 #[ptr x, ptr y] w fun e w' => e = .returned (.int .i64 (cmpV x y)) ∧ Step (fun _ => False) w w' := by
  unfold ptr cmpV
  obtain ⟨k1, t1, u1, b1⟩ := x
  obtain ⟨k2, t2, u2, b2⟩ := y
  have x1 := hx.cell (i := 1) rfl
  have x2 := hx.cell (i := 2) rfl
  have y1 := hy.cell (i := 1) rfl
  have y2 := hy.cell (i := 2) rfl
  have hxl := hx.lt
  have hyl := hy.lt
  simp only at x1 x2 y1 y2 hxl hyl ⊢
  clear hx hy
  have HC0 := fun (a b : Int) (w : World) => Go.Proofs.Ytgohlbljdffelaa.Cmp.compare_calls a b w
  have HC := Lib.hid HC0
  have HO0 : ∀ a b : Int, Blk ((w.alloc (.cells #[.int .i64 a, .int .i64 b] 3)).drew) w.heap.size 3 [.int .i64 a, .int .i64 b] := fun a b => (blk_new w [.int .i64 a, .int .i64 b] 3).drew
  have HO := Lib.hid HO0
  clear HC0 HO0
  go_enter Try.func64, Try.ntmps64
  go_upto_region 1 with (fail)
  go_region_held3 (fun w' => w'.cell? ⟨b1, 1, none⟩ = some (.int .i64 t1) ∧ w'.cell? ⟨b1, 2, none⟩ = some (.int .i64 u1) ∧ w'.cell? ⟨b2, 1, none⟩ = some (.int .i64 t2) ∧ w'.cell? ⟨b2, 2, none⟩ = some (.int .i64 u2)) (go_keep)
    (first | (go_at_call 70; refine (HC.out _ _ _).mono ?_; rintro e w' ⟨rfl, rfl⟩) | (go_at_call 69; refine (or_calls _ _ (HO.out _ _)).mono ?_; rintro e w' ⟨rfl, rfl⟩))
  go_wp2
  go_ret
  exact ⟨rfl, ((Step.refl _ _).alloc _).drew⟩

theorem HM.pick {w : World} {a : Nat} {M : Value} {turn : Int} {A : Option Addr} {c : Nat} {xs : List It} (h : HM w a M turn A c xs) {i : Nat} (hi : i < xs.length) : ∃ g, A = some ⟨g, 0, none⟩ ∧ w.cell? ⟨g, i, none⟩ = some (.pointer (some ⟨(lg xs i).blk, 0, none⟩)) ∧ Blk w (lg xs i).blk 104 (icells (lg xs i) i) := by
  obtain ⟨g, rfl⟩ := h.row.isSome (by omega)
  refine ⟨g, rfl, ?_, h.itm i _ (get_lg hi)⟩
  exact h.row.cell (by rw [List.getElem?_map, get_lg hi]; rfl)

set_option maxRecDepth 100000 in
set_option maxHeartbeats 1000000 in
theorem less_calls {w : World} {a : Nat} {M : Value} {turn : Int} {A : Option Addr} {c : Nat} {xs : List It} (h : HM w a M turn A c xs) {i j : Nat} (hi : i < xs.length) (hj : j < xs.length) :
    Calls Try.prog 134 #[.slice A xs.length c, .int .i64 (i : Int), .int .i64 (j : Int)] w fun e w' => e = .returned (.bool (lt (lg xs i) (lg xs j))) ∧ Step (fun _ => False) w w' := by
  obtain ⟨g, rfl, hci, hbi⟩ := h.pick hi
  obtain ⟨g', e', hcj, hbj⟩ := h.pick hj
  obtain rfl : g = g' := by simpa using e'
  rw [← cmpV_lt]
  have HC0 := fun w' (hs : Step (fun _ => False) w w') => compare_calls (w := w') (lg xs i) (lg xs j) i j (hbi.keep hs (fun h => h)) (hbj.keep hs (fun h => h))
  have hle := h.row.le
  have HK0 : ∀ w', Step (fun _ => False) w w' → w'.cell? ⟨g, i, none⟩ = some (.pointer (some ⟨(lg xs i).blk, 0, none⟩)) ∧ w'.cell? ⟨g, j, none⟩ = some (.pointer (some ⟨(lg xs j).blk, 0, none⟩)) := fun w' hs =>
    ⟨(h.row.keep hs (fun _ _ h => h)).cell (by rw [List.getElem?_map, get_lg hi]; rfl), (h.row.keep hs (fun _ _ h => h)).cell (by rw [List.getElem?_map, get_lg hj]; rfl)⟩
  clear hbi hbj h e'
  obtain ⟨v, hv⟩ : ∃ v, cmpV (lg xs i) (lg xs j) = v := ⟨_, rfl⟩
  rw [hv] at HC0 ⊢
  unfold AgStr.ptr at HC0
  generalize (lg xs i).blk = bi at *
  generalize (lg xs j).blk = bj at *
  generalize xs.length = n at *
  have i1 : (0 : Int) ≤ (i : Int) := by omega
  have i2 : (i : Int) < (n : Int) := by omega
  have j1 : (0 : Int) ≤ (j : Int) := by omega
  have j2 : (j : Int) < (n : Int) := by omega
  clear hv hi hj
  have HK := Lib.hid HK0
  have HC := Lib.hid HC0
  have hdr := (Step.refl (fun _ => False) w).drew
  clear HK0 HC0
  go_enter Try.func134, Try.ntmps134
  go_upto_region 1 with (fail)
  go_region_held3 (fun w' => w'.cell? ⟨g, i, none⟩ = some (.pointer (some ⟨bi, 0, none⟩)) ∧ w'.cell? ⟨g, j, none⟩ = some (.pointer (some ⟨bj, 0, none⟩))) (first | go_keep | exact HK.out _ hs1)
    ((go_at_call 64; refine (HC.out _ hdr).mono ?_; rintro e w1 ⟨rfl, hs0⟩; have hs1 := hdr.same hs0; clear hs0))
  go_wp2
  go_ret
  exact ⟨rfl, hs1⟩
end Go.Proofs.Ytgohlbljdffelaa.AgStr

/- agenda: Len, Swap, Push, Pop of the pile. Own work of this seat. -/
namespace Go.Proofs.Ytgohlbljdffelaa.AgStr
open Go.RowKit Go.Proofs.Ytgohlbljdffelaa.Kit Go.Proofs.Ytgohlbljdffelaa.Cmp Go.Proofs.Ytgohlbljdffelaa.HeapP
set_option linter.unusedVariables false
set_option linter.unusedSimpArgs false

theorem len_calls (A : Option Addr) (n c : Nat) (w : World) : Calls Try.prog 133 #[.slice A n c] w fun e w' => e = .returned (.int .i64 (n : Int)) ∧ w = w' := by
  go_enter Try.func133, Try.ntmps133
  go_wp2
  go_ret
  exact ⟨rfl, rfl⟩


set_option maxRecDepth 100000 in
set_option maxHeartbeats 1000000 in
theorem swap_ne {w : World} {g i j n c bi bj : Nat} (hi : i < n) (hj : j < n) (hn : i ≠ j) (hle : n ≤ c) (ci : w.cell? ⟨g, i, none⟩ = some (.pointer (some ⟨bi, 0, none⟩))) (cj : w.cell? ⟨g, j, none⟩ = some (.pointer (some ⟨bj, 0, none⟩)))
    (fi : w.frozen? ⟨g, i, none⟩ = false) (fj : w.frozen? ⟨g, j, none⟩ = false)
    (xi : ∃ v, w.cell? ⟨bi, 3, none⟩ = some v) (xj : ∃ v, w.cell? ⟨bj, 3, none⟩ = some v) (gi : w.frozen? ⟨bi, 3, none⟩ = false) (gj : w.frozen? ⟨bj, 3, none⟩ = false) (h1 : g ≠ bi) (h2 : g ≠ bj) (h3 : bi ≠ bj) :
    Calls Try.prog 135 #[.slice (some ⟨g, 0, none⟩) n c, .int .i64 (i : Int), .int .i64 (j : Int)] w fun e w' => e = .returned (.tuple #[]) ∧
      w' = ((((w.setCell ⟨g, i, none⟩ (.pointer (some ⟨bj, 0, none⟩))).setCell ⟨g, j, none⟩ (.pointer (some ⟨bi, 0, none⟩))).setCell ⟨bj, 3, none⟩ (.int .i64 (i : Int))).setCell ⟨bi, 3, none⟩ (.int .i64 (j : Int))).drew.drew := by
  have hn' : ¬ (j = i) := fun e => hn e.symm
  have i1 : (0 : Int) ≤ (i : Int) := by omega
  have i2 : (i : Int) < (n : Int) := by omega
  have j1 : (0 : Int) ≤ (j : Int) := by omega
  have j2 : (j : Int) < (n : Int) := by omega
  obtain ⟨vi, xi⟩ := xi
  obtain ⟨vj, xj⟩ := xj
  go_enter Try.func135, Try.ntmps135
  go_wp2
  go_region
  all_goals go_wp2
  all_goals go_region
  go_end0
  exact ⟨rfl, rfl⟩

set_option maxRecDepth 100000 in
set_option maxHeartbeats 1000000 in
theorem swap_eq {w : World} {g i n c bi : Nat} (hi : i < n) (hle : n ≤ c) (ci : w.cell? ⟨g, i, none⟩ = some (.pointer (some ⟨bi, 0, none⟩)))
    (fi : w.frozen? ⟨g, i, none⟩ = false) (xi : ∃ v, w.cell? ⟨bi, 3, none⟩ = some v) (gi : w.frozen? ⟨bi, 3, none⟩ = false) (h1 : g ≠ bi) :
    Calls Try.prog 135 #[.slice (some ⟨g, 0, none⟩) n c, .int .i64 (i : Int), .int .i64 (i : Int)] w fun e w' => e = .returned (.tuple #[]) ∧
      w' = ((((w.setCell ⟨g, i, none⟩ (.pointer (some ⟨bi, 0, none⟩))).setCell ⟨g, i, none⟩ (.pointer (some ⟨bi, 0, none⟩))).setCell ⟨bi, 3, none⟩ (.int .i64 (i : Int))).setCell ⟨bi, 3, none⟩ (.int .i64 (i : Int))).drew.drew := by
  have i1 : (0 : Int) ≤ (i : Int) := by omega
  have i2 : (i : Int) < (n : Int) := by omega
  obtain ⟨vi, xi⟩ := xi
  go_enter Try.func135, Try.ntmps135
  go_wp2
  go_region
  all_goals go_wp2
  all_goals go_region
  go_end0
  exact ⟨rfl, rfl⟩

theorem nd_blk {xs : List It} (h : (xs.map (·.blk)).Nodup) {i j : Nat} (hi : i < xs.length) (hj : j < xs.length) (e : (lg xs i).blk = (lg xs j).blk) : i = j := by
  rcases Nat.lt_trichotomy i j with h1 | h1 | h1
  · have := (List.pairwise_iff_getElem.1 h) i j (by simpa using hi) (by simpa using hj) h1
    simp only [List.getElem_map] at this
    rw [lg_get hi, lg_get hj] at e
    exact absurd e this
  · exact h1
  · have := (List.pairwise_iff_getElem.1 h) j i (by simpa using hj) (by simpa using hi) h1
    simp only [List.getElem_map] at this
    rw [lg_get hi, lg_get hj] at e
    exact absurd e.symm this
theorem lg_mem {xs : List It} {i : Nat} (hi : i < xs.length) : lg xs i ∈ xs := by rw [lg_get hi]; exact List.getElem_mem hi
theorem sw_map (xs : List It) (i j : Nat) : (sw xs i j).map ptr = ((xs.map ptr).set i (ptr (lg xs j))).set j (ptr (lg xs i)) := by
  unfold sw; rw [List.map_set, List.map_set]

theorem swap_calls {w : World} {a : Nat} {M : Value} {turn : Int} {A : Option Addr} {c : Nat} {xs : List It} (h : HM w a M turn A c xs) {i j : Nat} (hi : i < xs.length) (hj : j < xs.length) :
    Calls Try.prog 135 #[.slice A xs.length c, .int .i64 (i : Int), .int .i64 (j : Int)] w fun e w' => e = .returned (.tuple #[]) ∧ HM w' a M turn A c (sw xs i j) ∧ Step (foot A xs) w w' := by
  obtain ⟨g, rfl, hci, hbi⟩ := h.pick hi
  obtain ⟨g', e', hcj, hbj⟩ := h.pick hj
  obtain rfl : g = g' := by simpa using e'
  have fi := h.row.free i
  have fj := h.row.free j
  obtain ⟨ni, mi⟩ := h.na _ (lg_mem hi)
  obtain ⟨nj, mj⟩ := h.na _ (lg_mem hj)
  have hga : g ≠ a := fun e => h.nA (by rw [e]; rfl)
  have hgi : g ≠ (lg xs i).blk := fun e => mi (by rw [← e]; rfl)
  have hgj : g ≠ (lg xs j).blk := fun e => mj (by rw [← e]; rfl)
  have foot_r : ∀ k, k = g → foot (some ⟨g, 0, none⟩) xs k := fun k e => .inl (by rw [e]; rfl)
  have foot_i : ∀ k, k = (lg xs i).blk → foot (some ⟨g, 0, none⟩) xs k := fun k e => .inr ⟨_, lg_mem hi, e.symm⟩
  have foot_j : ∀ k, k = (lg xs j).blk → foot (some ⟨g, 0, none⟩) xs k := fun k e => .inr ⟨_, lg_mem hj, e.symm⟩
  by_cases hn : i = j
  · subst hn
    rw [sw_self hi]
    refine (swap_eq hi h.row.le hci fi ⟨_, hbi.cell (i := 3) rfl⟩ (hbi.free 3) hgi).mono ?_
    rintro e w' ⟨rfl, rfl⟩
    have s1 : Step (· = g) w (w.setCell ⟨g, i, none⟩ (.pointer (some ⟨(lg xs i).blk, 0, none⟩))) := step_put _ _ _ _
    have s2 : Step (· = g) _ ((w.setCell ⟨g, i, none⟩ (.pointer (some ⟨(lg xs i).blk, 0, none⟩))).setCell ⟨g, i, none⟩ (.pointer (some ⟨(lg xs i).blk, 0, none⟩))) := step_put _ _ _ _
    have s12 := s1.same s2
    have s3 := step_put ((w.setCell ⟨g, i, none⟩ (.pointer (some ⟨(lg xs i).blk, 0, none⟩))).setCell ⟨g, i, none⟩ (.pointer (some ⟨(lg xs i).blk, 0, none⟩))) (lg xs i).blk 3 (.int .i64 (i : Int))
    have s4 := step_put (((w.setCell ⟨g, i, none⟩ (.pointer (some ⟨(lg xs i).blk, 0, none⟩))).setCell ⟨g, i, none⟩ (.pointer (some ⟨(lg xs i).blk, 0, none⟩))).setCell ⟨(lg xs i).blk, 3, none⟩ (.int .i64 (i : Int))) (lg xs i).blk 3 (.int .i64 (i : Int))
    have s34 := (s3.same s4).drew.drew
    have r2 := (h.row.set i (.pointer (some ⟨(lg xs i).blk, 0, none⟩))).set i (.pointer (some ⟨(lg xs i).blk, 0, none⟩))
    have e1 : ((xs.map ptr).set i (.pointer (some ⟨(lg xs i).blk, 0, none⟩))).set i (.pointer (some ⟨(lg xs i).blk, 0, none⟩)) = xs.map ptr := by
      have := sw_map xs i i
      rw [sw_self hi] at this
      exact this.symm
    rw [e1] at r2
    refine ⟨rfl, ⟨(h.blk.keep s12 (fun e => hga e.symm)).keep s34 (fun e => ni e.symm), r2.keep s34 (fun k hk e => hgi ((Option.some.inj hk).trans e)), fun k x hk => ?_, h.nd, h.na, h.nA⟩, (s12.mono (fun k _ e => foot_r k e)).same (s34.mono (fun k _ e => foot_i k e))⟩
    have hkl := (List.getElem?_eq_some_iff.1 hk).1
    obtain rfl := lg_some hk
    have hx := (h.itm k _ hk).keep s12 (fun e => (h.na _ (lg_mem hkl)).2 (by rw [e]; rfl))
    by_cases e : k = i
    · subst e
      exact ((hx.set 3 (.int .i64 (k : Int))).set 3 (.int .i64 (k : Int))).drew.drew
    · exact hx.keep s34 (fun e' => e (nd_blk h.nd hkl hi e'))
  · have hbij : (lg xs i).blk ≠ (lg xs j).blk := fun e => hn (nd_blk h.nd hi hj e)
    refine (swap_ne hi hj hn h.row.le hci hcj fi fj ⟨_, hbi.cell (i := 3) rfl⟩ ⟨_, hbj.cell (i := 3) rfl⟩ (hbi.free 3) (hbj.free 3) hgi hgj hbij).mono ?_
    rintro e w' ⟨rfl, rfl⟩
    have s1 : Step (· = g) w (w.setCell ⟨g, i, none⟩ (.pointer (some ⟨(lg xs j).blk, 0, none⟩))) := step_put _ _ _ _
    have s2 : Step (· = g) _ ((w.setCell ⟨g, i, none⟩ (.pointer (some ⟨(lg xs j).blk, 0, none⟩))).setCell ⟨g, j, none⟩ (.pointer (some ⟨(lg xs i).blk, 0, none⟩))) := step_put _ _ _ _
    have s12 := s1.same s2
    have r2 := (h.row.set i (.pointer (some ⟨(lg xs j).blk, 0, none⟩))).set j (.pointer (some ⟨(lg xs i).blk, 0, none⟩))
    have e1 : ((xs.map ptr).set i (.pointer (some ⟨(lg xs j).blk, 0, none⟩))).set j (.pointer (some ⟨(lg xs i).blk, 0, none⟩)) = (sw xs i j).map ptr := (sw_map xs i j).symm
    rw [e1] at r2
    have b2 := h.blk.keep s12 (fun e => hga e.symm)
    have i2 : ∀ k x, xs[k]? = some x → Blk ((w.setCell ⟨g, i, none⟩ (.pointer (some ⟨(lg xs j).blk, 0, none⟩))).setCell ⟨g, j, none⟩ (.pointer (some ⟨(lg xs i).blk, 0, none⟩))) x.blk 104 (icells x k) := fun k x hk =>
      (h.itm k x hk).keep s12 (fun e => (h.na _ (List.mem_of_getElem? hk)).2 (by rw [e]; rfl))
    have f12 := s12.mono (fun k _ e => foot_r k e)
    clear s12 s1 s2 hci hcj hbi hbj fi fj
    generalize (w.setCell ⟨g, i, none⟩ (.pointer (some ⟨(lg xs j).blk, 0, none⟩))).setCell ⟨g, j, none⟩ (.pointer (some ⟨(lg xs i).blk, 0, none⟩)) = w2 at *
    have s3 := step_put w2 (lg xs j).blk 3 (.int .i64 (i : Int))
    have s4 := step_put (w2.setCell ⟨(lg xs j).blk, 3, none⟩ (.int .i64 (i : Int))) (lg xs i).blk 3 (.int .i64 (j : Int))
    have s34 : Step (fun k => k = (lg xs j).blk ∨ k = (lg xs i).blk) w2 _ := ((s3.mono (fun _ _ h => .inl h)).same (s4.mono (fun _ _ h => .inr h))).drew.drew
    refine ⟨rfl, ⟨?_, ?_, fun k x hk => ?_, ?_, fun x hx => h.na x ((sw_perm hi hj).mem_iff.1 hx), h.nA⟩, f12.same (s34.mono (fun k _ e => e.elim (foot_j k) (foot_i k)))⟩
    · rw [sw_length]
      exact b2.keep s34 (fun e => e.elim (fun e => nj e.symm) (fun e => ni e.symm))
    · rw [sw_length]
      exact r2.keep s34 (fun k hk e => e.elim (fun e => hgj ((Option.some.inj hk).trans e)) (fun e => hgi ((Option.some.inj hk).trans e)))
    · have hkl : k < xs.length := by have := (List.getElem?_eq_some_iff.1 hk).1; rwa [sw_length] at this
      rw [sw_get hi hj hkl] at hk
      obtain rfl := Option.some.inj hk
      by_cases e1 : k = i
      · subst e1
        rw [swp_l]
        have := ((i2 j _ (get_lg hj)).set 3 (.int .i64 (k : Int))).other (p := ⟨(lg xs k).blk, 3, none⟩) (fun e => hbij e.symm) (.int .i64 (j : Int))
        exact this.drew.drew
      · by_cases e2 : k = j
        · subst e2
          rw [swp_r]
          have := ((i2 i _ (get_lg hi)).other (p := ⟨(lg xs k).blk, 3, none⟩) hbij (.int .i64 (i : Int))).set 3 (.int .i64 (k : Int))
          exact this.drew.drew
        · rw [swp_o _ e1 e2]
          exact (i2 k _ (get_lg hkl)).keep s34 (fun e => e.elim (fun e => e2 (nd_blk h.nd hkl hj e)) (fun e => e1 (nd_blk h.nd hkl hi e)))
    · exact ((sw_perm hi hj).map (·.blk)).nodup_iff.2 h.nd
theorem foot_sw {A : Option Addr} {xs : List It} {i j : Nat} (hi : i < xs.length) (hj : j < xs.length) (k : Nat) : foot A (sw xs i j) k ↔ foot A xs k := by
  unfold foot
  constructor
  · rintro (h | ⟨x, hx, e⟩)
    · exact .inl h
    · exact .inr ⟨x, (sw_perm hi hj).mem_iff.1 hx, e⟩
  · rintro (h | ⟨x, hx, e⟩)
    · exact .inl h
    · exact .inr ⟨x, (sw_perm hi hj).mem_iff.2 hx, e⟩
end Go.Proofs.Ytgohlbljdffelaa.AgStr

/- agenda: Pop and Push of the pile. Own work of this seat. -/
namespace Go.Proofs.Ytgohlbljdffelaa.AgStr
open Go.RowKit Go.Proofs.Ytgohlbljdffelaa.Kit Go.Proofs.Ytgohlbljdffelaa.Cmp Go.Proofs.Ytgohlbljdffelaa.HeapP
set_option linter.unusedVariables false
set_option linter.unusedSimpArgs false

theorem HM.take {w w' : World} {a : Nat} {M : Value} {turn : Int} {A : Option Addr} {c : Nat} {xs : List It} (h : HM w a M turn A c xs) {m : Nat} (hm : m ≤ xs.length) (hs : Step (· = a) w w') (hb : Blk w' a 92 [.slice A m c, M, .int .i64 turn]) : HM w' a M turn A c (xs.take m) := by
  have hl : (xs.take m).length = m := by rw [List.length_take]; omega
  have hr := (h.row.keep hs (fun k hk e => h.nA (by rw [← e]; exact hk))).take hm
  refine ⟨by rw [hl]; exact hb, ?_, fun i x hi => ?_, ?_, fun x hx => h.na x (List.mem_of_mem_take hx), h.nA⟩
  · rw [hl, List.map_take]
    simpa using hr
  · rw [List.getElem?_take] at hi
    split at hi
    · exact (h.itm i x hi).keep hs (h.na x (List.mem_of_getElem? hi)).1
    · cases hi
  · rw [List.map_take]
    exact h.nd.sublist (List.take_sublist _ _)

set_option maxRecDepth 100000 in
set_option maxHeartbeats 1000000 in
theorem pop_calls {w : World} {a : Nat} {M : Value} {turn : Int} {A : Option Addr} {c : Nat} {xs : List It} (h : HM w a M turn A c xs) {m : Nat} (hm : xs.length = m + 1) (hmax : m ≤ 1000000) :
    Calls Try.prog 136 #[.pointer (some ⟨a, 0, none⟩)] w fun e w' => e = .returned (.iface 102 (ptr (lg xs m))) ∧ HM w' a M turn A c (xs.take m) ∧ Step (· = a) w w' := by
  obtain ⟨g, rfl, hci, hbi⟩ := h.pick (i := m) (by omega)
  have c0 := h.blk.cell (i := 0) rfl
  have f0 := h.blk.free 0
  have hle := h.row.le
  rw [hm] at c0 hle
  have H := Lib.hid h
  have HM := Lib.hid hm
  unfold ptr
  clear h hm hbi
  generalize (lg xs m).blk = bi at *
  go_enter Try.func136, Try.ntmps136
  go_wp2
  go_ret
  have hst : Step (· = a) w (w.setCell ⟨a, 0, none⟩ (.slice (some ⟨g, 0, none⟩) m c)) := step_put w a 0 _
  exact ⟨rfl, H.out.take (by have := HM.out; omega) hst (H.out.blk.set 0 _), hst⟩

/-- What is appended to. -/
theorem HM.push {w w' : World} {a : Nat} {M : Value} {turn : Int} {A A' : Option Addr} {c c' : Nat} {xs : List It} {x : It} {F : Nat → Prop} (h : HM w a M turn A c xs) (hs : Step F w w') (hF : ∀ y ∈ xs, ¬ F y.blk) (hb : Blk w' a 92 [.slice A' (xs.length + 1) c', M, .int .i64 turn])
    (hr : FSeg w' 102 1 A' (xs.length + 1) c' (xs.map ptr ++ [ptr x])) (hx : Blk w' x.blk 104 (icells x xs.length)) (hn : ∀ y ∈ xs, y.blk ≠ x.blk) (hxa : x.blk ≠ a) (hA : ∀ k, blockOf A' = some k → k ≠ a ∧ k ≠ x.blk ∧ ∀ y ∈ xs, y.blk ≠ k) : HM w' a M turn A' c' (xs ++ [x]) := by
  have hl : (xs ++ [x]).length = xs.length + 1 := by simp
  refine ⟨by rw [hl]; exact hb, by rw [hl, List.map_append]; exact hr, fun i y hi => ?_, ?_, fun y hy => ?_, fun e => (hA a e).1 rfl⟩
  · rcases Nat.lt_or_ge i xs.length with hi' | hi'
    · rw [List.getElem?_append_left hi'] at hi
      exact (h.itm i y hi).keep hs (hF y (List.mem_of_getElem? hi))
    · have hil := (List.getElem?_eq_some_iff.1 hi).1
      rw [hl] at hil
      obtain rfl : i = xs.length := by omega
      rw [List.getElem?_append_right (Nat.le_refl _), Nat.sub_self] at hi
      obtain rfl := Option.some.inj hi
      exact hx
  · rw [List.map_append]
    refine List.nodup_append.2 ⟨h.nd, by simp, fun b hb1 c hc e => ?_⟩
    obtain ⟨y, hy, rfl⟩ := List.mem_map.1 hb1
    simp only [List.map_cons, List.map_nil, List.mem_singleton] at hc
    exact hn y hy (e.trans hc)
  · rcases List.mem_append.1 hy with hy | hy
    · exact ⟨(h.na y hy).1, fun e => (hA _ e).2.2 y hy rfl⟩
    · obtain rfl : y = x := by simpa using hy
      exact ⟨hxa, fun e => (hA _ e).2.1 rfl⟩

set_option maxRecDepth 100000 in
set_option maxHeartbeats 1000000 in
theorem push_calls {w : World} {a : Nat} {M : Value} {turn : Int} {A : Option Addr} {c : Nat} {xs : List It} (h : HM w a M turn A c xs) (hmax : xs.length ≤ 100000) (x : It) {p0 : Nat} (hx : Blk w x.blk 104 (icells x p0)) (hn : ∀ y ∈ xs, y.blk ≠ x.blk) (hxa : x.blk ≠ a) (hxA : blockOf A ≠ some x.blk) :
    Calls Try.prog 137 #[.pointer (some ⟨a, 0, none⟩), .iface 102 (ptr x)] w fun e w' => e = .returned (.tuple #[]) ∧ ∃ A' c', HM w' a M turn A' c' (xs ++ [x]) ∧ Step (fun k => k = a ∨ blockOf A = some k ∨ k = x.blk) w w' ∧ (blockOf A' = blockOf A ∨ ∃ k, blockOf A' = some k ∧ w.heap.size ≤ k) := by
  obtain ⟨i0, hi0, hp⟩ : ∃ i, Try.prog.info? 102 = some i ∧ (i.zero, i.size, i.bytes) = (some (.pointer none), 1, 8) := by
    exact Option.map_eq_some_iff.1 (by kernel_rfl : (Try.prog.info? 102).map (fun i => (i.zero, i.size, i.bytes)) = some (some (.pointer none), 1, 8))
  simp only [Prod.mk.injEq] at hp
  obtain ⟨hz0, hs0, hy0⟩ := hp
  have c0 := h.blk.cell (i := 0) rfl
  have x3 := hx.cell (i := 3) rfl
  have g3 := hx.free 3
  have hal := h.blk.lt
  have hxl := hx.lt
  have H := Lib.hid h
  have HX := Lib.hid hx
  have HN := Lib.hid hn
  unfold ptr
  have hta : ∀ (b : Nat) (w : World), (Instr.typeAssert (.iface 102 (.pointer (some ⟨b, 0, none⟩))) 20 102 false).run Try.prog w = .ok (.pointer (some ⟨b, 0, none⟩)) w := fun _ _ => by kernel_rfl
  have hset : ∀ v : Nat, (icells x p0).set 3 (.int .i64 (v : Int)) = icells x v := fun v => rfl
  have HSET := Lib.hid hset
  clear h hx hn hset
  go_enter Try.func137, Try.ntmps137
  go_upto_region 2 with (fail)
  refine put_plain HX.out ?_
  intro w1 hX1 hs1
  rw [HSET.out] at hX1
  have hB1 := H.out.blk.keep hs1 (fun e => hxa e.symm)
  have hR1 := H.out.row.keep hs1 (fun k hk e => hxA (by rw [← e]; exact hk))
  have d0 := hB1.cell (i := 0) rfl
  clear c0 x3 g3
  have hsz := hs1.size
  have hst5 : Step (fun _ => False) w1 (w1.alloc (.cells #[.pointer (some ⟨x.blk, 0, none⟩)] 102)) := (Step.refl _ _).alloc _
  have hR5 := hR1.keep hst5 (fun _ _ h => h)
  have hb5 : Blk (w1.alloc (.cells #[.pointer (some ⟨x.blk, 0, none⟩)] 102)) w1.heap.size 102 [ptr x] := blk_new _ [ptr x] _
  go_wp2_with (at_builtin; refine wpList_append_flat _ rfl (.tmp 17) (.tmp 19) 90 rfl 102 i0 _ 1 8 Try.underlying90 hi0 hz0 rfl hs0 hy0 (by omega) rfl hR5 rfl (m := 1) (r := [ptr x]) rfl (fun _ => by omega) (fun v hv => by obtain rfl := List.mem_singleton.1 hv; rfl) (fun j v hj => by rw [addr_add', Nat.zero_add]; exact hb5.cell hj) (by omega) ?_; intro A2 c2 w6 hE2 hs6 hat2; have hB6 := (hB1.keep hst5 (fun h => h)).keep hs6 (fun hk => H.out.nA hk); have e0 := hB6.cell (i := 0) rfl; have e1 := hB6.free 0)
  go_end0
  have hst : Step (· = a) w6 (w6.setCell ⟨a, 0, none⟩ (.slice A2 (xs.length + 1) c2)) := step_put w6 a 0 _
  have h56 := (hst5.mono (G := fun k => blockOf A = some k) (fun _ _ h => h.elim)).same hs6
  have hall : Step (fun k => k = a ∨ blockOf A = some k ∨ k = x.blk) w (w6.setCell ⟨a, 0, none⟩ (.slice A2 (xs.length + 1) c2)) :=
    ((hs1.mono (fun _ _ h => .inr (.inr h))).same (h56.mono (fun _ _ h => .inr (.inl h)))).same (hst.mono (fun _ _ h => .inl h))
  have hne : blockOf A2 = blockOf A ∨ ∃ k, blockOf A2 = some k ∧ w.heap.size ≤ k := by
    rcases hat2 with e | ⟨k, hk, hle⟩
    · exact .inl e
    · refine .inr ⟨k, hk, ?_⟩
      have := hst5.size
      omega
  refine ⟨rfl, A2, c2, H.out.push hall (fun y hy e => ?_) (hB6.set 0 _) (hE2.keep hst (fun k hk e => ?_)) ((hX1.keep h56 hxA).keep hst hxa) HN.out hxa (fun k hk => ?_), hall, hne⟩
  · rcases e with e | e | e
    · exact (H.out.na y hy).1 e
    · exact (H.out.na y hy).2 e
    · exact HN.out y hy e
  · subst e
    rcases hne with e | ⟨j, hj, hle⟩
    · exact H.out.nA (by rw [← e]; exact hk)
    · rw [hk] at hj; obtain rfl := Option.some.inj hj; omega
  · rcases hne with e | ⟨j, hj, hle⟩
    · rw [e] at hk
      exact ⟨fun e => H.out.nA (by rw [← e]; exact hk), fun e => hxA (by rw [← e]; exact hk), fun y hy e => (H.out.na y hy).2 (by rw [e]; exact hk)⟩
    · rw [hk] at hj
      obtain rfl := Option.some.inj hj
      refine ⟨by omega, by omega, fun y hy e => ?_⟩
      obtain ⟨i, hi⟩ := List.getElem?_of_mem hy
      have := (H.out.itm i y hi).lt
      omega
end Go.Proofs.Ytgohlbljdffelaa.AgStr

/- agenda: which function the heap's methods of the pile are. Own work of this seat. -/
namespace Go.Proofs.Ytgohlbljdffelaa.AgStr
open Go.RowKit Go.Proofs.Ytgohlbljdffelaa.Kit Go.Proofs.Ytgohlbljdffelaa.Cmp Go.Proofs.Ytgohlbljdffelaa.HeapP
set_option linter.unusedVariables false
set_option linter.unusedSimpArgs false
theorem nil_less (a : Nat) (w : World) : (nilAhead 298 118 (.pointer (some ⟨a, 0, none⟩)) "Less").run Try.prog w = .ok (some false) w := by kernel_rfl
theorem nil_swap (a : Nat) (w : World) : (nilAhead 298 118 (.pointer (some ⟨a, 0, none⟩)) "Swap").run Try.prog w = .ok (some false) w := by kernel_rfl
theorem nil_len (a : Nat) (w : World) : (nilAhead 298 118 (.pointer (some ⟨a, 0, none⟩)) "Len").run Try.prog w = .ok (some false) w := by kernel_rfl
theorem nil_push (a : Nat) (w : World) : (nilAhead 298 118 (.pointer (some ⟨a, 0, none⟩)) "Push").run Try.prog w = .ok (some false) w := by kernel_rfl
theorem nil_pop (a : Nat) (w : World) : (nilAhead 298 118 (.pointer (some ⟨a, 0, none⟩)) "Pop").run Try.prog w = .ok (some false) w := by kernel_rfl
theorem load_pile {a : Nat} {w : World} {v : Value} (h : w.cell? ⟨a, 0, none⟩ = some v) : (loadVar 90 ⟨a, 0, none⟩).run Try.prog w = .ok v w := by
  have ha : (isAgg 90).run Try.prog w = .ok false w := by kernel_rfl
  unfold loadVar
  rw [Sem.run_bind, ha]
  simp [h]
theorem recv_less (a : Nat) (w : World) : (receiverAt 118 (.val (.pointer (some ⟨a, 0, none⟩))) false (some (("Less".splitOn ".").getLastD "Less"))).run Try.prog w = (loadVar 90 ⟨a, 0, none⟩).run Try.prog w := by kernel_rfl
theorem recv_swap (a : Nat) (w : World) : (receiverAt 118 (.val (.pointer (some ⟨a, 0, none⟩))) false (some (("Swap".splitOn ".").getLastD "Swap"))).run Try.prog w = (loadVar 90 ⟨a, 0, none⟩).run Try.prog w := by kernel_rfl
theorem recv_len (a : Nat) (w : World) : (receiverAt 118 (.val (.pointer (some ⟨a, 0, none⟩))) false (some (("Len".splitOn ".").getLastD "Len"))).run Try.prog w = (loadVar 90 ⟨a, 0, none⟩).run Try.prog w := by kernel_rfl
theorem meth_less0 (a : Nat) (w : World) : (method 298 118 (.pointer (some ⟨a, 0, none⟩)) "Less").run Try.prog w = (do let r ← receiverAt 118 (.val (.pointer (some ⟨a, 0, none⟩))) false (some (("Less".splitOn ".").getLastD "Less")); pure ((134 : FuncId), r) : Sem (FuncId × Value)).run Try.prog w := by kernel_rfl
theorem meth_swap0 (a : Nat) (w : World) : (method 298 118 (.pointer (some ⟨a, 0, none⟩)) "Swap").run Try.prog w = (do let r ← receiverAt 118 (.val (.pointer (some ⟨a, 0, none⟩))) false (some (("Swap".splitOn ".").getLastD "Swap")); pure ((135 : FuncId), r) : Sem (FuncId × Value)).run Try.prog w := by kernel_rfl
theorem meth_len0 (a : Nat) (w : World) : (method 298 118 (.pointer (some ⟨a, 0, none⟩)) "Len").run Try.prog w = (do let r ← receiverAt 118 (.val (.pointer (some ⟨a, 0, none⟩))) false (some (("Len".splitOn ".").getLastD "Len")); pure ((133 : FuncId), r) : Sem (FuncId × Value)).run Try.prog w := by kernel_rfl
theorem meth_less {a : Nat} {w : World} {v : Value} (h : w.cell? ⟨a, 0, none⟩ = some v) : (method 298 118 (.pointer (some ⟨a, 0, none⟩)) "Less").run Try.prog w = .ok (134, v) w := by
  rw [meth_less0, Sem.run_bind, recv_less, load_pile h]; rfl
theorem meth_swap {a : Nat} {w : World} {v : Value} (h : w.cell? ⟨a, 0, none⟩ = some v) : (method 298 118 (.pointer (some ⟨a, 0, none⟩)) "Swap").run Try.prog w = .ok (135, v) w := by
  rw [meth_swap0, Sem.run_bind, recv_swap, load_pile h]; rfl
theorem meth_len {a : Nat} {w : World} {v : Value} (h : w.cell? ⟨a, 0, none⟩ = some v) : (method 298 118 (.pointer (some ⟨a, 0, none⟩)) "Len").run Try.prog w = .ok (133, v) w := by
  rw [meth_len0, Sem.run_bind, recv_len, load_pile h]; rfl
theorem meth_push (a : Nat) (w : World) : (method 298 118 (.pointer (some ⟨a, 0, none⟩)) "Push").run Try.prog w = .ok (137, .pointer (some ⟨a, 0, none⟩)) w := by kernel_rfl
theorem meth_pop (a : Nat) (w : World) : (method 298 118 (.pointer (some ⟨a, 0, none⟩)) "Pop").run Try.prog w = .ok (136, .pointer (some ⟨a, 0, none⟩)) w := by kernel_rfl
end Go.Proofs.Ytgohlbljdffelaa.AgStr

/- agenda: up and down of the library's heap, over the pile. Own work of this seat. -/
namespace Go.Proofs.Ytgohlbljdffelaa.AgStr
open Go.RowKit Go.Proofs.Ytgohlbljdffelaa.Kit Go.Proofs.Ytgohlbljdffelaa.Cmp Go.Proofs.Ytgohlbljdffelaa.HeapP
set_option linter.unusedVariables false
set_option linter.unusedSimpArgs false

theorem HM.cell0 {w : World} {a : Nat} {M : Value} {turn : Int} {A : Option Addr} {c : Nat} {xs : List It} (h : HM w a M turn A c xs) : w.cell? ⟨a, 0, none⟩ = some (.slice A xs.length c) := h.blk.cell (i := 0) rfl

theorem foot_perm {A : Option Addr} {xs ys : List It} (h : ys.Perm xs) (k : Nat) : foot A ys k ↔ foot A xs k := by
  unfold foot
  constructor
  · rintro (e | ⟨x, hx, e⟩)
    · exact .inl e
    · exact .inr ⟨x, h.mem_iff.1 hx, e⟩
  · rintro (e | ⟨x, hx, e⟩)
    · exact .inl e
    · exact .inr ⟨x, h.mem_iff.2 hx, e⟩

set_option maxRecDepth 100000 in
set_option maxHeartbeats 1000000 in
theorem up_calls {w : World} {a : Nat} {M : Value} {turn : Int} {A : Option Addr} {c : Nat} {xs : List It} (h : HM w a M turn A c xs) {j n : Nat} (hj : j < n) (hn : n ≤ xs.length) (hmax : xs.length ≤ 1000000) (hb : Bad1 le (lg xs) j n) (hk : KidsOk le (lg xs) j n) :
    Calls Try.prog 59 #[.iface 118 (.pointer (some ⟨a, 0, none⟩)), .int .i64 (j : Int)] w fun e w' => e = .returned (.tuple #[]) ∧ ∃ xs', HM w' a M turn A c xs' ∧ xs'.Perm xs ∧ HeapG le (lg xs') n ∧ (∀ k, n ≤ k → lg xs' k = lg xs k) ∧ Step (foot A xs) w w' := by
  go_enter Try.func59, Try.ntmps59
  go_wp2
  go_loopw [1] (fun v wr => ∃ (k : Nat) (ys : List It), v = .int .i64 (k : Int) ∧ k < n ∧ HM wr a M turn A c ys ∧ ys.Perm xs ∧ Bad1 le (lg ys) k n ∧ KidsOk le (lg ys) k n ∧ (∀ k, n ≤ k → lg ys k = lg xs k) ∧ Step (foot A xs) w wr) (fun v _ => (intOf v).toNat)
  case atStart => exact ⟨j, xs, rfl, hj, h, List.Perm.refl _, hb, hk, fun _ _ => rfl, Step.refl _ _⟩
  case round =>
    obtain ⟨k, ys, rfl, hkn, hys, hpm, hbk, hkk, hrest, hst⟩ := hrel
    have hl := hpm.length_eq
    rw [← hl] at hmax hn
    have hkl : k < ys.length := by omega
    have HL := Lib.hid hl
    have HR := Lib.hid hrest
    clear hl hrest
    by_cases hk0 : k = 0
    · subst hk0
      have hfin : HeapG le (lg ys) n := stop hbk hkk (fun h => absurd h (by omega))
      have HE := Lib.hid hfin
      clear hbk hkk hb hk hj hfin
      go_wp2
      go_end0
      exact ⟨rfl, ys, hys, hpm, HE.out, HR.out, hst⟩
    · obtain ⟨p, hp⟩ : ∃ p, par k = p := ⟨_, rfl⟩
      have hpk : p < k := by rw [← hp]; exact par_lt (by omega)
      have hp1 : ((k : Int) - 1) / 2 = (p : Int) := by rw [← hp]; unfold par; omega
      have hq1 : ((p : Int) == (k : Int)) = false := by simp; omega
      have hpl : p < ys.length := by omega
      have c0 := hys.cell0
      have hm1 := meth_less c0
      have n1 := fun w => nil_less a w
      have HLE := less_calls hys hkl hpl
      have HP := Lib.hid hp
      clear hp
      cases hlt : lt (lg ys k) (lg ys p) with
      | false =>
        rw [hlt] at HLE
        have hfin : HeapG le (lg ys) n := stop hbk hkk (fun h => by rw [HP.out]; exact hlt)
        have HE := Lib.hid hfin
        clear hbk hkk hb hk hj hfin hlt
        go_wp2_with (go_at_call 134; refine HLE.mono ?_; rintro e w1 ⟨rfl, hs1⟩)
        go_end0
        exact ⟨rfl, ys, hys.same hs1, hpm, HE.out, HR.out, hst.same (hs1.mono (fun _ _ h => h.elim))⟩
      | true =>
        rw [hlt] at HLE
        have hup := up_step le_tr (by omega) hkn hbk hkk (by rw [HP.out]; exact le_of_lt hlt)
        rw [HP.out, ← lg_sw hpl hkl] at hup
        have HE := Lib.hid hup
        have hrr : ∀ q, n ≤ q → lg (sw ys p k) q = lg xs q := fun q hq => by
          rw [lg_sw hpl hkl, swp_o _ (by omega) (by omega)]
          exact HR.out q hq
        have HRR := Lib.hid hrr
        clear hrr
        have HSW := Lib.hid (fun w1 (hs1 : Step (fun _ => False) wr w1) => swap_calls (hys.same hs1) hpl hkl)
        have HC0 := Lib.hid (fun w1 (hs1 : Step (fun _ => False) wr w1) => (hys.same hs1).cell0)
        have n2 := fun w => nil_swap a w
        clear hbk hkk hb hk hj hup hlt
        go_wp2_with (first | (go_at_call 134; refine HLE.mono ?_; rintro e w1 ⟨rfl, hs1⟩; have d0 := HC0.out w1 hs1; have hm2 := meth_swap d0) | (go_at_call 135; refine (HSW.out _ hs1).mono ?_; rintro e w2 ⟨rfl, hys2, hs2⟩))
        have hs3 := hst.same ((hs1.mono (fun _ _ h => h.elim)).same (hs2.mono (fun k _ h => (foot_perm hpm k).1 h)))
        go_roundw
        case rel => exact ⟨p, sw ys p k, rfl, by omega, hys2, (sw_perm hpl hkl).trans hpm, HE.out.1, HE.out.2, HRR.out, hs3⟩
        case measure => simp [intOf]; omega
end Go.Proofs.Ytgohlbljdffelaa.AgStr

/- agenda: down of the library's heap, over the pile. Own work of this seat. -/
namespace Go.Proofs.Ytgohlbljdffelaa.AgStr
open Go.RowKit Go.Proofs.Ytgohlbljdffelaa.Kit Go.Proofs.Ytgohlbljdffelaa.Cmp Go.Proofs.Ytgohlbljdffelaa.HeapP
set_option linter.unusedVariables false
set_option linter.unusedSimpArgs false

theorem kids2 {g : Nat → It} {i n j : Nat} (h1 : j = 2 * i + 1 ∨ j = 2 * i + 2) (ha : 2 * i + 1 < n → le (g j) (g (2 * i + 1))) (hb : 2 * i + 2 < n → le (g j) (g (2 * i + 2))) : KidsOk le (fun k => if k = i then g j else g k) i n := by
  intro k k0 k1 k2
  unfold par at k2
  have hki : k ≠ i := by omega
  simp only [if_neg hki, if_pos]
  rcases (by omega : k = 2 * i + 1 ∨ k = 2 * i + 2) with rfl | rfl
  · exact ha k1
  · exact hb k1
theorem kids_stay {g : Nat → It} {i n j : Nat} (hn : le (g i) (g j)) (h : KidsOk le (fun k => if k = i then g j else g k) i n) : KidsOk le g i n := by
  intro k k0 k1 k2
  have hki : k ≠ i := by have := par_lt k0; omega
  have := h k k0 k1 k2
  simp only [if_neg hki, if_pos] at this
  exact le_tr _ _ _ hn this

set_option maxRecDepth 100000 in
set_option maxHeartbeats 4000000 in
theorem down_calls {w : World} {a : Nat} {M : Value} {turn : Int} {A : Option Addr} {c : Nat} {xs : List It} (h : HM w a M turn A c xs) {i0 n : Nat} (hi0 : i0 ≤ xs.length) (hn : n ≤ xs.length) (hmax : xs.length ≤ 1000000) (hb : Bad1 le (lg xs) i0 n) :
    Calls Try.prog 58 #[.iface 118 (.pointer (some ⟨a, 0, none⟩)), .int .i64 (i0 : Int), .int .i64 (n : Int)] w fun e w' => ∃ (b : Bool) (xs' : List It), e = .returned (.bool b) ∧ HM w' a M turn A c xs' ∧ xs'.Perm xs ∧ (∀ k, n ≤ k → lg xs' k = lg xs k) ∧ (b = true → HeapG le (lg xs') n) ∧ (b = false → xs' = xs ∧ KidsOk le (lg xs) i0 n) ∧ Step (foot A xs) w w' := by
  go_enter Try.func58, Try.ntmps58
  go_wp2
  go_loopw [7, 8, 9, 10] (fun v v8 v9 v10 wr => ∃ (i : Nat) (ys : List It), v = .int .i64 (i : Int) ∧ i0 ≤ i ∧ i ≤ xs.length ∧ HM wr a M turn A c ys ∧ ys.Perm xs ∧ Bad1 le (lg ys) i n ∧ (i0 < i → le (lg ys (par i)) (lg ys i)) ∧ (i = i0 → ys = xs) ∧ (∀ k, n ≤ k → lg ys k = lg xs k) ∧ Step (foot A xs) w wr) (fun v _ _ _ _ => xs.length + 1 - (intOf v).toNat)
  case atStart => exact ⟨i0, xs, rfl, Nat.le_refl _, hi0, h, List.Perm.refl _, hb, fun h => absurd h (by omega), fun _ => rfl, fun _ _ => rfl, Step.refl _ _⟩
  case round =>
    obtain ⟨i, ys, rfl, hii, hil, hys, hpm, hbk, hpar, hsame, hrest, hst⟩ := hrel
    have hl := hpm.length_eq
    rw [← hl] at hil hmax hn hi0
    have HL := Lib.hid hl
    obtain ⟨j1, hj1⟩ : ∃ j : Nat, j = 2 * i + 1 := ⟨_, rfl⟩
    obtain ⟨j2, hj2⟩ : ∃ j : Nat, j = 2 * i + 2 := ⟨_, rfl⟩
    have e1 : 2 * (i : Int) + 1 = (j1 : Int) := by omega
    have e2 : (j1 : Int) + 1 = (j2 : Int) := by omega
    have HR := Lib.hid hrest
    have HS := Lib.hid hsame
    have HB := Lib.hid hbk
    have HPA := Lib.hid hpar
    have H0 := Lib.hid hb
    have hi0i : (i0 : Int) ≤ (i : Int) := by omega
    -- the ways out
    have HOUT : ∀ wf, Step (foot A xs) w wf → HM wf a M turn A c ys → KidsOk le (lg ys) i n → ∃ (b : Bool) (xs' : List It), Ending.returned (.bool (decide (i0 < i))) = .returned (.bool b) ∧ HM wf a M turn A c xs' ∧ xs'.Perm xs ∧ (∀ k, n ≤ k → lg xs' k = lg xs k) ∧ (b = true → HeapG le (lg xs') n) ∧ (b = false → xs' = xs ∧ KidsOk le (lg xs) i0 n) ∧ Step (foot A xs) w wf := by
      intro wf hsf hyf hkf
      refine ⟨_, ys, rfl, hyf, hpm, hrest, fun hb => ?_, fun hb => ?_, hsf⟩
      · have hlt : i0 < i := of_decide_eq_true hb
        exact stop hbk hkf (fun _ => hpar hlt)
      · have hlt : ¬ i0 < i := of_decide_eq_false hb
        have hei : i = i0 := by omega
        have hey := hsame hei
        rw [hei, hey] at hkf
        exact ⟨hey, hkf⟩
    have HO := Lib.hid HOUT
    clear hl hrest hsame hbk hpar hb HOUT
    by_cases hA : n ≤ j1
    · have q1 : (n : Int) ≤ (j1 : Int) := by omega
      have hkv : KidsOk le (lg ys) i n := fun k k0 k1 k2 => by unfold par at k2; omega
      have HK := Lib.hid hkv
      clear hkv hj1 hj2
      go_wp2
      go_ret
      exact HO.out _ hst hys HK.out
    · have q1 : ¬ (n : Int) ≤ (j1 : Int) := by omega
      have q2 : ((j1 : Int) < 0) = False := eq_false (by omega)
      have c0 := hys.cell0
      have hm1 := meth_less c0
      have n1 := fun w => nil_less a w
      have n2 := fun w => nil_swap a w
      have HLE0 := fun w1 (hs1 : Step (fun _ => False) wr w1) (p q : Nat) (hp : p < ys.length) (hq : q < ys.length) => less_calls (hys.same hs1) hp hq
      have HLE := Lib.hid HLE0
      have HC0 := Lib.hid (fun w1 (hs1 : Step (fun _ => False) wr w1) => (hys.same hs1).cell0)
      have HSW0 := fun w1 (hs1 : Step (fun _ => False) wr w1) (p q : Nat) (hp : p < ys.length) (hq : q < ys.length) => swap_calls (hys.same hs1) hp hq
      have HSW := Lib.hid HSW0
      have HDN0 : ∀ j, (j = j1 ∨ j = j2) → j < n → lt (lg ys j) (lg ys i) = true → KidsOk le (fun k => if k = i then lg ys j else lg ys k) i n → Bad1 le (lg (sw ys i j)) j n ∧ (i0 < j → le (lg (sw ys i j) (par j)) (lg (sw ys i j) j)) := by
        intro j hj hjn hlt hkk
        have := dn_step (by omega) hjn (by unfold par; omega) HB.out (le_of_lt hlt) hkk
        rw [← lg_sw (by omega) (by omega)] at this
        exact ⟨this.1, fun h => this.2 (by omega)⟩
      have HDN := Lib.hid HDN0
      have HRR0 : ∀ j, j < n → ∀ k, n ≤ k → lg (sw ys i j) k = lg xs k := fun j hj k hk => by
        rw [lg_sw (by omega) (by omega), swp_o _ (by omega) (by omega)]
        exact HR.out k hk
      have HRR := Lib.hid HRR0
      have sr := Step.refl (fun _ => False) wr
      clear HLE0 HSW0 HDN0 HRR0
      by_cases hB : j2 < n
      · have q3 : ((j2 : Int) < (n : Int)) = True := eq_true (by omega)
        cases hlt2 : lt (lg ys j2) (lg ys j1) with
        | true =>
          have hkk : KidsOk le (fun k => if k = i then lg ys j2 else lg ys k) i n := kids2 (.inr hj2) (fun _ => by rw [← hj1]; exact le_of_lt hlt2) (fun _ => by rw [← hj2]; exact le_rf _)
          have HKK := Lib.hid hkk
          clear hkk
          cases hlt : lt (lg ys j2) (lg ys i) with
          | true =>
            have HD := Lib.hid (HDN.out j2 (by omega) (by omega) hlt HKK.out)
            have HJ1 := Lib.hid hj1
            have HJ2 := Lib.hid hj2
            have j1b : 2 * i + 1 ≤ j1 ∧ j1 ≤ 2 * i + 1 := by omega
            have j2b : 2 * i + 2 ≤ j2 ∧ j2 ≤ 2 * i + 2 := by omega
            clear hj1 hj2
            go_wp2_with (first | (go_at_call 134; refine (HLE.out _ (by assumption) _ _ (by omega) (by omega)).mono ?_; rintro e w1 ⟨rfl, hs1⟩; have hs1' : Step (fun _ => False) wr w1 := Step.same (by assumption) hs1; clear hs1; have d0 := HC0.out w1 hs1'; have hm1 := meth_less d0; have hm2 := meth_swap d0) | (go_at_call 135; refine (HSW.out _ (by assumption) _ _ (by omega) (by omega)).mono ?_; rintro e w2 ⟨rfl, hys2, hs2⟩))
            have hs3 := hst.same ((‹Step (fun _ => False) wr w1›.mono (fun _ _ h => h.elim)).same (hs2.mono (fun k _ h => (foot_perm hpm k).1 h)))
            go_roundw
            case rel => exact ⟨j2, sw ys i j2, rfl, by omega, by rw [← HL.out]; omega, hys2, (sw_perm (by omega) (by omega)).trans hpm, HD.out.1, HD.out.2, fun e => absurd e (by omega), HRR.out j2 (by omega), hs3⟩
            case measure => have := HL.out; simp [intOf]; omega
          | false =>
            have HK := Lib.hid (kids_stay hlt HKK.out)
            have HJ1 := Lib.hid hj1
            have HJ2 := Lib.hid hj2
            have j1b : 2 * i + 1 ≤ j1 ∧ j1 ≤ 2 * i + 1 := by omega
            have j2b : 2 * i + 2 ≤ j2 ∧ j2 ≤ 2 * i + 2 := by omega
            clear hj1 hj2
            go_wp2_with (first | (go_at_call 134; refine (HLE.out _ (by assumption) _ _ (by omega) (by omega)).mono ?_; rintro e w1 ⟨rfl, hs1⟩; have hs1' : Step (fun _ => False) wr w1 := Step.same (by assumption) hs1; clear hs1; have d0 := HC0.out w1 hs1'; have hm1 := meth_less d0; have hm2 := meth_swap d0) | (go_at_call 135; refine (HSW.out _ (by assumption) _ _ (by omega) (by omega)).mono ?_; rintro e w2 ⟨rfl, hys2, hs2⟩))
            go_ret
            exact HO.out _ (hst.same (‹Step (fun _ => False) wr w1›.mono (fun _ _ h => h.elim))) (hys.same ‹_›) HK.out
        | false =>
          have hkk : KidsOk le (fun k => if k = i then lg ys j1 else lg ys k) i n := kids2 (.inl hj1) (fun _ => by rw [← hj1]; exact le_rf _) (fun _ => by rw [← hj2]; exact hlt2)
          have HKK := Lib.hid hkk
          clear hkk
          cases hlt : lt (lg ys j1) (lg ys i) with
          | true =>
            have HD := Lib.hid (HDN.out j1 (by omega) (by omega) hlt HKK.out)
            have HJ1 := Lib.hid hj1
            have HJ2 := Lib.hid hj2
            have j1b : 2 * i + 1 ≤ j1 ∧ j1 ≤ 2 * i + 1 := by omega
            have j2b : 2 * i + 2 ≤ j2 ∧ j2 ≤ 2 * i + 2 := by omega
            clear hj1 hj2
            go_wp2_with (first | (go_at_call 134; refine (HLE.out _ (by assumption) _ _ (by omega) (by omega)).mono ?_; rintro e w1 ⟨rfl, hs1⟩; have hs1' : Step (fun _ => False) wr w1 := Step.same (by assumption) hs1; clear hs1; have d0 := HC0.out w1 hs1'; have hm1 := meth_less d0; have hm2 := meth_swap d0) | (go_at_call 135; refine (HSW.out _ (by assumption) _ _ (by omega) (by omega)).mono ?_; rintro e w2 ⟨rfl, hys2, hs2⟩))
            have hs3 := hst.same ((‹Step (fun _ => False) wr w1›.mono (fun _ _ h => h.elim)).same (hs2.mono (fun k _ h => (foot_perm hpm k).1 h)))
            go_roundw
            case rel => exact ⟨j1, sw ys i j1, rfl, by omega, by rw [← HL.out]; omega, hys2, (sw_perm (by omega) (by omega)).trans hpm, HD.out.1, HD.out.2, fun e => absurd e (by omega), HRR.out j1 (by omega), hs3⟩
            case measure => have := HL.out; simp [intOf]; omega
          | false =>
            have HK := Lib.hid (kids_stay hlt HKK.out)
            have HJ1 := Lib.hid hj1
            have HJ2 := Lib.hid hj2
            have j1b : 2 * i + 1 ≤ j1 ∧ j1 ≤ 2 * i + 1 := by omega
            have j2b : 2 * i + 2 ≤ j2 ∧ j2 ≤ 2 * i + 2 := by omega
            clear hj1 hj2
            go_wp2_with (first | (go_at_call 134; refine (HLE.out _ (by assumption) _ _ (by omega) (by omega)).mono ?_; rintro e w1 ⟨rfl, hs1⟩; have hs1' : Step (fun _ => False) wr w1 := Step.same (by assumption) hs1; clear hs1; have d0 := HC0.out w1 hs1'; have hm1 := meth_less d0; have hm2 := meth_swap d0) | (go_at_call 135; refine (HSW.out _ (by assumption) _ _ (by omega) (by omega)).mono ?_; rintro e w2 ⟨rfl, hys2, hs2⟩))
            go_ret
            exact HO.out _ (hst.same (‹Step (fun _ => False) wr w1›.mono (fun _ _ h => h.elim))) (hys.same ‹_›) HK.out
      · have q3 : ((j2 : Int) < (n : Int)) = False := eq_false (by omega)
        have hkk : KidsOk le (fun k => if k = i then lg ys j1 else lg ys k) i n := kids2 (.inl hj1) (fun _ => by rw [← hj1]; exact le_rf _) (fun h => absurd h (by omega))
        have HKK := Lib.hid hkk
        clear hkk
        cases hlt : lt (lg ys j1) (lg ys i) with
        | true =>
          have HD := Lib.hid (HDN.out j1 (by omega) (by omega) hlt HKK.out)
          have HJ1 := Lib.hid hj1
          have HJ2 := Lib.hid hj2
          have j1b : 2 * i + 1 ≤ j1 ∧ j1 ≤ 2 * i + 1 := by omega
          have j2b : 2 * i + 2 ≤ j2 ∧ j2 ≤ 2 * i + 2 := by omega
          clear hj1 hj2
          go_wp2_with (first | (go_at_call 134; refine (HLE.out _ (by assumption) _ _ (by omega) (by omega)).mono ?_; rintro e w1 ⟨rfl, hs1⟩; have hs1' : Step (fun _ => False) wr w1 := Step.same (by assumption) hs1; clear hs1; have d0 := HC0.out w1 hs1'; have hm1 := meth_less d0; have hm2 := meth_swap d0) | (go_at_call 135; refine (HSW.out _ (by assumption) _ _ (by omega) (by omega)).mono ?_; rintro e w2 ⟨rfl, hys2, hs2⟩))
          have hs3 := hst.same ((‹Step (fun _ => False) wr w1›.mono (fun _ _ h => h.elim)).same (hs2.mono (fun k _ h => (foot_perm hpm k).1 h)))
          go_roundw
          case rel => exact ⟨j1, sw ys i j1, rfl, by omega, by rw [← HL.out]; omega, hys2, (sw_perm (by omega) (by omega)).trans hpm, HD.out.1, HD.out.2, fun e => absurd e (by omega), HRR.out j1 (by omega), hs3⟩
          case measure => have := HL.out; simp [intOf]; omega
        | false =>
          have HK := Lib.hid (kids_stay hlt HKK.out)
          have HJ1 := Lib.hid hj1
          have HJ2 := Lib.hid hj2
          have j1b : 2 * i + 1 ≤ j1 ∧ j1 ≤ 2 * i + 1 := by omega
          have j2b : 2 * i + 2 ≤ j2 ∧ j2 ≤ 2 * i + 2 := by omega
          clear hj1 hj2
          go_wp2_with (first | (go_at_call 134; refine (HLE.out _ (by assumption) _ _ (by omega) (by omega)).mono ?_; rintro e w1 ⟨rfl, hs1⟩; have hs1' : Step (fun _ => False) wr w1 := Step.same (by assumption) hs1; clear hs1; have d0 := HC0.out w1 hs1'; have hm1 := meth_less d0; have hm2 := meth_swap d0) | (go_at_call 135; refine (HSW.out _ (by assumption) _ _ (by omega) (by omega)).mono ?_; rintro e w2 ⟨rfl, hys2, hs2⟩))
          go_ret
          exact HO.out _ (hst.same (‹Step (fun _ => False) wr w1›.mono (fun _ _ h => h.elim))) (hys.same ‹_›) HK.out
end Go.Proofs.Ytgohlbljdffelaa.AgStr

/- agenda: Fix, Push, Pop, Remove of the library's heap, over the pile. Own work of this seat. -/
namespace Go.Proofs.Ytgohlbljdffelaa.AgStr
open Go.RowKit Go.Proofs.Ytgohlbljdffelaa.Kit Go.Proofs.Ytgohlbljdffelaa.Cmp Go.Proofs.Ytgohlbljdffelaa.HeapP
set_option linter.unusedVariables false
set_option linter.unusedSimpArgs false

set_option maxRecDepth 100000 in
set_option maxHeartbeats 1000000 in
theorem fix_calls {w : World} {a : Nat} {M : Value} {turn : Int} {A : Option Addr} {c : Nat} {xs : List It} (h : HM w a M turn A c xs) {i : Nat} (hi : i < xs.length) (hmax : xs.length ≤ 1000000) (hb : Bad1 le (lg xs) i xs.length) :
    Calls Try.prog 32 #[.iface 118 (.pointer (some ⟨a, 0, none⟩)), .int .i64 (i : Int)] w fun e w' => e = .returned (.tuple #[]) ∧ ∃ xs', HM w' a M turn A c xs' ∧ xs'.Perm xs ∧ HeapG le (lg xs') xs.length ∧ Step (foot A xs) w w' := by
  have c0 := h.cell0
  have hm1 := meth_len c0
  have n1 := fun w => nil_len a w
  have HD := down_calls h (i0 := i) (n := xs.length) (by omega) (Nat.le_refl _) hmax hb
  have HU0 := fun w1 (ys : List It) (hy : HM w1 a M turn A c ys) (hp : ys = xs) (hk : KidsOk le (lg xs) i xs.length) => up_calls (hp ▸ hy) hi (Nat.le_refl _) hmax hb hk
  have HU := Lib.hid HU0
  clear h hb HU0
  go_enter Try.func32, Try.ntmps32
  go_wp2_with (first | (go_at_call 133; refine (len_calls _ _ _ _).mono ?_; rintro e w' ⟨rfl, rfl⟩) | (go_at_call 58; refine HD.mono ?_; rintro e w1 ⟨b, ys, rfl, hys, hpm, hrest, hT, hF, hs1⟩; have HT := Lib.hid hT; have HF := Lib.hid hF; have HR := Lib.hid hrest; clear hT hF hrest) | (go_at_call 59; refine (HU.out _ _ hys (HF.out (by first | assumption | simp_all)).1 (HF.out (by first | assumption | simp_all)).2).mono ?_; rintro e w2 ⟨rfl, zs, hzs, hpm2, hh2, hr2, hs2⟩))
  · go_end0
    exact ⟨rfl, zs, hzs, hpm2, hh2, hs1.same hs2⟩
  · have hb : b = true := by simp_all
    go_end0
    exact ⟨rfl, ys, hys, hpm, HT.out hb, hs1⟩

set_option maxRecDepth 100000 in
set_option maxHeartbeats 1000000 in
theorem hpush_calls {w : World} {a : Nat} {M : Value} {turn : Int} {A : Option Addr} {c : Nat} {xs : List It} (h : HM w a M turn A c xs) (hmax : xs.length ≤ 100000) (hh : HeapG le (lg xs) xs.length) (x : It) {p0 : Nat} (hx : Blk w x.blk 104 (icells x p0)) (hn : ∀ y ∈ xs, y.blk ≠ x.blk) (hxa : x.blk ≠ a) (hxA : blockOf A ≠ some x.blk) :
    Calls Try.prog 33 #[.iface 118 (.pointer (some ⟨a, 0, none⟩)), .iface 102 (ptr x)] w fun e w' => e = .returned (.tuple #[]) ∧ ∃ A' c' xs', HM w' a M turn A' c' xs' ∧ xs'.Perm (xs ++ [x]) ∧ HeapG le (lg xs') xs'.length ∧ Step (fun k => k = a ∨ foot A xs k ∨ k = x.blk) w w' ∧ (blockOf A' = blockOf A ∨ ∃ k, blockOf A' = some k ∧ w.heap.size ≤ k) := by
  have hm1 := meth_push a w
  have n1 := fun w => nil_push a w
  have n2 := fun w => nil_len a w
  have HP := push_calls h hmax x hx hn hxa hxA
  have hlx : (xs ++ [x]).length = xs.length + 1 := by simp
  have hlg : ∀ k, k < xs.length → lg (xs ++ [x]) k = lg xs k := fun k hk => by
    rw [lg_get hk, lg_get (by omega), List.getElem_append_left hk]
  have hbk := push_bad (g' := lg (xs ++ [x])) hh hlg
  rw [← hlx] at hbk
  have HBK := Lib.hid hbk
  have HLX := Lib.hid hlx
  have ecast : ((xs.length + 1 : Nat) : Int) - 1 = ((xs.length : Nat) : Int) := by omega
  have HFT := Lib.hid (fun (A' : Option Addr) (k : Nat) (hk : k < w.heap.size) (hA : blockOf A' = blockOf A ∨ ∃ k, blockOf A' = some k ∧ w.heap.size ≤ k) (hf : foot A' (xs ++ [x]) k) => (show k = a ∨ foot A xs k ∨ k = x.blk by
    rcases hf with e | ⟨y, hy, e⟩
    · rcases hA with e2 | ⟨j, e2, hj⟩
      · exact .inr (.inl (.inl (by rw [← e2]; exact e)))
      · rw [e] at e2
        obtain rfl := Option.some.inj e2
        omega
    · rcases List.mem_append.1 hy with hy | hy
      · exact .inr (.inl (.inr ⟨y, hy, e⟩))
      · obtain rfl : y = x := by simpa using hy
        exact .inr (.inr e.symm)))
  have HF1 := Lib.hid (fun (k : Nat) (hk : k = a ∨ blockOf A = some k ∨ k = x.blk) => (show k = a ∨ foot A xs k ∨ k = x.blk from hk.imp id (fun h => h.imp .inl id)))
  clear h hx hn hh hlg hbk hlx
  unfold ptr at HP ⊢
  go_enter Try.func33, Try.ntmps33
  go_wp2_with (first | (go_at_call 137; refine HP.mono ?_; rintro e w1 ⟨rfl, A1, c1, h1, hs1, hA1⟩; have d0 : w1.cell? ⟨a, 0, none⟩ = some (.slice A1 (xs.length + 1) c1) := (by have := h1.cell0; rwa [HLX.out] at this); have hm2 := meth_len d0) | (go_at_call 133; refine (len_calls _ _ _ _).mono ?_; rintro e w' ⟨rfl, rfl⟩) | (go_at_call 59; refine (up_calls h1 (j := xs.length) (by rw [HLX.out]; omega) (Nat.le_refl _) (by rw [HLX.out]; omega) HBK.out.1 HBK.out.2).mono ?_; rintro e w2 ⟨rfl, zs, hzs, hpm2, hh2, hr2, hs2⟩))
  go_end0
  refine ⟨rfl, A1, c1, zs, hzs, hpm2, by rw [hpm2.length_eq]; exact hh2, (hs1.mono (fun k _ h => HF1.out k h)).trans hs2 (fun k hk hf => HFT.out A1 k hk hA1 hf), hA1⟩
end Go.Proofs.Ytgohlbljdffelaa.AgStr

/- agenda: Pop and Remove of the library's heap, over the pile. Own work of this seat. -/
namespace Go.Proofs.Ytgohlbljdffelaa.AgStr
open Go.RowKit Go.Proofs.Ytgohlbljdffelaa.Kit Go.Proofs.Ytgohlbljdffelaa.Cmp Go.Proofs.Ytgohlbljdffelaa.HeapP
set_option linter.unusedVariables false
set_option linter.unusedSimpArgs false

theorem lg_take {ys : List It} {m k : Nat} (hk : k < m) (hm : m ≤ ys.length) : lg (ys.take m) k = lg ys k := by
  rw [lg_get (by rw [List.length_take]; omega), lg_get (by omega), List.getElem_take]
theorem take_last {ys : List It} {m : Nat} (h : ys.length = m + 1) : ys = ys.take m ++ [lg ys m] := by
  rw [lg_get (by omega), List.take_append_getElem (by omega), List.take_of_length_le (by omega)]
/-- What Pop and Remove end in: the last one goes. -/
theorem last_off {w : World} {a : Nat} {M : Value} {turn : Int} {A : Option Addr} {c : Nat} {xs zs : List It} {m i : Nat} (hl : xs.length = m + 1) (hp : zs.Perm xs) (hz : lg zs m = lg xs i) (hh : HeapG le (lg zs) m) : (lg xs i :: zs.take m).Perm xs ∧ HeapG le (lg (zs.take m)) m := by
  have hzl : zs.length = m + 1 := by rw [hp.length_eq]; exact hl
  refine ⟨?_, heap_ext hh (fun k hk => lg_take hk (by omega))⟩
  rw [← hz]
  have h1 : (lg zs m :: zs.take m).Perm (zs.take m ++ [lg zs m]) := (List.perm_append_singleton _ _).symm
  rw [← take_last hzl] at h1
  exact h1.trans hp

set_option maxRecDepth 100000 in
set_option maxHeartbeats 1000000 in
theorem hpop_calls {w : World} {a : Nat} {M : Value} {turn : Int} {A : Option Addr} {c : Nat} {xs : List It} (h : HM w a M turn A c xs) {m : Nat} (hl : xs.length = m + 1) (hmax : m ≤ 100000) (hh : HeapG le (lg xs) xs.length) :
    Calls Try.prog 35 #[.iface 118 (.pointer (some ⟨a, 0, none⟩))] w fun e w' => e = .returned (.iface 102 (ptr (lg xs 0))) ∧ ∃ ys, HM w' a M turn A c ys ∧ (lg xs 0 :: ys).Perm xs ∧ HeapG le (lg ys) ys.length ∧ (∃ p, Blk w' (lg xs 0).blk 104 (icells (lg xs 0) p)) ∧ Step (fun k => k = a ∨ foot A xs k) w w' := by
  have c0 := h.cell0
  rw [hl] at c0
  have hm1 := meth_len c0
  have hm2 := meth_swap c0
  have n1 := fun w => nil_len a w
  have n2 := fun w => nil_swap a w
  have n3 := fun w => nil_pop a w
  have hm3 := fun w => meth_pop a w
  have ecast : ((m + 1 : Nat) : Int) - 1 = ((m : Nat) : Int) := by omega
  have hlg := lg_sw (i := 0) (j := m) (xs := xs) (by omega) (by omega)
  have hbad : Bad1 le (lg (sw xs 0 m)) 0 m := by
    rw [hlg]
    rw [hl] at hh
    rcases Nat.eq_zero_or_pos m with e | e
    · subst e
      exact ⟨fun k k0 k1 => absurd k1 (by omega), fun k k0 k1 => absurd k1 (by omega)⟩
    · exact remove_bad le_tr e hh
  have hlast : lg (sw xs 0 m) m = lg xs 0 := by rw [hlg, swp_r]
  have HSW := swap_calls h (i := 0) (j := m) (by omega) (by omega)
  have hsl := sw_length xs 0 m
  have hsp := sw_perm (xs := xs) (i := 0) (j := m) (by omega) (by omega)
  rw [hl] at HSW hsl
  have HSL := Lib.hid hsl
  have HB := Lib.hid hbad
  have HD0 := Lib.hid (fun w1 (h1 : HM w1 a M turn A c (sw xs 0 m)) => down_calls h1 (i0 := 0) (n := m) (by omega) (by omega) (by omega) HB.out)
  have HL := Lib.hid hl
  have HLA := Lib.hid hlast
  have HP0 := Lib.hid (fun w1 (ys : List It) (h1 : HM w1 a M turn A c ys) (hp : ys.Perm (sw xs 0 m)) => pop_calls h1 (m := m) (by rw [hp.length_eq, HSL.out]) (by omega))
  clear h hh hlg hbad hlast hl hsl
  go_enter Try.func35, Try.ntmps35
  go_wp2_with (first | (go_at_call 133; refine (len_calls _ _ _ _).mono ?_; rintro e w' ⟨rfl, rfl⟩) | (go_at_call 135; refine HSW.mono ?_; rintro e w1 ⟨rfl, h1, hs1⟩) | (go_at_call 58; refine (HD0.out _ h1).mono ?_; rintro e w2 ⟨b, ys, rfl, hys, hpm, hrest, hT, hF, hs2⟩; have HT := Lib.hid hT; have HF := Lib.hid hF; have HR := Lib.hid hrest; clear hT hF hrest) | (go_at_call 136; refine (HP0.out _ _ hys hpm).mono ?_; rintro e w3 ⟨rfl, h3, hs3⟩))
  have hpx := hpm.trans hsp
  have hlz : lg ys m = lg xs 0 := by rw [HR.out m (Nat.le_refl _), HLA.out]
  have hyl : ys.length = m + 1 := by rw [hpx.length_eq]; exact HL.out
  have hhz : HeapG le (lg ys) m := by
    cases b with
    | true => exact HT.out rfl
    | false =>
      obtain ⟨e1, e2⟩ := HF.out rfl
      rw [e1]
      exact stop HB.out e2 (fun h => absurd h (by omega))
  obtain ⟨q1, q2⟩ := last_off (w := w) (a := a) (M := M) (turn := turn) (A := A) (c := c) HL.out hpx hlz hhz
  rw [hlz]
  go_ret
  refine ⟨rfl, ys.take m, h3, q1, by rw [List.length_take, hyl, Nat.min_eq_left (by omega)]; exact q2, ⟨m, ?_⟩, (((hs1.mono (fun _ _ h => .inr h)).same (hs2.mono (fun k _ h => .inr ((foot_perm hsp k).1 h))))).same (hs3.mono (fun _ _ h => .inl h))⟩
  have hz := hys.itm m (lg ys m) (get_lg (by omega))
  rw [hlz] at hz
  exact hz.keep hs3 (fun e => (hys.na _ (List.mem_of_getElem? (get_lg (xs := ys) (k := m) (by omega)))).1 (by rw [hlz]; exact e))

set_option maxRecDepth 100000 in
set_option maxHeartbeats 1000000 in
theorem hremove_calls {w : World} {a : Nat} {M : Value} {turn : Int} {A : Option Addr} {c : Nat} {xs : List It} (h : HM w a M turn A c xs) {m i : Nat} (hl : xs.length = m + 1) (hi : i ≤ m) (hmax : m ≤ 100000) (hh : HeapG le (lg xs) xs.length) :
    Calls Try.prog 60 #[.iface 118 (.pointer (some ⟨a, 0, none⟩)), .int .i64 (i : Int)] w fun e w' => e = .returned (.iface 102 (ptr (lg xs i))) ∧ ∃ ys, HM w' a M turn A c ys ∧ (lg xs i :: ys).Perm xs ∧ HeapG le (lg ys) ys.length ∧ Step (fun k => k = a ∨ foot A xs k) w w' := by
  have c0 := h.cell0
  rw [hl] at c0
  have hm1 := meth_len c0
  have hm2 := meth_swap c0
  have n1 := fun w => nil_len a w
  have n2 := fun w => nil_swap a w
  have n3 := fun w => nil_pop a w
  have hm3 := fun w => meth_pop a w
  have ecast : ((m + 1 : Nat) : Int) - 1 = ((m : Nat) : Int) := by omega
  have HL := Lib.hid hl
  by_cases him : i = m
  · subst him
    have q0 : ((i : Int) != (i : Int)) = false := by simp
    have HP0 := pop_calls h (m := i) hl (by omega)
    obtain ⟨q1, q2⟩ := last_off (w := w) (a := a) (M := M) (turn := turn) (A := A) (c := c) hl (List.Perm.refl xs) rfl (by rw [hl] at hh; exact shrink hh (by omega))
    have HQ := Lib.hid q2
    clear h hh hl q2
    go_enter Try.func60, Try.ntmps60
    go_wp2_with (first | (go_at_call 133; refine (len_calls _ _ _ _).mono ?_; rintro e w' ⟨rfl, rfl⟩) | (go_at_call 136; refine HP0.mono ?_; rintro e w3 ⟨rfl, h3, hs3⟩))
    go_ret
    exact ⟨rfl, xs.take i, h3, q1, by rw [List.length_take, HL.out, Nat.min_eq_left (by omega)]; exact HQ.out, hs3.mono (fun _ _ h => .inl h)⟩
  · have q0 : ((m : Int) != (i : Int)) = true := by simp; omega
    have q0' : ((m : Int) == (i : Int)) = false := by simp; omega
    have hlg := lg_sw (i := i) (j := m) (xs := xs) (by omega) (by omega)
    have hbad : Bad1 le (lg (sw xs i m)) i m := by
      rw [hlg]
      rw [hl] at hh
      exact remove_bad le_tr (by omega) hh
    have hlast : lg (sw xs i m) m = lg xs i := by rw [hlg, swp_r]
    have HSW := swap_calls h (i := i) (j := m) (by omega) (by omega)
    have hsl := sw_length xs i m
    have hsp := sw_perm (xs := xs) (i := i) (j := m) (by omega) (by omega)
    rw [hl] at HSW hsl
    have HSL := Lib.hid hsl
    have HB := Lib.hid hbad
    have HD0 := Lib.hid (fun w1 (h1 : HM w1 a M turn A c (sw xs i m)) => down_calls h1 (i0 := i) (n := m) (by omega) (by omega) (by omega) HB.out)
    have HLA := Lib.hid hlast
    have HP0 := Lib.hid (fun w1 (ys : List It) (h1 : HM w1 a M turn A c ys) (hp : ys.Perm (sw xs i m)) => pop_calls h1 (m := m) (by rw [hp.length_eq, HSL.out]) (by omega))
    have HU := Lib.hid (fun w1 (ys : List It) (hy : HM w1 a M turn A c ys) (hp : ys = sw xs i m) (hk : KidsOk le (lg (sw xs i m)) i m) => up_calls (hp ▸ hy) (j := i) (n := m) (by omega) (by omega) (by omega) HB.out hk)
    have hil : i < m := by omega
    clear h hh hlg hbad hlast hl hsl
    go_enter Try.func60, Try.ntmps60
    go_wp2_with (first | (go_at_call 133; refine (len_calls _ _ _ _).mono ?_; rintro e w' ⟨rfl, rfl⟩) | (go_at_call 135; refine HSW.mono ?_; rintro e w1 ⟨rfl, h1, hs1⟩) | (go_at_call 58; refine (HD0.out _ h1).mono ?_; rintro e w2 ⟨b, ys, rfl, hys, hpm, hrest, hT, hF, hs2⟩; have HT := Lib.hid hT; have HF := Lib.hid hF; have HR := Lib.hid hrest; clear hT hF hrest) | (go_at_call 59; refine (HU.out _ _ hys (HF.out (by first | assumption | simp_all)).1 (HF.out (by first | assumption | simp_all)).2).mono ?_; rintro e w4 ⟨rfl, zs, hzs, hpm2, hh2, hr2, hs4⟩; have HR2 := Lib.hid hr2; clear hr2) | (go_at_call 136; first | (refine (HP0.out _ _ hzs hpm2).mono ?_; rintro e w3 ⟨rfl, h3, hs3⟩) | (refine (HP0.out _ _ hys hpm).mono ?_; rintro e w3 ⟨rfl, h3, hs3⟩)))
    · have hpx := hpm2.trans hsp
      have hlz : lg zs m = lg xs i := by rw [HR2.out m (Nat.le_refl _), HLA.out]
      have hyl : zs.length = m + 1 := by rw [hpx.length_eq]; exact HL.out
      obtain ⟨q1, q2⟩ := last_off (w := w) (a := a) (M := M) (turn := turn) (A := A) (c := c) HL.out hpx hlz hh2
      rw [hlz]
      go_ret
      exact ⟨rfl, zs.take m, h3, q1, by rw [List.length_take, hyl, Nat.min_eq_left (by omega)]; exact q2, ((((hs1.mono (fun _ _ h => .inr h)).same (hs2.mono (fun k _ h => .inr ((foot_perm hsp k).1 h))))).same (hs4.mono (fun k _ h => .inr ((foot_perm hsp k).1 h)))).same (hs3.mono (fun _ _ h => .inl h))⟩
    · have hb : b = true := by simp_all
      have hhz := HT.out hb
      have hpx := hpm.trans hsp
      have hlz : lg ys m = lg xs i := by rw [HR.out m (Nat.le_refl _), HLA.out]
      have hyl : ys.length = m + 1 := by rw [hpx.length_eq]; exact HL.out
      obtain ⟨q1, q2⟩ := last_off (w := w) (a := a) (M := M) (turn := turn) (A := A) (c := c) HL.out hpx hlz hhz
      rw [hlz]
      go_ret
      exact ⟨rfl, ys.take m, h3, q1, by rw [List.length_take, hyl, Nat.min_eq_left (by omega)]; exact q2, (((hs1.mono (fun _ _ h => .inr h)).same (hs2.mono (fun k _ h => .inr ((foot_perm hsp k).1 h))))).same (hs3.mono (fun _ _ h => .inl h))⟩
end Go.Proofs.Ytgohlbljdffelaa.AgStr

/- agenda: an agenda in memory, as its sorted list; New, Len, First. Own work of this seat. -/
namespace Go.Proofs.Ytgohlbljdffelaa.AgStr
open Go.RowKit Go.Proofs.Ytgohlbljdffelaa.Kit Go.Proofs.Ytgohlbljdffelaa.Cmp Go.Proofs.Ytgohlbljdffelaa.HeapP Go.Proofs.Ytgohlbljdffelaa.AgP
set_option linter.unusedVariables false
set_option linter.unusedSimpArgs false

def KOk (k : ByteArray) : Prop := k.size ≤ 1000
theorem kkey {k : ByteArray} (h : KOk k) : keyOf Try.prog 9 (Value.string k) = some (slit k) := skey Try.underlying9 (Nat.le_trans h (by omega))
theorem kkeyed : Go.Maps.Keyed Try.prog 9 := Go.Maps.string_keyed Try.underlying9
def proj (x : It) : Ev ByteArray := ⟨x.key, x.tm, x.turn⟩
/-- The map's function: under each key the item that bears it. -/
def Fm (f : Lit → Option Value) (xs : List It) : Prop := ∀ k, (∀ x ∈ xs, x.key = k → f (slit k) = some (ptr x)) ∧ ((∀ x ∈ xs, x.key ≠ k) → f (slit k) = none)
theorem Fm.perm {f : Lit → Option Value} {xs ys : List It} (h : Fm f xs) (hp : ys.Perm xs) : Fm f ys := fun k =>
  ⟨fun x hx => (h k).1 x (hp.mem_iff.1 hx), fun hn => (h k).2 (fun x hx => hn x (hp.mem_iff.2 hx))⟩
theorem Fm.put {f : Lit → Option Value} {xs : List It} (h : Fm f xs) {x : It} (hn : ∀ y ∈ xs, y.key ≠ x.key) : Fm (putF f (slit x.key) (ptr x)) (xs ++ [x]) := by
  intro k
  unfold putF
  by_cases e : k = x.key
  · subst e
    rw [if_pos (sameKey_self (slit_ok _))]
    refine ⟨fun y hy hk => ?_, fun hall => absurd rfl (hall x (by simp))⟩
    rcases List.mem_append.1 hy with hy | hy
    · exact absurd hk (hn y hy)
    · obtain rfl : y = x := by simpa using hy
      rfl
  · have ek : slit k ≠ slit x.key := fun e' => e (slit_inj e')
    rw [if_neg (by rw [Go.Maps.sameKey_ne ek]; simp)]
    refine ⟨fun y hy hk => ?_, fun hall => (h k).2 (fun y hy => hall y (by simp [hy]))⟩
    rcases List.mem_append.1 hy with hy | hy
    · exact (h k).1 y hy hk
    · obtain rfl : y = x := by simpa using hy
      exact absurd hk.symm e
theorem Fm.del {f : Lit → Option Value} {r : List It} {x : It} (h : Fm f (x :: r)) (hn : ∀ y ∈ r, y.key ≠ x.key) : Fm (delF f (slit x.key)) r := by
  intro k
  unfold delF
  by_cases e : k = x.key
  · subst e
    rw [if_pos (sameKey_self (slit_ok _))]
    exact ⟨fun y hy hk => absurd hk (hn y hy), fun _ => rfl⟩
  · have ek : slit k ≠ slit x.key := fun e' => e (slit_inj e')
    rw [if_neg (by rw [Go.Maps.sameKey_ne ek]; simp)]
    refine ⟨fun y hy hk => (h k).1 y (by simp [hy]) hk, fun hall => (h k).2 (fun y hy => ?_)⟩
    rcases List.mem_cons.1 hy with rfl | hy
    · exact fun e' => e e'.symm
    · exact hall y hy
theorem Fm.nodup {f : Lit → Option Value} {xs : List It} (h : Fm f xs) (hn : (xs.map (·.blk)).Nodup) : (xs.map (·.key)).Nodup := by
  unfold List.Nodup at hn ⊢
  rw [List.pairwise_map] at hn ⊢
  refine hn.imp_of_mem fun {x y} hx hy hb e => hb ?_
  have h1 := (h y.key).1 x hx e
  have h2 := (h y.key).1 y hy rfl
  rw [h1] at h2
  unfold ptr at h2
  injection h2 with h2
  injection h2 with h2
  injection h2 with h2
  injection h2

structure AgX (w : World) (a : Nat) (A : Option Addr) (c M m n : Nat) (f : Lit → Option Value) (xs : List It) (t : Nat) : Prop where
  hm : HM w a (.map (some M)) (t : Int) A c xs
  hp : HeapG le (lg xs) xs.length
  mg : MG Try.prog 9 w M n m f
  fm : Fm f xs
  ne : M ≠ a ∧ blockOf A ≠ some M ∧ ∀ x ∈ xs, x.blk ≠ M
  kok : ∀ x ∈ xs, KOk x.key
  nt : n ≤ t
  lt : xs.length ≤ t
/-- The agenda at a, which may own the blocks of F, is L: sorted; t is how many were set. -/
def AgR (w : World) (a : Nat) (F : Nat → Prop) (L : List (Ev ByteArray)) (t : Nat) : Prop :=
  Sorted L ∧ (∀ s ∈ L, s.turn ≤ (t : Int)) ∧ (∀ k, F k → k < w.heap.size) ∧ ∃ xs A c M m n f, AgX w a A c M m n f xs t ∧ (xs.map proj).Perm L ∧ ∀ k, k = a ∨ k = M ∨ foot A xs k → F k
theorem AgR.keep {w w' : World} {a : Nat} {F G : Nat → Prop} {L : List (Ev ByteArray)} {t : Nat} (h : AgR w a F L t) (hs : Step G w w') (hd : ∀ k, F k → ¬ G k) : AgR w' a F L t := by
  obtain ⟨h1, h2, h3, xs, A, c, M, m, n, f, hx, hp, hF⟩ := h
  have hsz := hs.size
  refine ⟨h1, h2, fun k hk => by have := h3 k hk; omega, xs, A, c, M, m, n, f, ⟨hx.hm.still hs (hd _ (hF _ (.inl rfl))) (fun k hk => hd k (hF k (.inr (.inr hk)))), hx.hp, hx.mg.keep hs (hd _ (hF _ (.inr (.inl rfl)))), hx.fm, hx.ne, hx.kok, hx.nt, hx.lt⟩, hp, hF⟩
theorem AgR.same {w w' : World} {a : Nat} {F : Nat → Prop} {L : List (Ev ByteArray)} {t : Nat} (h : AgR w a F L t) (hs : Step (fun _ => False) w w') : AgR w' a F L t := h.keep hs (fun _ _ h => h)
theorem AgR.lt {w : World} {a : Nat} {F : Nat → Prop} {L : List (Ev ByteArray)} {t : Nat} (h : AgR w a F L t) {k : Nat} (hk : F k) : k < w.heap.size := h.2.2.1 k hk
theorem AgR.own {w : World} {a : Nat} {F : Nat → Prop} {L : List (Ev ByteArray)} {t : Nat} (h : AgR w a F L t) : F a := by
  obtain ⟨h1, h2, h3, xs, A, c, M, m, n, f, hx, hp, hF⟩ := h
  exact hF a (.inl rfl)
theorem AgR.sorted {w : World} {a : Nat} {F : Nat → Prop} {L : List (Ev ByteArray)} {t : Nat} (h : AgR w a F L t) : Sorted L := h.1
theorem AgR.nodup {w : World} {a : Nat} {F : Nat → Prop} {L : List (Ev ByteArray)} {t : Nat} (h : AgR w a F L t) : (L.map (·.key)).Nodup := by
  obtain ⟨h1, h2, h3, xs, A, c, M, m, n, f, hx, hp, hF⟩ := h
  have := hx.fm.nodup hx.hm.nd
  have h4 := (hp.map (·.key)).nodup_iff.1 (by rw [List.map_map]; exact this)
  exact h4
theorem AgR.kok {w : World} {a : Nat} {F : Nat → Prop} {L : List (Ev ByteArray)} {t : Nat} (h : AgR w a F L t) : ∀ s ∈ L, KOk s.key := by
  obtain ⟨h1, h2, h3, xs, A, c, M, m, n, f, hx, hp, hF⟩ := h
  intro s hs
  obtain ⟨x, hx', rfl⟩ := List.mem_map.1 (hp.mem_iff.2 hs)
  exact hx.kok x hx'
theorem AgR.len_le {w : World} {a : Nat} {F : Nat → Prop} {L : List (Ev ByteArray)} {t : Nat} (h : AgR w a F L t) : L.length ≤ t := by
  obtain ⟨h1, h2, h3, xs, A, c, M, m, n, f, hx, hp, hF⟩ := h
  have := hp.length_eq
  rw [List.length_map] at this
  have := hx.lt
  omega
/-- The first one of the pile is the least. -/
theorem top {xs : List It} {L : List (Ev ByteArray)} (hh : HeapG le (lg xs) xs.length) (hp : (xs.map proj).Perm L) (hs : Sorted L) {s : Ev ByteArray} {r : List (Ev ByteArray)} (e : L = s :: r) : xs.length = r.length + 1 ∧ proj (lg xs 0) = s := by
  subst e
  have hl := hp.length_eq
  rw [List.length_map, List.length_cons] at hl
  refine ⟨hl, ?_⟩
  cases xs with
  | nil => simp at hl
  | cons x xs =>
    have hm : ∀ y ∈ s :: r, ¬ ltE y (proj x) := by
      intro y hy
      obtain ⟨z, hz, rfl⟩ := List.mem_map.1 (hp.mem_iff.2 hy)
      obtain ⟨i, hi⟩ := List.getElem?_of_mem hz
      have hil := (List.getElem?_eq_some_iff.1 hi).1
      have h1 := heap_min le_tr le_rf hh i hil
      rw [lg_some hi, show lg (x :: xs) 0 = x from rfl, le_iff] at h1
      exact h1
    obtain ⟨L', e, _⟩ := head_least hs (by simpa using hp) hm
    injection e with e1 e2
    exact e1.symm
theorem empty {xs : List It} (hp : (xs.map proj).Perm []) : xs = [] := by
  have := hp.length_eq
  cases xs with
  | nil => rfl
  | cons x xs => simp at this

set_option maxRecDepth 100000 in
set_option maxHeartbeats 1000000 in
theorem new_calls (w : World) : Calls Try.prog 21 #[] w fun e w' => ∃ a F, e = .returned (.pointer (some ⟨a, 0, none⟩)) ∧ AgR w' a F [] 0 ∧ Step (fun _ => False) w w' ∧ ∀ k, F k → w.heap.size ≤ k := by
  have hmm := @run_makeMap Try.prog
  go_enter Try.func21, Try.ntmps21
  go_wp2
  go_ret
  refine ⟨_, fun k => k = w.heap.size ∨ k = w.heap.size + 1, rfl, ?_, ((Step.refl _ _).alloc _).alloc _, fun k hk => by omega⟩
  have hz : ∀ o : Obj, (w.alloc o).heap.size = w.heap.size + 1 := fun o => by show (w.heap.push _).size = _; simp
  have hM := (mg_new Try.prog 9 w).keep (((Step.refl (fun _ => False) (w.alloc (.map #[] 0))).alloc (.cells #[.slice none 0 0, .map (some w.heap.size), .int .i64 0] 92))) (fun h => h)
  have hB := blk_new (w.alloc (.map #[] 0)) [.slice none 0 0, .map (some w.heap.size), .int .i64 0] 92
  rw [hz] at hB
  refine ⟨List.Pairwise.nil, fun s h => by simp at h, fun k hk => ?_, [], none, 0, w.heap.size, 0, 0, fun _ => none, ⟨⟨hB, fseg_nil _ _ _, fun i x h => by simp at h, List.Pairwise.nil, fun x h => by simp at h, fun h => by cases h⟩, fun k h0 h1 => absurd h1 (by simp), hM, fun k => ⟨fun x h => by simp at h, fun _ => rfl⟩, ⟨by omega, (fun h => by cases h), fun x h => by simp at h⟩, fun x h => by simp at h, Nat.le_refl _, Nat.le_refl _⟩, List.Perm.refl _, fun k hk => ?_⟩
  · have h2 : ((w.alloc (.map #[] 0)).alloc (.cells #[.slice none 0 0, .map (some w.heap.size), .int .i64 0] 92)).heap.size = w.heap.size + 2 := by show ((w.heap.push _).push _).size = _; simp
    rw [h2]
    omega
  · rcases hk with e | e | e | ⟨x, h, _⟩
    · exact .inr e
    · exact .inl e
    · cases e
    · simp at h

def firstL (L : List (Ev ByteArray)) : Int × Bool := match L with | [] => (0, false) | s :: _ => (s.tm, true)
theorem first_calls {w : World} {a : Nat} {F : Nat → Prop} {L : List (Ev ByteArray)} {t : Nat} (h : AgR w a F L t) (ht : t ≤ 1000000) : Calls Try.prog 46 #[.pointer (some ⟨a, 0, none⟩)] w fun e w' => e = .returned (.tuple #[.int .i64 (firstL L).1, .bool (firstL L).2]) ∧ w = w' := by
  obtain ⟨h1, h2, h3, xs, A, c, M, m, n, f, hx, hp, hF⟩ := h
  have c0 := hx.hm.cell0
  have hlt := hx.lt
  cases L with
  | nil =>
    obtain rfl := empty hp
    simp only [List.length_nil] at c0
    unfold firstL
    go_enter Try.func46, Try.ntmps46
    go_wp2
    go_ret2
    exact ⟨rfl, rfl⟩
  | cons s r =>
    obtain ⟨hl, e⟩ := top hx.hp hp h1 rfl
    obtain ⟨g, rfl, hci, hbi⟩ := hx.hm.pick (i := 0) (by omega)
    have d1 := hbi.cell (i := 1) rfl
    have hle := hx.hm.row.le
    have q0 : ((xs.length : Int) == 0) = false := by rw [beq_eq_false_iff_ne]; omega
    have q1 : (0 : Int) < (xs.length : Int) := by omega
    have es : (lg xs 0).tm = s.tm := by rw [← e]; rfl
    rw [es] at d1
    unfold firstL
    simp only
    clear e es hl hx hp hF h1 h2 h3 hbi
    generalize xs.length = q at *
    generalize (lg xs 0).blk = b at *
    go_enter Try.func46, Try.ntmps46
    go_wp2
    go_ret2
    exact ⟨rfl, rfl⟩
end Go.Proofs.Ytgohlbljdffelaa.AgStr

/- agenda: Pop, At, Drop. Own work of this seat. -/
namespace Go.Proofs.Ytgohlbljdffelaa.AgStr
open Go.RowKit Go.Proofs.Ytgohlbljdffelaa.Kit Go.Proofs.Ytgohlbljdffelaa.Cmp Go.Proofs.Ytgohlbljdffelaa.HeapP Go.Proofs.Ytgohlbljdffelaa.AgP
set_option linter.unusedVariables false
set_option linter.unusedSimpArgs false

/-- What is popped, up to a tick. -/
def popL (L : List (Ev ByteArray)) (now : Int) : List (Ev ByteArray) := match L with | [] => [] | s :: r => if now < s.tm then s :: r else r
def popV (L : List (Ev ByteArray)) (now : Int) : ByteArray × Int × Bool := match L with | [] => ((⟨#[]⟩ : ByteArray), 0, false) | s :: r => if now < s.tm then ((⟨#[]⟩ : ByteArray), 0, false) else (s.key, s.tm, true)

/-- An agenda out of its parts, behind a step that took one item out. -/
theorem AgX.off {w w' : World} {a : Nat} {A : Option Addr} {c M m n m' : Nat} {f : Lit → Option Value} {xs ys : List It} {x : It} {t : Nat} (h : AgX w a A c M m n f xs t) (hy : HM w' a (.map (some M)) (t : Int) A c ys) (hp : (x :: ys).Perm xs) (hh : HeapG le (lg ys) ys.length) (hm : MG Try.prog 9 w' M n m' (delF f (slit x.key))) : AgX w' a A c M m' n (delF f (slit x.key)) ys t := by
  have hsub : ∀ y ∈ ys, y ∈ xs := fun y hy => hp.mem_iff.1 (List.mem_cons_of_mem _ hy)
  have hfm := h.fm.perm hp
  have hnd : ((x :: ys).map (·.key)).Nodup := hfm.nodup ((hp.map (·.blk)).nodup_iff.2 h.hm.nd)
  rw [List.map_cons, List.nodup_cons] at hnd
  refine ⟨hy, hh, hm, hfm.del (fun y hy e => hnd.1 (e ▸ List.mem_map_of_mem hy)), ⟨h.ne.1, h.ne.2.1, fun y hy => h.ne.2.2 y (hsub y hy)⟩, fun y hy => h.kok y (hsub y hy), h.nt, ?_⟩
  have := hp.length_eq
  rw [List.length_cons] at this
  have := h.lt
  omega

set_option maxRecDepth 100000 in
set_option maxHeartbeats 1000000 in
theorem apop_calls {w : World} {a : Nat} {F : Nat → Prop} {L : List (Ev ByteArray)} {t : Nat} (h : AgR w a F L t) (ht : t ≤ 100000) (now : Int) :
    Calls Try.prog 30 #[.pointer (some ⟨a, 0, none⟩), .int .i64 now] w fun e w' => e = .returned (.tuple #[Value.string (popV L now).1, .int .i64 (popV L now).2.1, .bool (popV L now).2.2]) ∧ AgR w' a F (popL L now) t ∧ Step F w w' := by
  have HF := first_calls h (by omega)
  obtain ⟨h1, h2, h3, xs, A, c, M, m, n, f, hx, hp, hF⟩ := id h
  cases L with
  | nil =>
    unfold firstL at HF
    unfold popV popL
    simp only at HF ⊢
    clear hx hp hF h1 h2 h3
    go_enter Try.func30, Try.ntmps30
    go_wp2_with (go_at_call 46; refine HF.mono ?_; rintro e w1 ⟨rfl, rfl⟩)
    go_ret3
    exact ⟨rfl, h, Step.refl _ _⟩
  | cons s r =>
    unfold firstL at HF
    unfold popV popL
    simp only at HF ⊢
    by_cases hnow : now < s.tm
    · simp only [if_pos hnow]
      clear hx hp hF h1 h2 h3
      go_enter Try.func30, Try.ntmps30
      go_wp2_with (go_at_call 46; refine HF.mono ?_; rintro e w1 ⟨rfl, rfl⟩)
      go_ret3
      exact ⟨rfl, h, Step.refl _ _⟩
    · simp only [if_neg hnow]
      obtain ⟨hl, es⟩ := top hx.hp hp h1 rfl
      have HP := hpop_calls hx.hm (m := r.length) hl (by have := hx.lt; omega) hx.hp
      have hta : ∀ (b : Nat) (w : World), (Instr.typeAssert (.iface 102 (.pointer (some ⟨b, 0, none⟩))) 20 102 false).run Try.prog w = .ok (.pointer (some ⟨b, 0, none⟩)) w := fun _ _ => by kernel_rfl
      have hk : (lg xs 0).key = s.key := by rw [← es]; rfl
      have htm : (lg xs 0).tm = s.tm := by rw [← es]; rfl
      have hmem : lg xs 0 ∈ xs := lg_mem (by omega)
      have hkk := kkey (hx.kok _ hmem)
      have hfa := hF a (.inl rfl)
      have hff : ∀ k, k = a ∨ foot A xs k → F k := fun k hk => hF k (hk.imp id .inr)
      have H := Lib.hid hx
      have HPM := Lib.hid hp
      have hMf : ∀ k, (k = a ∨ foot A xs k) → k ≠ M := by
        rintro k (e | e | ⟨x, hx', e⟩) rfl
        · exact hx.ne.1 e
        · exact hx.ne.2.1 e
        · exact hx.ne.2.2 x hx' e
      have hMF := hF M (.inr (.inl rfl))
      have HREST := Lib.hid (⟨h2, h3, hF⟩ : (∀ q ∈ s :: r, q.turn ≤ (t : Int)) ∧ (∀ k, F k → k < w.heap.size) ∧ ∀ k, k = a ∨ k = M ∨ foot A xs k → F k)
      have HH1 := Lib.hid h1
      have HES := Lib.hid es
      rw [← htm] at hnow
      rw [← hk, ← htm]
      unfold ptr at HP
      rw [← htm] at HF
      clear h hx hp hF h1 h2 h3 hk htm hl es
      go_enter Try.func30, Try.ntmps30
      go_upto_region 5 with (first | (go_at_call 46; refine HF.mono ?_; rintro e w1 ⟨rfl, rfl⟩) | (go_at_call 35; refine HP.mono ?_; rintro e w2 ⟨rfl, ys, hys, hpy, hhy, ⟨p, hbx⟩, hs2⟩))
      have hM2 := H.out.mg.keep hs2 (fun e => hMf M e rfl)
      have c1 := hys.blk.cell (i := 1) rfl
      have d0 := hbx.cell (i := 0) rfl
      have d1 := hbx.cell (i := 1) rfl
      go_still_tail 8, (by kernel_rfl)
      go_wp2_with (refine wpList_mg_drop rfl (.tmp 32) (.tmp 36) 88 rfl (hM2.keep ((Step.refl (fun _ => False) _).drew) (fun h => h)) kkeyed Try.underlying88 (slit_ok _) hkk rfl rfl ?_; intro w3 hM3 hs3)
      have s23 : Step (· = M) w2 w3 := ((Step.refl (· = M) w2).drew).same hs3
      have hb3 := hbx.keep s23 (fun e => H.out.ne.2.2 _ hmem e)
      have e0 := hb3.cell (i := 0) rfl
      have e1 := hb3.cell (i := 1) rfl
      have hfin := H.out.off (hys.still s23 (fun e => H.out.ne.1 e.symm) (fun k hk e => hMf k (.inr (by
        rcases hk with hk | ⟨y, hy, hk⟩
        · exact .inl hk
        · exact .inr ⟨y, hpy.mem_iff.1 (List.mem_cons_of_mem _ hy), hk⟩)) e)) hpy hhy hM3
      have HFIN := Lib.hid hfin
      have HPY := Lib.hid hpy
      clear c1 d0 d1 hfin hpy
      go_quiet (fail)
      go_wp2
      go_ret3
      have hpys : (ys.map proj).Perm r := by
        have q1 := HPY.out.map proj
        rw [List.map_cons, HES.out] at q1
        exact (List.perm_cons _).1 (q1.trans HPM.out)
      have hst : Step F w w3 := (hs2.mono (fun k _ h => hff k h)).same (s23.mono (fun k _ e => e ▸ hMF))
      have hsz := hst.size
      obtain ⟨r2, r3, r4⟩ := HREST.out
      have hok : AgR w3 a F r t := ⟨(List.pairwise_cons.1 HH1.out).2, fun q hq => r2 q (List.mem_cons_of_mem _ hq), fun k hk => by have := r3 k hk; omega, ys, A, c, M, _, n, _, HFIN.out, hpys, fun k hk => by
        rcases hk with e | e | e | ⟨y, hy, e⟩
        · exact r4 k (.inl e)
        · exact r4 k (.inr (.inl e))
        · exact r4 k (.inr (.inr (.inl e)))
        · exact r4 k (.inr (.inr (.inr ⟨y, HPY.out.mem_iff.1 (List.mem_cons_of_mem _ hy), e⟩)))⟩
      exact ⟨rfl, hok.same ((Step.refl _ _).drewN _), hst.drewN _⟩

/-- The item that bears a key. -/
theorem find_it {xs : List It} {L : List (Ev ByteArray)} (hp : (xs.map proj).Perm L) (hk : (L.map (·.key)).Nodup) (k : ByteArray) :
    (atL L k = none ∧ (∀ x ∈ xs, x.key ≠ k) ∧ ∀ s ∈ L, s.key ≠ k) ∨ ∃ (i : Nat) (x : It), xs[i]? = some x ∧ x.key = k ∧ atL L k = some (proj x) := by
  by_cases h : ∃ x ∈ xs, x.key = k
  · obtain ⟨x, hx, hxk⟩ := h
    obtain ⟨i, hi⟩ := List.getElem?_of_mem hx
    refine .inr ⟨i, x, hi, hxk, ?_⟩
    have hm : proj x ∈ L := hp.mem_iff.1 (List.mem_map_of_mem hx)
    cases hf : atL L k with
    | none =>
      have := List.find?_eq_none.1 hf (proj x) hm
      exact absurd (show (proj x).key = k from hxk) (by simpa using this)
    | some s =>
      have h1 := List.find?_some hf
      have h2 := List.mem_of_find?_eq_some hf
      simp only [decide_eq_true_eq] at h1
      obtain ⟨i1, e1⟩ := List.getElem?_of_mem h2
      obtain ⟨i2, e2⟩ := List.getElem?_of_mem hm
      have l1 := (List.getElem?_eq_some_iff.1 e1).1
      have l2 := (List.getElem?_eq_some_iff.1 e2).1
      have : i1 = i2 := by
        have g1 : (L.map (·.key))[i1]? = some k := by rw [List.getElem?_map, e1]; exact congrArg some h1
        have g2 : (L.map (·.key))[i2]? = some k := by rw [List.getElem?_map, e2]; exact congrArg some hxk
        have l1' : i1 < (L.map (·.key)).length := by simpa using l1
        have l2' : i2 < (L.map (·.key)).length := by simpa using l2
        rw [List.getElem?_eq_getElem l1'] at g1
        rw [List.getElem?_eq_getElem l2'] at g2
        have g := (Option.some.inj g1).trans (Option.some.inj g2).symm
        rcases Nat.lt_trichotomy i1 i2 with h | h | h
        · exact absurd g ((List.pairwise_iff_getElem.1 hk) i1 i2 l1' l2' h)
        · exact h
        · exact absurd g.symm ((List.pairwise_iff_getElem.1 hk) i2 i1 l2' l1' h)
      subst this
      rw [e1] at e2
      exact congrArg some (Option.some.inj e2)
  · have hn : ∀ x ∈ xs, x.key ≠ k := fun x hx e => h ⟨x, hx, e⟩
    have hL : ∀ s ∈ L, s.key ≠ k := fun s hs => by
      obtain ⟨x, hx, rfl⟩ := List.mem_map.1 (hp.mem_iff.2 hs)
      exact hn x hx
    exact .inl ⟨List.find?_eq_none.2 (fun s hs => by simpa using hL s hs), hn, hL⟩

theorem zptr (w : World) : (zeroValue 102).run Try.prog w = .ok (.pointer none) w := by kernel_rfl
def atV (L : List (Ev ByteArray)) (k : ByteArray) : Int × Bool := match atL L k with | none => (0, false) | some s => (s.tm, true)
end Go.Proofs.Ytgohlbljdffelaa.AgStr

/- agenda: Drop and Set. Own work of this seat. -/
namespace Go.Proofs.Ytgohlbljdffelaa.AgStr
open Go.RowKit Go.Proofs.Ytgohlbljdffelaa.Kit Go.Proofs.Ytgohlbljdffelaa.Cmp Go.Proofs.Ytgohlbljdffelaa.HeapP Go.Proofs.Ytgohlbljdffelaa.AgP
set_option linter.unusedVariables false
set_option linter.unusedSimpArgs false

set_option maxRecDepth 100000 in
set_option maxHeartbeats 1000000 in
theorem drop_calls {w : World} {a : Nat} {F : Nat → Prop} {L : List (Ev ByteArray)} {t : Nat} (h : AgR w a F L t) (ht : t ≤ 100000) {k : ByteArray} (hk : KOk k) :
    Calls Try.prog 43 #[.pointer (some ⟨a, 0, none⟩), Value.string k] w fun e w' => e = .returned (.bool (atL L k).isSome) ∧ AgR w' a F (dropL L k) t ∧ Step F w w' := by
  have hnd := h.nodup
  obtain ⟨h1, h2, h3, xs, A, c, M, m, n, f, hx, hp, hF⟩ := id h
  have c1 := hx.hm.blk.cell (i := 1) rfl
  have hlook := hx.mg.look_ok kkeyed Try.underlying88 (zptr w) (slit_ok k) (kkey hk)
  rcases find_it hp hnd k with ⟨e1, e2, e3⟩ | ⟨i, x, hi, hxk, e1⟩
  · rw [e1, drop_none e3]
    rw [(hx.fm k).2 e2] at hlook
    simp only [Option.getD_none, Option.isSome_none] at hlook ⊢
    clear hx hp hF h1 h2 h3 e1 e2 e3 hnd
    go_enter Try.func43, Try.ntmps43
    go_wp2
    go_ret
    exact ⟨rfl, h, Step.refl _ _⟩
  · rw [e1]
    rw [(hx.fm k).1 x (List.mem_of_getElem? hi) hxk] at hlook
    simp only [Option.getD_some, Option.isSome_some] at hlook ⊢
    have hil := (List.getElem?_eq_some_iff.1 hi).1
    have hbx := hx.hm.itm i x hi
    have d3 := hbx.cell (i := 3) rfl
    have hxlen := hx.lt
    obtain ⟨q, hq⟩ : ∃ q, xs.length = q + 1 := ⟨xs.length - 1, by omega⟩
    have HP := fun w' (hs : Step (fun _ => False) w w') => hremove_calls (hx.hm.same hs) (m := q) (i := i) hq (by omega) (by omega) hx.hp
    have hMf : ∀ k, (k = a ∨ foot A xs k) → k ≠ M := by
      rintro k (e | e | ⟨x, hx', e⟩) rfl
      · exact hx.ne.1 e
      · exact hx.ne.2.1 e
      · exact hx.ne.2.2 x hx' e
    have hMF := hF M (.inr (.inl rfl))
    have hff : ∀ k, k = a ∨ foot A xs k → F k := fun k hk => hF k (hk.imp id .inr)
    have hlx : lg xs i = x := lg_some hi
    rw [hlx] at HP
    have H := Lib.hid hx
    have HPM := Lib.hid hp
    have HREST := Lib.hid (⟨h1, h2, h3, hF⟩ : Sorted L ∧ (∀ q ∈ L, q.turn ≤ (t : Int)) ∧ (∀ k, F k → k < w.heap.size) ∧ ∀ k, k = a ∨ k = M ∨ foot A xs k → F k)
    have HND := Lib.hid hnd
    have hkk := kkey hk
    have HXK := Lib.hid hxk
    unfold ptr at hlook HP
    have HPH := Lib.hid HP
    clear h hx hp hF h1 h2 h3 e1 hnd hi hxk hq hlx hbx HP
    go_enter Try.func43, Try.ntmps43
    go_upto_region 3 with (fail)
    go_still_tail 8, (by kernel_rfl)
    go_upto_region 4 with (go_at_call 60; refine (HPH.out _ (Step.refl _ _).drew).mono ?_; rintro e w2 ⟨rfl, ys, hys, hpy, hhy, hs2'⟩; have hs2 : Step (fun k => k = a ∨ foot A xs k) w w2 := (Step.refl _ _).drew.same hs2'; have c2 := hys.blk.cell (i := 1) rfl)
    have hM2 := H.out.mg.keep hs2 (fun e => hMf M e rfl)
    go_wp2_with (refine wpList_mg_drop rfl (.tmp 29) (.tmp 30) 88 rfl hM2 kkeyed Try.underlying88 (slit_ok _) hkk rfl rfl ?_; intro w3 hM3 hs3)
    rw [← HXK.out] at hM3
    have hfin := H.out.off (hys.still hs3 (fun e => H.out.ne.1 e.symm) (fun k hk e => hMf k (.inr (by
        rcases hk with hk | ⟨y, hy, hk⟩
        · exact .inl hk
        · exact .inr ⟨y, hpy.mem_iff.1 (List.mem_cons_of_mem _ hy), hk⟩)) e)) hpy hhy hM3
    go_ret
    have hpys : (ys.map proj).Perm (dropL L k) := by
      have q1 := (hpy.map proj).trans HPM.out
      rw [List.map_cons] at q1
      have q2 := perm_drop HND.out q1
      rwa [show (proj x).key = k from HXK.out] at q2
    have hst : Step F w w3 := (hs2.mono (fun k _ h => hff k h)).same (hs3.mono (fun k _ e => e ▸ hMF))
    have hsz := hst.size
    obtain ⟨r1, r2, r3, r4⟩ := HREST.out
    exact ⟨rfl, ⟨sorted_drop r1 k, fun q hq => r2 q (mem_drop.1 hq).1, fun k hk => by have := r3 k hk; omega, ys, A, c, M, _, n, _, hfin, hpys, fun k hk => by
      rcases hk with e | e | e | ⟨y, hy, e⟩
      · exact r4 k (.inl e)
      · exact r4 k (.inr (.inl e))
      · exact r4 k (.inr (.inr (.inl e)))
      · exact r4 k (.inr (.inr (.inr ⟨y, hpy.mem_iff.1 (List.mem_cons_of_mem _ hy), e⟩)))⟩, hst⟩

/-- One item of the pile is another one, in its block. -/
theorem HM.upd {w w' : World} {a : Nat} {M : Value} {turn turn' : Int} {A : Option Addr} {c : Nat} {xs : List It} {i : Nat} {x y : It} (h : HM w a M turn A c xs) (hi : xs[i]? = some x) (hb : y.blk = x.blk) (hs : Step (fun k => k = a ∨ k = x.blk) w w') (ha : Blk w' a 92 [.slice A xs.length c, M, .int .i64 turn']) (hy : Blk w' x.blk 104 (icells y i)) : HM w' a M turn' A c (xs.set i y) := by
  have hil := (List.getElem?_eq_some_iff.1 hi).1
  have hmb : (xs.set i y).map (·.blk) = xs.map (·.blk) := by
    rw [List.map_set]
    apply List.ext_getElem?
    intro j
    rw [List.getElem?_set]
    by_cases e : i = j
    · subst e
      rw [if_pos rfl, List.getElem?_map, hi]
      simp [hil, hb]
    · rw [if_neg e]
  have hmp : (xs.set i y).map ptr = xs.map ptr := by
    have e1 : (fun z : It => ptr z) = (fun b : Nat => Value.pointer (some ⟨b, 0, none⟩)) ∘ (·.blk) := rfl
    have e2 : xs.map ptr = (xs.map (·.blk)).map (fun b : Nat => Value.pointer (some ⟨b, 0, none⟩)) := by rw [List.map_map]; rfl
    have e3 : (xs.set i y).map ptr = ((xs.set i y).map (·.blk)).map (fun b : Nat => Value.pointer (some ⟨b, 0, none⟩)) := by rw [List.map_map]; rfl
    rw [e2, e3, hmb]
  have hxn := h.na x (List.mem_of_getElem? hi)
  refine ⟨by rw [List.length_set]; exact ha, ?_, fun j z hj => ?_, by rw [hmb]; exact h.nd, fun z hz => ?_, h.nA⟩
  · rw [hmp, List.length_set]
    exact h.row.keep hs (fun k hk e => e.elim (fun e => h.nA (by rw [← e]; exact hk)) (fun e => hxn.2 (by rw [← e]; exact hk)))
  · rw [List.getElem?_set] at hj
    by_cases e : i = j
    · subst e
      rw [if_pos rfl, if_pos hil] at hj
      obtain rfl := Option.some.inj hj
      rw [hb]
      exact hy
    · rw [if_neg e] at hj
      have hjl := (List.getElem?_eq_some_iff.1 hj).1
      refine (h.itm j z hj).keep hs (fun e' => e'.elim (h.na z (List.mem_of_getElem? hj)).1 (fun e' => e ?_))
      have := nd_blk h.nd hjl hil (by rw [lg_some hj, lg_some hi]; exact e')
      exact this.symm
  · rcases List.mem_or_eq_of_mem_set hz with hz | rfl
    · exact h.na z hz
    · rw [hb]; exact hxn
theorem Fm.upd {f : Lit → Option Value} {xs : List It} (h : Fm f xs) {i : Nat} {x y : It} (hi : xs[i]? = some x) (hb : y.blk = x.blk) (hk : y.key = x.key) : Fm f (xs.set i y) := by
  have hil := (List.getElem?_eq_some_iff.1 hi).1
  intro k
  refine ⟨fun z hz hzk => ?_, fun hall => (h k).2 (fun z hz => ?_)⟩
  · rcases List.mem_or_eq_of_mem_set hz with hz | rfl
    · exact (h k).1 z hz hzk
    · have := (h k).1 x (List.mem_of_getElem? hi) (hk ▸ hzk)
      rw [this]
      unfold ptr
      rw [hb]
  · obtain ⟨j, hj⟩ := List.getElem?_of_mem hz
    by_cases e : i = j
    · subst e
      rw [hi] at hj
      obtain rfl := Option.some.inj hj
      have := hall y (List.mem_of_getElem? (i := i) (by rw [List.getElem?_set_self hil]))
      rwa [hk] at this
    · exact hall z (List.mem_of_getElem? (i := j) (by rw [List.getElem?_set_ne e]; exact hj))
theorem perm_set_at {xs : List It} {i : Nat} {x y : It} (hi : xs[i]? = some x) : ∃ r, (x :: r).Perm xs ∧ (y :: r).Perm (xs.set i y) := by
  obtain ⟨hil, e⟩ := List.getElem?_eq_some_iff.1 hi
  refine ⟨xs.take i ++ xs.drop (i + 1), ?_, ?_⟩
  · have h1 : xs = xs.take i ++ x :: xs.drop (i + 1) := by rw [← e, ← List.drop_eq_getElem_cons hil, List.take_append_drop]
    exact (List.perm_middle.symm).trans (List.Perm.of_eq h1.symm)
  · have h1 : xs.set i y = xs.take i ++ y :: xs.drop (i + 1) := List.set_eq_take_append_cons_drop ▸ (by rw [if_pos hil])
    exact (List.perm_middle.symm).trans (List.Perm.of_eq h1.symm)
end Go.Proofs.Ytgohlbljdffelaa.AgStr

/- agenda: Set. Own work of this seat. -/
namespace Go.Proofs.Ytgohlbljdffelaa.AgStr
open Go.RowKit Go.Proofs.Ytgohlbljdffelaa.Kit Go.Proofs.Ytgohlbljdffelaa.Cmp Go.Proofs.Ytgohlbljdffelaa.HeapP Go.Proofs.Ytgohlbljdffelaa.AgP
set_option linter.unusedVariables false
set_option linter.unusedSimpArgs false

/-- A tick as it counts. -/
def clipT (at_ : Int) : Int := max 0 (min at_ 1099511627776)

theorem set_old {w w' : World} {a : Nat} {F : Nat → Prop} {L : List (Ev ByteArray)} {t : Nat} {xs ys : List It} {A : Option Addr} {c M m n : Nat} {f : Lit → Option Value} {i : Nat} {x : It} {k : ByteArray} {v : Int}
    (hx : AgX w a A c M m n f xs t) (hs : Sorted L) (h2 : ∀ s ∈ L, s.turn ≤ (t : Int)) (h3 : ∀ k, F k → k < w.heap.size) (hp : (xs.map proj).Perm L) (hF : ∀ k, k = a ∨ k = M ∨ foot A xs k → F k) (hi : xs[i]? = some x) (hxk : x.key = k) (hnd : (L.map (·.key)).Nodup)
    (hys : HM w' a (.map (some M)) ((t + 1 : Nat) : Int) A c ys) (hpy : ys.Perm (xs.set i ⟨k, v, ((t + 1 : Nat) : Int), x.blk⟩)) (hh : HeapG le (lg ys) ys.length) (hst : Step (fun k => k = a ∨ foot A xs k) w w') : AgR w' a F (setL L k v ((t + 1 : Nat) : Int)) (t + 1) ∧ Step F w w' := by
  have hil := (List.getElem?_eq_some_iff.1 hi).1
  have hFs : Step F w w' := hst.mono (fun k _ hk => hF k (hk.imp id .inr))
  have hsz := hst.size
  have hmem : ∀ y ∈ ys, y.blk = x.blk ∨ y ∈ xs := fun y hy => by
    rcases List.mem_or_eq_of_mem_set (hpy.mem_iff.1 hy) with h | rfl
    · exact .inr h
    · exact .inl rfl
  have hfoot : ∀ k, foot A ys k → foot A xs k := by
    rintro k (e | ⟨y, hy, e⟩)
    · exact .inl e
    · rcases hmem y hy with h | h
      · exact .inr ⟨x, List.mem_of_getElem? hi, h ▸ e⟩
      · exact .inr ⟨y, h, e⟩
  refine ⟨⟨sorted_set hs k v (fun s hs' => by have := h2 s hs'; omega), fun s hs' => ?_, fun k hk => by have := h3 k hk; omega, ys, A, c, M, m, n, f, ⟨hys, hh, hx.mg.keep hst ?_, (hx.fm.upd (y := ⟨k, v, ((t + 1 : Nat) : Int), x.blk⟩) hi rfl hxk.symm).perm hpy, ⟨hx.ne.1, hx.ne.2.1, fun y hy => ?_⟩, fun y hy => ?_, by have := hx.nt; omega, ?_⟩, ?_, fun k hk => hF k (hk.imp id (Or.imp id (hfoot k)))⟩, hFs⟩
  · rcases mem_set.1 hs' with rfl | ⟨h, _⟩
    · exact Int.le_refl _
    · have := h2 s h; omega
  · rintro (e | e | ⟨y, hy, e⟩)
    · exact hx.ne.1 e
    · exact hx.ne.2.1 e
    · exact hx.ne.2.2 y hy e
  · rcases hmem y hy with h | h
    · rw [h]; exact hx.ne.2.2 x (List.mem_of_getElem? hi)
    · exact hx.ne.2.2 y h
  · rcases List.mem_or_eq_of_mem_set (hpy.mem_iff.1 hy) with h | rfl
    · exact hx.kok y h
    · show KOk k
      rw [← hxk]
      exact hx.kok x (List.mem_of_getElem? hi)
  · rw [hpy.length_eq, List.length_set]
    have := hx.lt
    omega
  · obtain ⟨r, r1, r2⟩ := perm_set_at (y := (⟨k, v, ((t + 1 : Nat) : Int), x.blk⟩ : It)) hi
    have q1 := (r1.map proj).trans hp
    rw [List.map_cons] at q1
    have q2 := perm_drop hnd q1
    rw [show (proj x).key = k from hxk] at q2
    have q3 := (hpy.map proj).trans (r2.symm.map proj)
    rw [List.map_cons] at q3
    exact q3.trans (((List.perm_cons _).2 q2).trans (perm_set L k v _).symm)

theorem set_new {w w' : World} {a : Nat} {F : Nat → Prop} {L : List (Ev ByteArray)} {t : Nat} {xs ys : List It} {A A' : Option Addr} {c c' M m n m' b : Nat} {f : Lit → Option Value} {k : ByteArray} {v : Int}
    (hx : AgX w a A c M m n f xs t) (hs : Sorted L) (h2 : ∀ s ∈ L, s.turn ≤ (t : Int)) (h3 : ∀ k, F k → k < w.heap.size) (hp : (xs.map proj).Perm L) (hF : ∀ k, k = a ∨ k = M ∨ foot A xs k → F k) (hk : KOk k) (hn : ∀ x ∈ xs, x.key ≠ k) (hnL : ∀ s ∈ L, s.key ≠ k)
    (hb0 : w.heap.size ≤ b) (hb1 : b < w'.heap.size)
    (hys : HM w' a (.map (some M)) ((t + 1 : Nat) : Int) A' c' ys) (hpy : ys.Perm (xs ++ [⟨k, v, ((t + 1 : Nat) : Int), b⟩])) (hh : HeapG le (lg ys) ys.length) (hmg : MG Try.prog 9 w' M (n + 1) m' (putF f (slit k) (.pointer (some ⟨b, 0, none⟩))))
    (hA : blockOf A' = blockOf A ∨ ∃ j, blockOf A' = some j ∧ w.heap.size ≤ j) (hst : Step (fun j => j = a ∨ j = M ∨ foot A xs j) w w') : ∃ F', AgR w' a F' (setL L k v ((t + 1 : Nat) : Int)) (t + 1) ∧ Step F w w' ∧ ∀ j, F' j → F j ∨ w.heap.size ≤ j := by
  have hFs : Step F w w' := hst.mono (fun k _ hk => hF k hk)
  have hsz := hst.size
  have hlen := hpy.length_eq
  rw [List.length_append, List.length_singleton] at hlen
  have hml : M < w.heap.size := hx.mg.lt
  have hmem : ∀ y ∈ ys, y = ⟨k, v, ((t + 1 : Nat) : Int), b⟩ ∨ y ∈ xs := fun y hy => by
    rcases List.mem_append.1 (hpy.mem_iff.1 hy) with h | h
    · exact .inr h
    · exact .inl (by simpa using h)
  refine ⟨fun j => F j ∨ (w.heap.size ≤ j ∧ j < w'.heap.size), ⟨sorted_set hs k v (fun s hs' => by have := h2 s hs'; omega), fun s hs' => ?_, fun j hj => ?_, ys, A', c', M, m', n + 1, putF f (slit k) (.pointer (some ⟨b, 0, none⟩)), ⟨hys, hh, hmg, (hx.fm.put (x := (⟨k, v, ((t + 1 : Nat) : Int), b⟩ : It)) hn).perm hpy, ⟨hx.ne.1, ?_, fun y hy => ?_⟩, fun y hy => ?_, by have := hx.nt; omega, ?_⟩, ?_, fun j hj => ?_⟩, hFs, fun j hj => hj.imp id And.left⟩
  · rcases mem_set.1 hs' with rfl | ⟨h, _⟩
    · exact Int.le_refl _
    · have := h2 s h; omega
  · rcases hj with h | h
    · have := h3 j h; omega
    · omega
  · rcases hA with e | ⟨j, e, hj⟩
    · rw [e]; exact hx.ne.2.1
    · rw [e]
      intro e'
      obtain rfl := Option.some.inj e'
      omega
  · rcases hmem y hy with rfl | h
    · show b ≠ M; omega
    · exact hx.ne.2.2 y h
  · rcases hmem y hy with rfl | h
    · exact hk
    · exact hx.kok y h
  · have := hx.lt; omega
  · have q1 := hpy.map proj
    rw [List.map_append] at q1
    have q2 : (xs.map proj ++ [(⟨k, v, ((t + 1 : Nat) : Int)⟩ : Ev ByteArray)]).Perm ((⟨k, v, ((t + 1 : Nat) : Int)⟩ : Ev ByteArray) :: L) := (List.perm_append_singleton _ _).trans ((List.perm_cons _).2 hp)
    have q3 := perm_set L k v ((t + 1 : Nat) : Int)
    rw [drop_none hnL] at q3
    exact (q1.trans q2).trans q3.symm
  · rcases hj with e | e | e | ⟨y, hy, e⟩
    · exact .inl (hF j (.inl e))
    · exact .inl (hF j (.inr (.inl e)))
    · rcases hA with e' | ⟨j', e', hj'⟩
      · exact .inl (hF j (.inr (.inr (.inl (by rw [← e']; exact e)))))
      · rw [e] at e'
        obtain rfl := Option.some.inj e'
        exact .inr ⟨hj', hys.row.lt e⟩
    · rcases hmem y hy with rfl | h
      · exact .inr ⟨by rw [← e]; exact hb0, by rw [← e]; exact hb1⟩
      · exact .inl (hF j (.inr (.inr (.inr ⟨y, h, e⟩))))

theorem HM.turned {w w' : World} {a : Nat} {M : Value} {turn turn' : Int} {A : Option Addr} {c : Nat} {xs : List It} (h : HM w a M turn A c xs) (hs : Step (· = a) w w') (hb : Blk w' a 92 [.slice A xs.length c, M, .int .i64 turn']) : HM w' a M turn' A c xs :=
  ⟨hb, h.row.keep hs (fun k hk e => h.nA (by rw [← e]; exact hk)), fun i x hi => (h.itm i x hi).keep hs (h.na x (List.mem_of_getElem? hi)).1, h.nd, h.na, h.nA⟩

set_option maxRecDepth 100000 in
set_option maxHeartbeats 1000000 in
theorem set_calls {w : World} {a : Nat} {F : Nat → Prop} {L : List (Ev ByteArray)} {t : Nat} (h : AgR w a F L t) (ht : t ≤ 90000) {k : ByteArray} (hk : KOk k) (v0 : Int) :
    Calls Try.prog 29 #[.pointer (some ⟨a, 0, none⟩), Value.string k, .int .i64 v0] w fun e w' => e = .returned (.tuple #[]) ∧ ∃ F', AgR w' a F' (setL L k (clipT v0) ((t + 1 : Nat) : Int)) (t + 1) ∧ Step F w w' ∧ ∀ j, F' j → F j ∨ w.heap.size ≤ j := by
  have hnd := h.nodup
  obtain ⟨h1, h2, h3, xs, A, c, M, m, n, f, hx, hp, hF⟩ := id h
  have hBa := hx.hm.blk
  have c2 := hBa.cell (i := 2) rfl
  have f2 := hBa.free 2
  have hal := hBa.lt
  have hclip : (if (0 : Int) < (if (1099511627776 : Int) < v0 then 1099511627776 else v0) then (if (1099511627776 : Int) < v0 then 1099511627776 else v0) else 0) = clipT v0 := by
    unfold clipT
    by_cases h1 : (1099511627776 : Int) < v0
    · simp only [if_pos h1]; rw [if_pos (by omega)]; omega
    · simp only [if_neg h1]
      by_cases h2 : 0 < v0
      · rw [if_pos h2]; omega
      · rw [if_neg h2]; omega
  obtain ⟨u, hu⟩ : ∃ u, t + 1 = u := ⟨_, rfl⟩
  have ecast : ((t : Nat) : Int) + 1 = (u : Int) := by omega
  have hlt := hx.lt
  have hnt := hx.nt
  have hMa := hx.ne.1
  rcases find_it hp hnd k with ⟨e1, e2, e3⟩ | ⟨i, x, hi, hxk, e1⟩
  · have HX := Lib.hid hx
    have HLK := Lib.hid (fun w1 (hs : Step (· = a) w w1) => (by
      have := (hx.mg.keep hs hMa).look_ok kkeyed Try.underlying88 (zptr w1) (slit_ok k) (kkey hk)
      rw [(hx.fm k).2 e2] at this
      exact this : (Instr.lookup 88 (.map (some M)) (Value.string k) true).run Try.prog w1 = .ok (.tuple #[.pointer none, .bool false]) w1))
    have HBA := Lib.hid hBa
    have HFIN := Lib.hid (fun w' ys A' c' m' b hb0 hb1 (hys : HM w' a (.map (some M)) ((t + 1 : Nat) : Int) A' c' ys) hpy hh hmg hA hst => set_new (v := clipT v0) (w' := w') (ys := ys) (b := b) (m' := m') hx h1 h2 h3 hp hF hk e2 e3 hb0 hb1 hys hpy hh hmg hA hst)
    rw [hu] at HFIN ⊢
    have HU := Lib.hid hu
    have hkk := kkey hk
    have hcs : ∀ b : Nat, icells (⟨k, clipT v0, (u : Int), b⟩ : It) 0 = [Value.string k, .int .i64 (clipT v0), .int .i64 (u : Int), .int .i64 0] := fun _ => rfl
    have HCS := Lib.hid hcs
    clear h hx hp hF h1 h2 h3 e1 e2 e3 hnd hBa hu hcs
    go_enter Try.func29, Try.ntmps29
    go_upto_region 2 with (fail)
    refine put_plain HBA.out ?_
    intro w1 hB1 hs1
    have d1 := hB1.cell (i := 1) rfl
    have d2 := hB1.cell (i := 2) rfl
    have hlook := HLK.out w1 hs1
    have hsz1 := hs1.size
    clear c2 f2
    go_upto_region 7 with (fail)
    all_goals
      refine alloc_next (cs := [Value.string k, .int .i64 (clipT v0), .int .i64 (u : Int), .int .i64 0]) ?_
      intro w2 hN2 hs2
      rw [← HCS.out w1.heap.size] at hN2
      have hH1 := HX.out.hm.turned (turn' := (u : Int)) hs1 hB1
      have hH2 := hH1.same hs2
      have hM2 := (HX.out.mg.keep hs1 hMa).keep hs2 (fun h => h)
      have d1' := hH2.blk.cell (i := 1) rfl
      have hMl := HX.out.mg.lt
      have hfl : ∀ y ∈ xs, y.blk < w.heap.size := fun y hy => by
        obtain ⟨j, hj⟩ := List.getElem?_of_mem hy
        exact (HX.out.hm.itm j y hj).lt
      have hAl : ∀ j, blockOf A = some j → j < w.heap.size := fun j hj => HX.out.hm.row.lt hj
      have hxb : ∀ y ∈ xs, y.blk ≠ w1.heap.size := fun y hy => by have := hfl y hy; omega
      have hxA : blockOf A ≠ some w1.heap.size := fun e => by have := hAl _ e; omega
      have hxa : w1.heap.size ≠ a := by omega
      have hxM : w1.heap.size ≠ M := by omega
      have HPU := Lib.hid (fun w3 (hs3 : Step (· = M) w2 w3) => hpush_calls (hH2.still hs3 (fun e => HX.out.ne.1 e.symm) (fun j hj e => by
        rcases hj with hj | ⟨y, hy, hj⟩
        · exact HX.out.ne.2.1 (e ▸ hj)
        · exact HX.out.ne.2.2 y hy (hj.trans e))) (by omega) HX.out.hp ⟨k, clipT v0, (u : Int), w1.heap.size⟩ (hN2.keep hs3 hxM) hxb hxa hxA)
      have HM2 := Lib.hid hM2
      have HS12 := Lib.hid (hs1.same (hs2.mono (fun _ _ h => h.elim)))
      have hsz2 := hN2.lt
      have hne : n ≤ 1000000 := by omega
      have HHM : w1.heap.size = w1.heap.size := rfl
      generalize hbn : w1.heap.size = b at *
      have HBN := Lib.hid hbn
      clear hbn HHM d1 d2 hlook hM2 hH1 hH2 hN2 hfl hAl
      unfold ptr at HPU
      go_wp2_with (first | (go_at_call 33; refine (HPU.out _ hs3).mono ?_; rintro e w4 ⟨rfl, A', c', ys, hys, hpy, hhy, hs4, hA'⟩) | (refine wpList_mg_put rfl (.tmp 60) (.tmp 61) (.tmp 62) 88 rfl HM2.out kkeyed Try.underlying88 hne (val := .pointer (some ⟨b, 0, none⟩)) (slit_ok k) hkk rfl rfl rfl ?_; intro w3 hM3 hs3; have d3 := hs3.size))
      all_goals
        have hsz2' := HS12.out.size
        have hsz4 := hs4.size
        have hall : Step (fun j => j = a ∨ j = M ∨ foot A xs j) w w4 :=
          ((HS12.out.mono (fun _ _ h => .inl h)).same (hs3.mono (fun _ _ h => .inr (.inl h)))).trans hs4 (fun j hj h => by
            rcases h with h | h | h
            · exact .inl h
            · exact .inr (.inr h)
            · omega)
        obtain ⟨F', r1, r2, r3⟩ := HFIN.out w4 ys A' c' _ b hsz1 (by omega) hys hpy hhy (hM3.keep hs4 (fun h => by
            rcases h with h | (h | ⟨y, hy, h⟩) | h
            · exact HX.out.ne.1 h
            · exact HX.out.ne.2.1 h
            · exact HX.out.ne.2.2 y hy h
            · exact hxM h.symm)) (hA'.imp id (fun ⟨j, h1, h2⟩ => ⟨j, h1, by omega⟩)) hall
        go_end0
        exact ⟨rfl, F', r1, r2, r3⟩
  · have hil := (List.getElem?_eq_some_iff.1 hi).1
    have hxn := hx.hm.na x (List.mem_of_getElem? hi)
    have HX := Lib.hid hx
    have HLK := Lib.hid (fun w1 (hs : Step (· = a) w w1) => (by
      have := (hx.mg.keep hs hMa).look_ok kkeyed Try.underlying88 (zptr w1) (slit_ok k) (kkey hk)
      rw [(hx.fm k).1 x (List.mem_of_getElem? hi) hxk] at this
      exact this : (Instr.lookup 88 (.map (some M)) (Value.string k) true).run Try.prog w1 = .ok (.tuple #[.pointer (some ⟨x.blk, 0, none⟩), .bool true]) w1))
    have HBX := Lib.hid (hx.hm.itm i x hi)
    have HBA := Lib.hid hBa
    have HFIN := Lib.hid (fun w' ys (hys : HM w' a (.map (some M)) ((t + 1 : Nat) : Int) A c ys) hpy hh hst => set_old (v := clipT v0) (w' := w') (ys := ys) hx h1 h2 h3 hp hF hi hxk hnd hys hpy hh hst)
    rw [hu] at HFIN ⊢
    have HHP := Lib.hid hx.hp
    have HI := Lib.hid hi
    have hfx : foot A xs x.blk := .inr ⟨x, List.mem_of_getElem? hi, rfl⟩
    have HXK := Lib.hid hxk
    have HU := Lib.hid hu
    clear h hx hp hF h1 h2 h3 e1 hnd hi hxk hBa hu
    go_enter Try.func29, Try.ntmps29
    go_upto_region 2 with (fail)
    refine put_plain HBA.out ?_
    intro w1 hB1 hs1
    have d1 := hB1.cell (i := 1) rfl
    have d2 := hB1.cell (i := 2) rfl
    have hlook := HLK.out w1 hs1
    have hX1 := HBX.out.keep hs1 hxn.1
    have x1 := hX1.cell (i := 1) rfl
    have g1 := hX1.free 1
    have x2 := hX1.cell (i := 2) rfl
    have g2 := hX1.free 2
    clear c2 f2
    go_upto_region 5 with (fail)
    refine put_plain (w := w1.setCell ⟨x.blk, 1, none⟩ (.int .i64 (clipT v0))) (hX1.set 1 (.int .i64 (clipT v0))) ?_
    intro w2 hX2 hs2'
    have hs2 : Step (· = x.blk) w1 w2 := (step_put w1 x.blk 1 (.int .i64 (clipT v0))).same hs2'
    have hB2 := hB1.keep hs2 (fun e => hxn.1 e.symm)
    have hs12 : Step (fun k => k = a ∨ k = x.blk) w w2 := (hs1.mono (fun _ _ h => .inl h)).same (hs2.mono (fun _ _ h => .inr h))
    have hHM := HX.out.hm.upd (y := (⟨k, clipT v0, (u : Int), x.blk⟩ : It)) (turn' := (u : Int)) HI.out rfl hs12 hB2 (by have := HXK.out; rw [← this]; exact hX2)
    have hbad : Bad1 le (lg (xs.set i ⟨k, clipT v0, (u : Int), x.blk⟩)) i (xs.set i ⟨k, clipT v0, (u : Int), x.blk⟩).length := by
      rw [List.length_set]
      refine fix_bad le_tr HHP.out (fun j hj => ?_)
      unfold lg
      rw [List.getD_eq_getElem?_getD, List.getElem?_set_ne (fun e => hj e.symm), ← List.getD_eq_getElem?_getD]
    have hFX := fun w3 (hs : Step (fun _ => False) w2 w3) => fix_calls (hHM.same hs) (i := i) (by rw [List.length_set]; exact hil) (by rw [List.length_set]; omega) hbad
    have HFX := Lib.hid hFX
    have hft : ∀ j, foot A (xs.set i ⟨k, clipT v0, (u : Int), x.blk⟩) j → foot A xs j := by
      rintro j (e | ⟨y, hy, e⟩)
      · exact .inl e
      · rcases List.mem_or_eq_of_mem_set hy with h | rfl
        · exact .inr ⟨y, h, e⟩
        · exact .inr ⟨x, List.mem_of_getElem? HI.out, e⟩
    have HFT := Lib.hid hft
    have x3 := hX2.cell (i := 3) rfl
    clear x1 g1 x2 g2 hbad hFX hft hlook d1 d2 hHM
    go_still_tail 8, (by kernel_rfl)
    go_wp2_with (go_at_call 32; refine (HFX.out _ (Step.refl _ _).drew).mono ?_; rintro e w4 ⟨rfl, ys, hys, hpy, hhy, hs4⟩)
    all_goals
      obtain ⟨r1, r2⟩ := HFIN.out w4 ys hys hpy (by rw [hpy.length_eq]; exact hhy) ((hs12.mono (fun k _ h => h.imp id (fun h => h ▸ hfx))).same (((Step.refl _ _).drew).same (hs4.mono (fun k _ h => .inr (HFT.out k h)))))
      refine bodyPost_ret (results_none rfl _ _ _) rfl ?_
      exact ⟨rfl, F, r1, r2, fun j hj => .inl hj⟩
end Go.Proofs.Ytgohlbljdffelaa.AgStr
