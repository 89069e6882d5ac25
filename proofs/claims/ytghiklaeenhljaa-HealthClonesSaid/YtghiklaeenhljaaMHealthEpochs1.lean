/- Lemmas and walks of the texts Wk, Kit, Flat, MapG, PStewardRampsx0, PStewardRampsx1, Hea1, Cmp, HeapP, AgAStr, AgBStr, AgCStr, AgMStr, AgDStr, AgEStr, AgFStr, AgGStr, AgP, one behind the other: no condition. Own work of this seat. -/
import Derived.Test.YtghiklaeenhljaaProg
import Derived.Below
import Derived.Deep.Draws
import Derived.Deep.AppendLies
import Derived.Maps.AppendAt
import Derived.OwnWalk
import Derived.Laws.BytesArg
import Derived.Laws.MakeOwn
import Derived.Laws.OwnMore
import Derived.Deep.OwnRows
import Derived.Tactics
import Derived.Lib.ConvBytes
import Derived.Laws.Slices
import Derived.WalkKit
import Derived.KernelRfl
import Derived.RowKit3
import Derived.Deep.LoopGhost
import Derived.Deep.QuietTactic
import Derived.BigQuiet
import Derived.WideLaws
import Derived.Deep.DeepCutAuto
import Derived.Deep.CutBlock
import Derived.Deep.RegionHeld3
import Derived.Laws.Rows
import Derived.Lib.AppendStr
import Derived.ArgAppend
import Derived.Laws.IdiomCopy
import Derived.OrdersHeld
import Derived.Laws.BitsLemmas
import Derived.RowKit
import Derived.Deep.Cut
import Derived.Deep.CutRange
import Derived.BigRegion
import Derived.StillTailTactics
import Derived.Lib.SliceRun
import Derived.WalkSpells
import Derived.WalkLawsBesides
import Derived.Lib.Hide
import Derived.Defers
import Derived.Outline
import Derived.Deep.DeepFit
import Derived.OneCell
import Derived.Laws.AppendOwn
import Derived.Laws.CopyRow
import Derived.Laws.Tables
import Derived.Maps.OwnOps
import Derived.Maps.OwnSet
import Derived.Maps.Views
import Derived.Test.YtghiklaeenhljaaMakeC
import Derived.Test.YtghiklaeenhljaaWWords
import Derived.Test.YtghiklaeenhljaaWLast
import Derived.Test.YtghiklaeenhljaaWTab
import Derived.Test.YtghiklaeenhljaaWFour
import Derived.Test.YtghiklaeenhljaaWQPut
import Derived.Test.YtghiklaeenhljaaWApart
import Derived.Test.YtghiklaeenhljaaWArr
import Derived.Test.YtghiklaeenhljaaWZeros
import Derived.Test.YtghiklaeenhljaaWFoot
import Derived.Test.YtghiklaeenhljaaWKept
import Derived.Test.YtghiklaeenhljaaWShare
import Derived.Test.YtghiklaeenhljaaWN
import Derived.Test.YtghiklaeenhljaaWFootNe
import Derived.Test.YtghiklaeenhljaaWAt
import Derived.Test.YtghiklaeenhljaaWEqStruct
import Derived.Test.YtghiklaeenhljaaWRepsOne
import Derived.Test.YtghiklaeenhljaaWInv
import Derived.Test.YtghiklaeenhljaaWInvWords
import Derived.Test.YtghiklaeenhljaaWGuard
import Derived.Test.YtghiklaeenhljaaWNEv
import Derived.Test.YtghiklaeenhljaaWMore
import Derived.Laws.ResultCell
/- What the walks of this seat import. -/

/- Words for walks by hand: how a world steps to another (all but some blocks stay), blocks known whole, slices that may begin inside their block. Own work of this seat; no condition. -/
namespace Go.Proofs.Ytghiklaeenhljaa.Kit
open Go.RowKit

/-- From w to w' all that was there stays, but for the blocks of F. -/
structure Step (F : Nat → Prop) (w w' : World) : Prop where
  os : w'.os = w.os
  tape : w'.tape = w.tape
  output : w'.output = w.output
  size : w.heap.size ≤ w'.heap.size
  block : ∀ k, k < w.heap.size → ¬ F k → w'.heap[k]? = w.heap[k]?

theorem Step.refl (F : Nat → Prop) (w : World) : Step F w w := ⟨rfl, rfl, rfl, Nat.le_refl _, fun _ _ _ => rfl⟩
theorem Step.trans {F G : Nat → Prop} {a b c : World} (h : Step F a b) (k : Step G b c) (hG : ∀ j, j < a.heap.size → G j → F j) : Step F a c :=
  ⟨k.os.trans h.os, k.tape.trans h.tape, k.output.trans h.output, Nat.le_trans h.size k.size, fun j hj hF => (k.block j (Nat.lt_of_lt_of_le hj h.size) (fun hg => hF (hG j hj hg))).trans (h.block j hj hF)⟩
theorem Step.mono {F G : Nat → Prop} {a b : World} (h : Step F a b) (hG : ∀ j, j < a.heap.size → F j → G j) : Step G a b :=
  ⟨h.os, h.tape, h.output, h.size, fun j hj hg => h.block j hj (fun hf => hg (hG j hj hf))⟩
theorem Step.same {F : Nat → Prop} {a b c : World} (h : Step F a b) (k : Step F b c) : Step F a c := h.trans k (fun _ _ h => h)
theorem Step.drew {F : Nat → Prop} {a w : World} (h : Step F a w) : Step F a w.drew := ⟨h.os, h.tape, h.output, h.size, h.block⟩
theorem Step.drewN {F : Nat → Prop} {a w : World} (h : Step F a w) (n : Nat) : Step F a (w.drewN n) := ⟨h.os, h.tape, h.output, h.size, h.block⟩
theorem Step.alloc {F : Nat → Prop} {a w : World} (h : Step F a w) (o : Obj) : Step F a (w.alloc o) :=
  ⟨h.os, h.tape, h.output, Nat.le_trans h.size (by show _ ≤ (w.heap.push o).size; rw [Array.size_push]; omega), fun j hj hF => (Below.heap_alloc w o j (Nat.lt_of_lt_of_le hj h.size)).trans (h.block j hj hF)⟩
theorem Step.setCell {F : Nat → Prop} {a w : World} (h : Step F a w) {p : Addr} (hp : p.block < a.heap.size → F p.block) (u : Value) : Step F a (w.setCell p u) :=
  ⟨h.os, h.tape, h.output, by simpa [World.setCell] using h.size, fun j hj hF => (Below.heap_setCell w p u j (fun e => hF (by rw [e] at hj ⊢; exact hp hj))).trans (h.block j hj hF)⟩
theorem Step.of_below {F : Nat → Prop} {w w' : World} (h : Below w.heap.size w w') : Step F w w' := ⟨h.os, h.tape, h.output, h.size, fun j hj _ => h.block j hj⟩
theorem Step.of_grown {F : Nat → Prop} {w w' : World} {row : Option Nat} (h : w.grownBy w' row) (hr : ∀ k, row = some k → k < w.heap.size → F k) : Step F w w' :=
  ⟨h.os, h.tape, h.output, h.size, fun j hj hF => h.block j hj (fun e => hF (hr j e.symm hj))⟩
theorem Step.below {F : Nat → Prop} {B : Nat} {w w' : World} (h : Step F w w') (hB : B ≤ w.heap.size) (hF : ∀ k, F k → B ≤ k) : Below B w w' :=
  ⟨h.os, h.tape, h.output, h.size, fun k hk => h.block k (Nat.lt_of_lt_of_le hk hB) (fun hf => by have := hF k hf; omega)⟩
theorem Step.then_below {F : Nat → Prop} {a b c : World} (h : Step F a b) (k : Below b.heap.size b c) : Step F a c := h.same (Step.of_below k)

/-- Block b is known whole. -/
def Blk (w : World) (b : Nat) (T : TypeId) (cs : List Value) : Prop := w.heap[b]? = some (.cells cs.toArray T (0, 0))
section
variable {w w' : World} {b : Nat} {T : TypeId} {cs : List Value} {F : Nat → Prop}
theorem Blk.lt (h : Blk w b T cs) : b < w.heap.size := lt_of_block h
theorem Blk.cell (h : Blk w b T cs) {i : Nat} {u : Value} (hi : cs[i]? = some u) : w.cell? ⟨b, i, none⟩ = some u := by
  unfold Blk at h
  simp [World.cell?, h, hi]
theorem Blk.free (h : Blk w b T cs) (i : Nat) : w.frozen? ⟨b, i, none⟩ = false := by
  unfold Blk at h
  simp [World.frozen?, h]
theorem Blk.keep (h : Blk w b T cs) (hs : Step F w w') (hb : ¬ F b) : Blk w' b T cs := (hs.block b h.lt hb).trans h
theorem Blk.drew (h : Blk w b T cs) : Blk w.drew b T cs := h
theorem Blk.drewN (h : Blk w b T cs) (n : Nat) : Blk (w.drewN n) b T cs := h
theorem Blk.alloc (h : Blk w b T cs) (o : Obj) : Blk (w.alloc o) b T cs := (Below.heap_alloc w o b h.lt).trans h
theorem Blk.set (h : Blk w b T cs) (i : Nat) (u : Value) : Blk (w.setCell ⟨b, i, none⟩ u) b T (cs.set i u) := by
  unfold Blk at h ⊢
  simp [World.setCell, Array.getElem?_modify, h]
theorem Blk.other (h : Blk w b T cs) {p : Addr} (hp : b ≠ p.block) (u : Value) : Blk (w.setCell p u) b T cs := (Below.heap_setCell w p u b hp).trans h
theorem blk_new (w : World) (cs : List Value) (T : TypeId) : Blk (w.alloc (.cells cs.toArray T (0, 0))) w.heap.size T cs := by
  show (w.heap.push _)[w.heap.size]? = _
  simp
end

theorem step_put (w : World) (b i : Nat) (u : Value) : Step (· = b) w (w.setCell ⟨b, i, none⟩ u) := (Step.refl (· = b) w).setCell (p := ⟨b, i, none⟩) (fun _ => rfl) u

/-- Behind a store into a block that is known whole (its region drew): the world gets a letter. -/
theorem put_drew {P : Program} {c : Code} {Q : Exit → Act → World → Prop} {a : Act} {w : World} {b : Nat} {T : TypeId} {cs : List Value} {i : Nat} {u : Value} (h : Blk w b T cs)
    (k : ∀ w1, Blk w1 b T (cs.set i u) → Step (· = b) w w1 → Code.wp P c Q a w1) : Code.wp P c Q a (w.setCell ⟨b, i, none⟩ u).drew :=
  k _ (h.set i u) (((Step.refl (· = b) w).setCell (p := ⟨b, i, none⟩) (fun _ => rfl) u).drew)
theorem put_plain {P : Program} {c : Code} {Q : Exit → Act → World → Prop} {a : Act} {w : World} {b : Nat} {T : TypeId} {cs : List Value} {i : Nat} {u : Value} (h : Blk w b T cs)
    (k : ∀ w1, Blk w1 b T (cs.set i u) → Step (· = b) w w1 → Code.wp P c Q a w1) : Code.wp P c Q a (w.setCell ⟨b, i, none⟩ u) :=
  k _ (h.set i u) ((Step.refl (· = b) w).setCell (p := ⟨b, i, none⟩) (fun _ => rfl) u)

/-- Behind a new block. -/
theorem alloc_next {P : Program} {c : Code} {Q : Exit → Act → World → Prop} {a : Act} {w : World} {T : TypeId} {cs : List Value}
    (k : ∀ w1, Blk w1 w.heap.size T cs → Step (fun _ => False) w w1 → Code.wp P c Q a w1) : Code.wp P c Q a (w.alloc (.cells cs.toArray T)) :=
  k _ (blk_new w cs T) ((Step.refl _ _).alloc _)

/-- Behind two new blocks. -/
theorem alloc_next2 {P : Program} {c : Code} {Q : Exit → Act → World → Prop} {a : Act} {w : World} {T T' : TypeId} {cs ds : List Value}
    (k : ∀ w1, Blk w1 w.heap.size T cs → Blk w1 (w.heap.size + 1) T' ds → Step (fun _ => False) w w1 → w.heap.size + 1 < w1.heap.size → Code.wp P c Q a w1) : Code.wp P c Q a ((w.alloc (.cells cs.toArray T)).alloc (.cells ds.toArray T')) := by
  have e : (w.alloc (.cells cs.toArray T)).heap.size = w.heap.size + 1 := by show (w.heap.push _).size = _; simp
  have h2 := blk_new (w.alloc (.cells cs.toArray T)) ds T'
  rw [e] at h2
  exact k _ ((blk_new w cs T).alloc _) h2 (((Step.refl _ _).alloc _).alloc _) h2.lt

/-- The slice .slice A n c (elements of type e, one cell each) reads as xs; its block is known up to its capacity. -/
def Seg (w : World) (e : TypeId) (A : Option Addr) (n c : Nat) (xs : List Value) : Prop :=
  xs.length = n ∧ ((A = none ∧ c = 0 ∧ xs = []) ∨ ∃ g o cur, A = some ⟨g, o, none⟩ ∧ w.heap[g]? = some (.cells cur e (0, 0)) ∧ n ≤ c ∧ o + c ≤ cur.size ∧ ∀ i u, xs[i]? = some u → cur[o + i]? = some u)

/-- A slice's block. -/
def blockOf : Option Addr → Option Nat
  | some a => some a.block
  | none => none

section
variable {w w' : World} {e : TypeId} {A : Option Addr} {n c : Nat} {xs : List Value} {F : Nat → Prop}
theorem seg_nil (w : World) (e : TypeId) : Seg w e none 0 0 [] := ⟨rfl, .inl ⟨rfl, rfl, rfl⟩⟩
theorem Seg.len (h : Seg w e A n c xs) : xs.length = n := h.1
theorem Seg.le (h : Seg w e A n c xs) : n ≤ c := by
  obtain ⟨h1, ⟨rfl, rfl, rfl⟩ | ⟨g, o, cur, rfl, _, h2, _⟩⟩ := h
  · simp at h1; omega
  · exact h2
theorem Seg.keep (h : Seg w e A n c xs) (hs : Step F w w') (hF : ∀ k, blockOf A = some k → ¬ F k) : Seg w' e A n c xs := by
  obtain ⟨h1, ⟨rfl, rfl, rfl⟩ | ⟨g, o, cur, rfl, h2, h3⟩⟩ := h
  · exact ⟨h1, .inl ⟨rfl, rfl, rfl⟩⟩
  · exact ⟨h1, .inr ⟨g, o, cur, rfl, (hs.block g (lt_of_block h2) (hF g rfl)).trans h2, h3⟩⟩
theorem Seg.lt (h : Seg w e A n c xs) {k : Nat} (hk : blockOf A = some k) : k < w.heap.size := by
  obtain ⟨h1, ⟨rfl, rfl, rfl⟩ | ⟨g, o, cur, rfl, h2, h3⟩⟩ := h
  · cases hk
  · obtain rfl : g = k := Option.some.inj hk
    exact lt_of_block h2
theorem Seg.cell (h : Seg w e A n c xs) {i : Nat} {u : Value} (hi : xs[i]? = some u) : ∃ g o, A = some ⟨g, o, none⟩ ∧ w.cell? ⟨g, o + i, none⟩ = some u := by
  obtain ⟨h1, ⟨rfl, rfl, rfl⟩ | ⟨g, o, cur, rfl, h2, h3, h4, h5⟩⟩ := h
  · simp at hi
  · exact ⟨g, o, rfl, by simp [World.cell?, h2, h5 i u hi]⟩
theorem Blk.seg {b : Nat} {T : TypeId} {cs : List Value} (h : Blk w b T cs) (hn : n = cs.length) : Seg w T (some ⟨b, 0, none⟩) n n cs := by
  subst hn
  exact ⟨rfl, .inr ⟨b, 0, cs.toArray, rfl, h, Nat.le_refl _, by simp, fun i u hi => by simpa using hi⟩⟩
/-- xs[k:] -/
theorem seg_drop {P : Program} {t : TypeId} (ht : P.underlying t = some (.slice (P.elem t))) (hsz : ∀ wx, (sizeOf (P.elem t)).run P wx = .ok 1 wx) (h : Seg w e A n c xs) {k : Nat} (kI : Int) (hkI : kI = (k : Int)) (hk : k ≤ n) :
    ∃ A' c', (∀ wx, (Instr.slice t (.slice A n c) (some (.int .i64 kI)) none none).run P wx = .ok (.slice A' (n - k) c') wx) ∧ Seg w e A' (n - k) c' (xs.drop k) ∧ blockOf A' = blockOf A ∧ c' = c - k := by
  subst hkI
  refine ⟨if c = k then A else A.map (·.add (k * 1)), c - k, fun wx => ?_, ?_, ?_, rfl⟩
  · rw [run_slice_l (P := P) wx t A n c ht .i64 (k : Int) (by omega) (by omega), hsz wx]
    simp [Result.andThen, sliced]
  · obtain ⟨h1, ⟨rfl, rfl, rfl⟩ | ⟨g, o, cur, rfl, h2, h3, h4, h5⟩⟩ := h
    · simp at h1
      subst h1
      exact ⟨by simp, .inl ⟨by simp, by simp, by simp⟩⟩
    · refine ⟨by simp [h1], .inr ?_⟩
      by_cases hck : c = k
      · rw [if_pos hck]
        exact ⟨g, o, cur, rfl, h2, by omega, by omega, fun i u hi => by
          rw [List.getElem?_drop, List.getElem?_eq_none (by omega)] at hi
          cases hi⟩
      · rw [if_neg hck]
        refine ⟨g, o + k, cur, ?_, h2, by omega, by omega, fun i u hi => ?_⟩
        · simp only [Option.map_some, Addr.add, Nat.mul_one]
          by_cases hk0 : k = 0
          · subst hk0; simp
          · simp [hk0]
        · rw [List.getElem?_drop] at hi
          rw [Nat.add_assoc]
          exact h5 _ _ hi
  · by_cases hck : c = k
    · rw [if_pos hck]
    · rw [if_neg hck]
      cases A with
      | none => rfl
      | some a => simp only [Option.map_some, blockOf, Addr.add]; split <;> rfl
end

section
variable {P : Program} (w : World)
open Go.Lib
/-- A string's bytes behind what a slice reads. -/
theorem run_append_seg_string (t u ty e : TypeId) (i : TypeInfo) (ht : P.underlying t = some (.slice e)) (hu : P.underlying u = some .string) (hi : P.info? e = some i) (hz : i.zero = some (.int .u8 0)) (hs1 : i.size = 1) (hby : i.bytes = 1)
    {A : Option Addr} {n c : Nat} {xs : List Value} (h : Seg w e A n c xs) (s : ByteArray) (hb : n + s.size ≤ 140737488355328) :
    ∃ A' c' w', (Builtin.append_ #[t, u] ty #[.slice A n c, .string s]).run P w = .ok (.slice A' (n + s.size) c') w' ∧ Seg w' e A' (n + s.size) c' (xs ++ strCells s) ∧ Step (fun k => blockOf A = some k) w w' ∧ (blockOf A' = blockOf A ∨ ∃ k, blockOf A' = some k ∧ w.heap.size ≤ k) := by
  have hlen : (xs ++ strCells s).length = n + s.size := by rw [List.length_append, h.len, strCells_length]
  have one1 : (Value.int IntKind.u8 0).cells.size = 1 := rfl
  have grown : ∀ (old : Nat), old < n + s.size →
      Seg (w.drew.alloc (.cells (xs.toArray ++ (strCells s).toArray ++ Builtin.zeroCells (Value.int .u8 0).cells (grownCap w (n + s.size) old e - (n + s.size))) e)) e (some ⟨w.heap.size, 0, none⟩) (n + s.size) (grownCap w (n + s.size) old e) (xs ++ strCells s) := by
    intro old ho
    have hge := grownCap_ge w (n + s.size) old e
    have hxl := h.len
    refine ⟨hlen, .inr ⟨w.heap.size, 0, _, rfl, heap_alloc_new w.drew _, hge, ?_, fun j u hj => ?_⟩⟩
    · simp only [Array.size_append, List.size_toArray, size_zeroCells, one1, hxl, strCells_length]
      omega
    · rw [Nat.zero_add, ← Array.getElem?_toList]
      simp only [Array.toList_append, List.append_assoc]
      rw [← List.append_assoc, List.getElem?_append_left (List.getElem?_eq_some_iff.1 hj).1]
      exact hj
  obtain ⟨hxl, ⟨rfl, rfl, rfl⟩ | ⟨g, o, cur, rfl, hg, hnc, hcs, hcell⟩⟩ := h
  · obtain rfl : n = 0 := by simpa using hxl.symm
    by_cases hm : s.size = 0
    · have hn : strCells s = [] := List.eq_nil_of_length_eq_zero (by rw [strCells_length]; exact hm)
      have hf := run_firstCells_string (P := P) w 1 s
      rw [hm] at hf
      refine ⟨none, 0, w, ?_, by rw [hm, hn]; exact seg_nil w e, Step.refl _ _, .inl rfl⟩
      simp [Builtin.append_, run_underlying ht, run_underlying hu, sizeOf, typeInfo, hi, hs1, Builtin.lenOf, hm, hf]
    · have hr := run_append_nil_string (P := P) w t u ty e i (.int .u8 0) ht hu hi hz s (by omega) (by omega) (by rw [hby]; omega)
      have hgr := grown 0 (by omega)
      simp only [Nat.zero_add, List.nil_append, Array.empty_append] at hgr ⊢
      have e1 : (s.data.map fun b => Value.int .u8 b.toNat) = (strCells s).toArray := by
        apply Array.ext'
        simp [strCells]
      rw [e1] at hr
      exact ⟨_, _, _, hr, hgr, (Step.refl _ _).drew.alloc _, .inr ⟨_, rfl, Nat.le_refl _⟩⟩
  · by_cases hroom : n + s.size ≤ c
    · have hf := run_firstCells_string (P := P) w 1 s
      have hst := run_storeCells_at P g (o + n) e (strCells s) 0 cur w hg (by rw [strCells_length]; omega) (strCells_oneCell s)
      simp only [Nat.add_zero, strCells_length] at hst
      have hadd : (⟨g, o, none⟩ : Addr).add (n * 1) = ⟨g, o + n, none⟩ := by
        unfold Addr.add
        by_cases hn : n = 0
        · subst hn; simp
        · simp [hn]
      have hl3 : (cur.toList.take (o + n)).length = o + n := by rw [List.length_take, Array.length_toList]; omega
      refine ⟨some ⟨g, o, none⟩, c, w.setRow g (cur.toList.take (o + n) ++ strCells s ++ cur.toList.drop (o + n + s.size)).toArray, ?_, ⟨hlen, .inr ⟨g, o, _, rfl, setRow_heap w g cur _ e _ hg, hroom, ?_, fun j u hj => ?_⟩⟩, ⟨rfl, rfl, rfl, by simp, fun k _ hk => setRow_other w g k _ (fun e => hk (by simp [blockOf, e]))⟩, .inl rfl⟩
      · simp only [Nat.mul_one] at hadd
        simp [Builtin.append_, run_underlying ht, run_underlying hu, sizeOf, typeInfo, hi, hs1, Builtin.lenOf, hroom, hf, hadd, hst]
      · simp only [List.size_toArray, List.length_append, hl3, List.length_drop, Array.length_toList, strCells_length]
        omega
      · rw [List.getElem?_toArray]
        rcases Nat.lt_or_ge j n with hjn | hjn
        · rw [List.getElem?_append_left (by omega)] at hj
          rw [List.append_assoc, List.getElem?_append_left (by omega), List.getElem?_take, if_pos (by omega), Array.getElem?_toList]
          exact hcell j u hj
        · rw [List.getElem?_append_right (by omega), hxl] at hj
          rw [List.append_assoc, List.getElem?_append_right (by omega), hl3, List.getElem?_append_left (by have := (List.getElem?_eq_some_iff.1 hj).1; omega), show o + j - (o + n) = j - n by omega]
          exact hj
    · have hr := run_append_grow_string (P := P) w t u ty e i (.int .u8 0) ht hu hi hz ⟨g, o, none⟩ n c xs (by rw [hs1]; omega) (fun j u hj => by
        have hadd : (⟨g, o, none⟩ : Addr).add j = ⟨g, o + j, none⟩ := by
          unfold Addr.add
          by_cases hn : j = 0
          · subst hn; simp
          · simp [hn]
        rw [hadd]
        simp [World.cell?, hg, hcell j u hj]) s (by omega) (by omega) (by rw [hby]; exact growslice_fits (by omega) (by omega))
      exact ⟨_, _, _, hr, grown c (by omega), (Step.refl _ _).drew.alloc _, .inr ⟨_, rfl, Nat.le_refl _⟩⟩

/-- The operation, for the walk. -/
theorem wpList_append_seg_string {ops : Array Oper} {rest : List Oper} {o : Oper} {a : Act} {Q : Exit → Act → World → Prop} (hgd : o.guard = none) (sl x : Operand) (t u : TypeId)
    (ho : o.op = .call { callee := .builtin .append, args := #[sl, x], argTypes := #[t, u] })
    (e : TypeId) (i : TypeInfo) (ht : P.underlying t = some (.slice e)) (hu : P.underlying u = some .string) (hi : P.info? e = some i) (hz : i.zero = some (.int .u8 0)) (hs1 : i.size = 1) (hby : i.bytes = 1)
    {A : Option Addr} {n c : Nat} {xs : List Value} (hs : a.eval sl = .slice A n c) (hseg : Seg w e A n c xs) (s : ByteArray) (hx : a.eval x = .string s) (hb : n + s.size ≤ 140737488355328)
    (h : ∀ A' c' w', Seg w' e A' (n + s.size) c' (xs ++ strCells s) → Step (fun k => blockOf A = some k) w w' → (blockOf A' = blockOf A ∨ ∃ k, blockOf A' = some k ∧ w.heap.size ≤ k) → wpList P ops Q rest (a.put o.dst (.slice A' (n + s.size) c')) w') : wpList P ops Q (o :: rest) a w := by
  refine wpList_plain hgd fun K hK => ?_
  obtain ⟨A', c', w', hr, h2, h3, h4⟩ := run_append_seg_string (P := P) w t u o.type e i ht hu hi hz hs1 hby hseg s hb
  unfold Oper.wp execOp
  simp only [ho, resolve, invoke, builtin, Sem.run_bind, Sem.run_pure, Result.andThen_ok, List.map_toArray, List.map_cons, List.map_nil, hs, hx, hr]
  exact hK _ _ (h A' c' w' h2 h3 h4)
end

section
variable {P : Program} (w : World)
/-- copy into a block that is known whole, from its head on. -/
theorem run_copy_seg (dT sT ty elem : TypeId) (hu : P.underlying dT = some (.slice elem)) (hs : (P.info? elem).map (·.size) = some 1) {g : Nat} {T : TypeId} {L : List Value} (hL : Blk w g T L) {dLen dCap : Nat} (hd : dLen = L.length)
    {e : TypeId} {A : Option Addr} {n c : Nat} {xs : List Value} (h : Seg w e A n c xs) (hn : n ≤ dLen) (h1 : ∀ v ∈ xs, v.oneCell' = true) :
    ∃ w', (Builtin.copy_ #[dT, sT] ty #[.slice (some ⟨g, 0, none⟩) dLen dCap, .slice A n c]).run P w = .ok (goInt n) w' ∧ Blk w' g T (xs ++ L.drop n) ∧ Step (· = g) w w' := by
  have hxl := h.len
  have hc : ∀ a, A = some a → ∀ j v, xs[j]? = some v → w.cell? (a.add j) = some v := by
    intro a ha j v hj
    obtain ⟨g', o', he, hc⟩ := h.cell hj
    rw [ha] at he
    cases he
    have hadd : (⟨g', o', none⟩ : Addr).add j = ⟨g', o' + j, none⟩ := by
      unfold Addr.add
      by_cases hn : j = 0
      · subst hn; simp
      · simp [hn]
    rw [hadd]; exact hc
  cases A with
  | none =>
    obtain ⟨_, ⟨_, rfl, rfl⟩ | ⟨g', o', cur, he, _⟩⟩ := h
    · obtain rfl : n = 0 := by simpa using hxl.symm
      exact ⟨w, run_copy_nil (P := P) w dT sT ty elem _ _ _ hu (by cases hq : P.info? elem <;> simp [hq] at hs ⊢), by simpa using hL, Step.refl _ _⟩
    · cases he
  | some a =>
    have hfit : 0 + xs.length ≤ L.toArray.size := by simp only [List.size_toArray]; omega
    have hmin : Nat.min n dLen = n := Nat.min_eq_left hn
    have hr := run_copy_row (P := P) w dT sT ty elem g 0 dLen dCap a n c L.toArray T xs hu hs hL (by rw [hmin, hxl]) (hc a rfl) hfit h1
    rw [hxl] at hr
    refine ⟨_, hr, ?_, ⟨rfl, rfl, rfl, by simp, fun k _ hk => setRow_other w g k _ (fun e => hk e)⟩⟩
    have hh := setRow_heap w g L.toArray (List.take 0 L.toArray.toList ++ xs ++ List.drop (0 + n) L.toArray.toList).toArray T (0, 0) hL
    simpa [Blk] using hh

theorem wpList_copy_seg {ops : Array Oper} {rest : List Oper} {o : Oper} {a : Act} {Q : Exit → Act → World → Prop} (hgd : o.guard = none) (d s : Operand) (dT sT elem : TypeId)
    (ho : o.op = .call { callee := .builtin .copy, args := #[d, s], argTypes := #[dT, sT] }) (hu : P.underlying dT = some (.slice elem)) (hsz : (P.info? elem).map (·.size) = some 1)
    {g : Nat} {T : TypeId} {L : List Value} (hL : Blk w g T L) {dLen dCap : Nat} (hdl : dLen = L.length) {e : TypeId} {A : Option Addr} {n c : Nat} {xs : List Value} (hseg : Seg w e A n c xs) (hn : n ≤ dLen) (h1 : ∀ v ∈ xs, v.oneCell' = true)
    (hd : a.eval d = .slice (some ⟨g, 0, none⟩) dLen dCap) (hs : a.eval s = .slice A n c)
    (h : ∀ w', Blk w' g T (xs ++ L.drop n) → Step (· = g) w w' → wpList P ops Q rest (a.put o.dst (goInt n)) w') : wpList P ops Q (o :: rest) a w := by
  refine wpList_plain hgd fun K hK => ?_
  obtain ⟨w', hr, h2, h3⟩ := run_copy_seg (P := P) w dT sT o.type elem hu hsz hL (dCap := dCap) hdl hseg hn h1
  unfold Oper.wp execOp
  simp only [ho, resolve, invoke, builtin, Sem.run_bind, Sem.run_pure, Result.andThen_ok, List.map_toArray, List.map_cons, List.map_nil, hd, hs, hr]
  exact hK _ _ (h w' h2 h3)
end

section
variable {P : Program} (w : World)
/-- A whole row stored into a block that is known whole. -/
theorem store_row {g : Nat} {T : TypeId} {L cs : List Value} (h : Blk w g T L) (hl : cs.length = L.length) (h1 : ∀ v ∈ cs, v.oneCell' = true) :
    ∃ w', (storeCells ⟨g, 0, none⟩ cs).run P w = .ok () w' ∧ Blk w' g T cs ∧ Step (· = g) w w' := by
  have hst := run_storeCells_at P g 0 T cs 0 L.toArray w h (by simp [hl]) h1
  refine ⟨_, hst, ?_, ⟨rfl, rfl, rfl, by simp, fun k _ hk => setRow_other w g k _ (fun e => hk e)⟩⟩
  have hh := setRow_heap w g L.toArray (L.toArray.toList.take (0 + 0) ++ cs ++ L.toArray.toList.drop (0 + 0 + cs.length)).toArray T (0, 0) h
  simpa [Blk, hl] using hh

open Go.Lib in
/-- copy of a string's first bytes into a block that is known whole. -/
theorem run_copy_str (dT sT ty elem : TypeId) (hu : P.underlying dT = some (.slice elem)) (hs : (P.info? elem).map (·.size) = some 1) {g : Nat} {T : TypeId} {L : List Value} (hL : Blk w g T L) {dLen dCap : Nat} (hd : dLen = L.length) (s : ByteArray) :
    ∃ (w' : World) (n : Nat), (Builtin.copy_ #[dT, sT] ty #[.slice (some ⟨g, 0, none⟩) dLen dCap, .string s]).run P w = .ok (goInt n) w' ∧ Blk w' g T ((strCells s).take dLen ++ L.drop s.size) ∧ Step (· = g) w w' := by
  have hlen : ((strCells s).take (Nat.min s.size dLen)).length = Nat.min s.size dLen := by
    rw [List.length_take, strCells_length]
    exact Nat.min_eq_left (Nat.min_le_left _ _)
  have hml : Nat.min s.size dLen ≤ L.length := by rw [← hd]; exact Nat.min_le_right _ _
  have hst := run_storeCells_at P g 0 T ((strCells s).take (Nat.min s.size dLen)) 0 L.toArray w hL (by rw [hlen]; simpa using hml) (fun v hv => strCells_oneCell s v (List.mem_of_mem_take hv))
  rw [hlen] at hst
  simp only [Nat.add_zero, Nat.zero_add] at hst
  have e1 : (strCells s).take dLen ++ L.drop s.size = (strCells s).take (Nat.min s.size dLen) ++ L.drop (Nat.min s.size dLen) := by
    rcases Nat.le_total s.size dLen with h | h
    · rw [show Nat.min s.size dLen = s.size from Nat.min_eq_left h, List.take_of_length_le (by rw [strCells_length]; exact h), List.take_of_length_le (by rw [strCells_length]; exact Nat.le_refl _)]
    · rw [show Nat.min s.size dLen = dLen from Nat.min_eq_right h, List.drop_eq_nil_of_le (by omega), List.drop_eq_nil_of_le (by omega)]
  refine ⟨w.setRow g (L.toArray.toList.take 0 ++ (strCells s).take (Nat.min s.size dLen) ++ L.toArray.toList.drop (Nat.min s.size dLen)).toArray, Nat.min s.size dLen, ?_, ?_, ⟨rfl, rfl, rfl, by simp, fun k _ hk => setRow_other w g k _ (fun e => hk e)⟩⟩
  · cases hq : P.info? elem with
    | none => simp [hq] at hs
    | some i =>
      have htk : List.take (Nat.min s.size dLen) (List.map (fun b : UInt8 => Value.int IntKind.u8 (b.toNat : Int)) s.data.toList) = (strCells s).take (Nat.min s.size dLen) := rfl
      simp [Builtin.copy_, run_underlying hu, Builtin.lenOf, Builtin.firstCells, sizeOf, typeInfo, hq]
      rw [htk, hst]
      simp [Result.andThen]
  · rw [e1]
    have hh := setRow_heap w g L.toArray (L.toArray.toList.take 0 ++ (strCells s).take (Nat.min s.size dLen) ++ L.toArray.toList.drop (Nat.min s.size dLen)).toArray T (0, 0) hL
    simpa [Blk] using hh

open Go.Lib in
theorem wpList_copy_str {ops : Array Oper} {rest : List Oper} {o : Oper} {a : Act} {Q : Exit → Act → World → Prop} (hgd : o.guard = none) (d s : Operand) (dT sT elem : TypeId)
    (ho : o.op = .call { callee := .builtin .copy, args := #[d, s], argTypes := #[dT, sT] }) (hu : P.underlying dT = some (.slice elem)) (hsz : (P.info? elem).map (·.size) = some 1)
    {g : Nat} {T : TypeId} {L : List Value} (hL : Blk w g T L) {dLen dCap : Nat} (hdl : dLen = L.length) (t : ByteArray) (hd : a.eval d = .slice (some ⟨g, 0, none⟩) dLen dCap) (hs : a.eval s = .string t)
    (h : ∀ w' (n : Nat), Blk w' g T ((strCells t).take dLen ++ L.drop t.size) → Step (· = g) w w' → wpList P ops Q rest (a.put o.dst (goInt n)) w') : wpList P ops Q (o :: rest) a w := by
  refine wpList_plain hgd fun K hK => ?_
  obtain ⟨w', n, hr, h2, h3⟩ := run_copy_str (P := P) w dT sT o.type elem hu hsz hL (dCap := dCap) hdl t
  unfold Oper.wp execOp
  simp only [ho, resolve, invoke, builtin, Sem.run_bind, Sem.run_pure, Result.andThen_ok, List.map_toArray, List.map_cons, List.map_nil, hd, hs, hr]
  exact hK _ _ (h w' n h2 h3)
end
end Go.Proofs.Ytghiklaeenhljaa.Kit

/- Rows of elements of several cells each, held flat. Own work of this seat. -/
namespace Go.Proofs.Ytghiklaeenhljaa.Kit
open Go.RowKit
set_option linter.unusedVariables false
set_option linter.unusedSimpArgs false

theorem addr_add' (g o k : Nat) : (⟨g, o, none⟩ : Addr).add k = ⟨g, o + k, none⟩ := by
  unfold Addr.add
  by_cases hk : k = 0
  · subst hk; simp
  · simp [hk]

/-- The slice .slice A n c (elements of type T, k cells each) begins at its block, and its cells are cs. -/
def FSeg (w : World) (T : TypeId) (k : Nat) (A : Option Addr) (n c : Nat) (cs : List Value) : Prop :=
  cs.length = n * k ∧ ((A = none ∧ c = 0 ∧ n = 0 ∧ cs = []) ∨ ∃ g cur, A = some ⟨g, 0, none⟩ ∧ w.heap[g]? = some (.cells cur T (0, 0)) ∧ n ≤ c ∧ c * k ≤ cur.size ∧ ∀ (j : Nat) (v : Value), cs[j]? = some v → cur[j]? = some v)
section
variable {w w' : World} {T : TypeId} {k : Nat} {A : Option Addr} {n c : Nat} {cs : List Value} {F : Nat → Prop}
theorem fseg_nil (w : World) (T : TypeId) (k : Nat) : FSeg w T k none 0 0 [] := ⟨by simp, .inl ⟨rfl, rfl, rfl, rfl⟩⟩
theorem FSeg.keep (h : FSeg w T k A n c cs) (hs : Step F w w') (hF : ∀ j, blockOf A = some j → ¬ F j) : FSeg w' T k A n c cs := by
  obtain ⟨h1, ⟨rfl, rfl, rfl, rfl⟩ | ⟨g, cur, rfl, h2, h3⟩⟩ := h
  · exact ⟨h1, .inl ⟨rfl, rfl, rfl, rfl⟩⟩
  · exact ⟨h1, .inr ⟨g, cur, rfl, (hs.block g (lt_of_block h2) (hF g rfl)).trans h2, h3⟩⟩
theorem FSeg.lt (h : FSeg w T k A n c cs) {j : Nat} (hj : blockOf A = some j) : j < w.heap.size := by
  obtain ⟨h1, ⟨rfl, rfl, rfl, rfl⟩ | ⟨g, cur, rfl, h2, h3⟩⟩ := h
  · cases hj
  · obtain rfl : g = j := Option.some.inj hj
    exact lt_of_block h2
theorem FSeg.le (h : FSeg w T k A n c cs) : n ≤ c := by
  obtain ⟨h1, ⟨rfl, rfl, rfl, rfl⟩ | ⟨g, cur, rfl, h2, h3, h4⟩⟩ := h
  · exact Nat.le_refl _
  · exact h3
theorem FSeg.isSome (h : FSeg w T k A n c cs) (hn : 0 < n) : ∃ g, A = some ⟨g, 0, none⟩ := by
  obtain ⟨h1, ⟨rfl, rfl, rfl, rfl⟩ | ⟨g, cur, rfl, h2, h3⟩⟩ := h
  · omega
  · exact ⟨g, rfl⟩
theorem FSeg.cell {g : Nat} (h : FSeg w T k (some ⟨g, 0, none⟩) n c cs) {j : Nat} {v : Value} (hj : cs[j]? = some v) : w.cell? ⟨g, j, none⟩ = some v := by
  obtain ⟨h1, ⟨h0, _⟩ | ⟨g', cur, e, h2, h3, h4, h5⟩⟩ := h
  · cases h0
  · obtain rfl : g = g' := by simpa using e
    simp [World.cell?, h2, h5 j v hj]
theorem FSeg.free {g : Nat} (h : FSeg w T k (some ⟨g, 0, none⟩) n c cs) (j : Nat) : w.frozen? ⟨g, j, none⟩ = false := by
  obtain ⟨h1, ⟨h0, _⟩ | ⟨g', cur, e, h2, h3, h4, h5⟩⟩ := h
  · cases h0
  · obtain rfl : g = g' := by simpa using e
    simp [World.frozen?, h2]
theorem FSeg.set {g : Nat} (h : FSeg w T k (some ⟨g, 0, none⟩) n c cs) (j : Nat) (v : Value) : FSeg (w.setCell ⟨g, j, none⟩ v) T k (some ⟨g, 0, none⟩) n c (cs.set j v) := by
  obtain ⟨h1, ⟨h0, _⟩ | ⟨g', cur, e, h2, h3, h4, h5⟩⟩ := h
  · cases h0
  · obtain rfl : g = g' := by simpa using e
    refine ⟨by rw [List.length_set]; exact h1, .inr ⟨g, cur.setIfInBounds j v, rfl, by simp [World.setCell, Array.getElem?_modify, h2], h3, by simpa using h4, fun i u hi => ?_⟩⟩
    rw [Array.getElem?_setIfInBounds]
    rw [List.getElem?_set] at hi
    by_cases e : j = i
    · subst e
      rw [if_pos rfl] at hi ⊢
      have hil : j < cs.length := by
        rcases Nat.lt_or_ge j cs.length with h | h
        · exact h
        · rw [if_neg (by omega)] at hi; cases hi
      rw [if_pos hil] at hi
      have hq := h5 j cs[j] (List.getElem?_eq_getElem hil)
      rw [if_pos (by exact (Array.getElem?_eq_some_iff.1 hq).1)]
      exact hi
    · rw [if_neg e] at hi ⊢
      exact h5 i u hi
/-- s[:m] -/
theorem FSeg.take (h : FSeg w T k A n c cs) {m : Nat} (hm : m ≤ n) : FSeg w T k A m c (cs.take (m * k)) := by
  obtain ⟨h1, ⟨rfl, rfl, rfl, rfl⟩ | ⟨g, cur, rfl, h2, h3, h4, h5⟩⟩ := h
  · obtain rfl : m = 0 := by omega
    exact ⟨by simp, .inl ⟨rfl, rfl, rfl, by simp⟩⟩
  · refine ⟨by rw [List.length_take, h1]; exact Nat.min_eq_left (Nat.mul_le_mul_right k hm), .inr ⟨g, cur, rfl, h2, by omega, h4, fun j v hj => ?_⟩⟩
    rw [List.getElem?_take] at hj
    split at hj
    · exact h5 j v hj
    · cases hj
end

section
variable {P : Program}
/-- append, of cells that stand in a row somewhere. -/
theorem run_append_flat (w : World) (t ty e : TypeId) (i : TypeInfo) (z : Value) (k by_ : Nat) (ht : P.underlying t = some (.slice e)) (hi : P.info? e = some i) (hz : i.zero = some z) (hzs : z.cells.size = k) (hs1 : i.size = k) (hby : i.bytes = by_) (hb48 : by_ ≤ 1000)
    {A : Option Addr} {n c m cB : Nat} {l r : List Value} (h : FSeg w e k A n c l) {aB : Addr} (hm : r.length = m * k) (hm0 : A = none → 0 < m) (hone : ∀ v ∈ r, v.oneCell' = true) (hcB : ∀ j v, r[j]? = some v → w.cell? (aB.add j) = some v) (hb : n + m ≤ 1000000) :
    ∃ A' c' w', (Builtin.append_ #[t, t] ty #[.slice A n c, .slice (some aB) m cB]).run P w = .ok (.slice A' (n + m) c') w' ∧ FSeg w' e k A' (n + m) c' (l ++ r) ∧ Step (fun k => blockOf A = some k) w w' ∧ (blockOf A' = blockOf A ∨ ∃ k, blockOf A' = some k ∧ w.heap.size ≤ k) := by
  have hbb : ∀ x : Nat, x ≤ 1000000 → x * by_ ≤ 1000000000 := fun x hx => Nat.le_trans (Nat.mul_le_mul hx hb48) (by omega)
  have hlen : (l ++ r).length = (n + m) * k := by rw [List.length_append, h.1, hm, Nat.add_mul]
  have grown : ∀ (old : Nat), old < n + m →
      FSeg (w.drew.alloc (.cells (l.toArray ++ r.toArray ++ Builtin.zeroCells z.cells (grownCap w (n + m) old e - (n + m))) e)) e k (some ⟨w.heap.size, 0, none⟩) (n + m) (grownCap w (n + m) old e) (l ++ r) := by
    intro old ho
    have hge := grownCap_ge w (n + m) old e
    refine ⟨hlen, .inr ⟨w.heap.size, _, rfl, heap_alloc_new w.drew _, hge, ?_, fun j u hj => ?_⟩⟩
    · simp only [Array.size_append, List.size_toArray, size_zeroCells, hzs, h.1, hm]
      rw [← Nat.add_mul, ← Nat.add_mul]
      exact Nat.mul_le_mul_right k (by omega)
    · rw [← Array.getElem?_toList]
      simp only [Array.toList_append, List.append_assoc]
      rw [← List.append_assoc, List.getElem?_append_left (List.getElem?_eq_some_iff.1 hj).1]
      exact hj
  obtain ⟨hxl, ⟨rfl, rfl, rfl, rfl⟩ | ⟨g, cur, rfl, hg, hnc, hcs, hcell⟩⟩ := h
  · have hm0' := hm0 rfl
    have hr := run_append_nil (P := P) w t ty e i z ht hi hz aB m cB r (by rw [hs1]; exact hm) hcB hm0' (by omega) (by rw [hby]; have := hbb m (by omega); omega)
    have hgr := grown 0 (by omega)
    simp only [Nat.zero_add, List.nil_append, Array.empty_append] at hgr ⊢
    exact ⟨_, _, _, hr, hgr, (Step.refl _ _).drew.alloc _, .inr ⟨_, rfl, Nat.le_refl _⟩⟩
  · by_cases hroom : n + m ≤ c
    · have hf := run_firstCells_some (P := P) w k m aB m cB r hm hcB
      have hnk : n * k + m * k ≤ cur.size := by
        rw [← Nat.add_mul]; exact Nat.le_trans (Nat.mul_le_mul_right k hroom) hcs
      have hst := run_storeCells_at P g (0 + n * k) e r 0 cur w hg (by omega) hone
      simp only [Nat.add_zero, Nat.zero_add] at hst
      have hadd := addr_add' g 0 (n * k)
      rw [Nat.zero_add] at hadd
      have hl3 : (cur.toList.take (n * k)).length = n * k := by rw [List.length_take, Array.length_toList]; omega
      refine ⟨some ⟨g, 0, none⟩, c, w.setRow g (cur.toList.take (n * k) ++ r ++ cur.toList.drop (n * k + r.length)).toArray, ?_, ⟨hlen, .inr ⟨g, _, rfl, setRow_heap w g cur _ e _ hg, hroom, ?_, fun j u hj => ?_⟩⟩, ⟨rfl, rfl, rfl, by simp, fun k _ hk => setRow_other w g k _ (fun e => hk (by simp [blockOf, e]))⟩, .inl rfl⟩
      · simp [Builtin.append_, run_underlying ht, sizeOf, typeInfo, hi, hs1, Builtin.lenOf, hroom, hf, hadd, hst]
      · simp only [List.size_toArray, List.length_append, hl3, List.length_drop, Array.length_toList]
        omega
      · rw [List.getElem?_toArray]
        rcases Nat.lt_or_ge j (n * k) with hjn | hjn
        · rw [List.getElem?_append_left (by omega)] at hj
          rw [List.append_assoc, List.getElem?_append_left (by omega), List.getElem?_take, if_pos (by omega), Array.getElem?_toList]
          exact hcell j u hj
        · rw [List.getElem?_append_right (by omega), hxl] at hj
          rw [List.append_assoc, List.getElem?_append_right (by omega), hl3, List.getElem?_append_left (by have := (List.getElem?_eq_some_iff.1 hj).1; omega)]
          exact hj
    · have hr := run_append_grow (P := P) w t ty e i z ht hi hz ⟨g, 0, none⟩ n c l (by rw [hs1]; exact hxl) (fun j u hj => by rw [addr_add', Nat.zero_add]; simp [World.cell?, hg, hcell j u hj]) aB m cB r (by rw [hs1]; exact hm) hcB (by omega) (by omega) (by rw [hby]; exact growslice_fits (by omega) (Nat.le_trans (hbb (n + m) hb) (by omega)))
      exact ⟨_, _, _, hr, grown c (by omega), (Step.refl _ _).drew.alloc _, .inr ⟨_, rfl, Nat.le_refl _⟩⟩

theorem wpList_append_flat (w : World) {ops : Array Oper} {rest : List Oper} {o : Oper} {a : Act} {Q : Exit → Act → World → Prop} (hgd : o.guard = none) (sl x : Operand) (t : TypeId)
    (ho : o.op = .call { callee := .builtin .append, args := #[sl, x], argTypes := #[t, t] })
    (e : TypeId) (i : TypeInfo) (z : Value) (k by_ : Nat) (ht : P.underlying t = some (.slice e)) (hi : P.info? e = some i) (hz : i.zero = some z) (hzs : z.cells.size = k) (hs1 : i.size = k) (hby : i.bytes = by_) (hb48 : by_ ≤ 1000)
    {A : Option Addr} {n c m cB : Nat} {l r : List Value} (hs : a.eval sl = .slice A n c) (h0 : FSeg w e k A n c l) {aB : Addr} (hx : a.eval x = .slice (some aB) m cB) (hm : r.length = m * k) (hm0 : A = none → 0 < m) (hone : ∀ v ∈ r, v.oneCell' = true) (hcB : ∀ j v, r[j]? = some v → w.cell? (aB.add j) = some v) (hb : n + m ≤ 1000000)
    (h : ∀ A' c' w', FSeg w' e k A' (n + m) c' (l ++ r) → Step (fun k => blockOf A = some k) w w' → (blockOf A' = blockOf A ∨ ∃ k, blockOf A' = some k ∧ w.heap.size ≤ k) → wpList P ops Q rest (a.put o.dst (.slice A' (n + m) c')) w') : wpList P ops Q (o :: rest) a w := by
  refine wpList_plain hgd fun K hK => ?_
  obtain ⟨A', c', w', hr, h2, h3, h4⟩ := run_append_flat (P := P) (cB := cB) w t o.type e i z k by_ ht hi hz hzs hs1 hby hb48 h0 hm hm0 hone hcB hb
  unfold Oper.wp execOp
  simp only [ho, resolve, invoke, builtin, Sem.run_bind, Sem.run_pure, Result.andThen_ok, List.map_toArray, List.map_cons, List.map_nil, hs, hx, hr]
  exact hK _ _ (h A' c' w' h2 h3 h4)

/-- clear(s[m:]), of a row that begins at its block. -/
theorem run_clear_tail {w : World} (t ty : TypeId) (e : TypeId) (z : Value) (k : Nat) (ht : P.underlying t = some (.slice e)) (hv : ∀ w, (zeroValue e).run P w = .ok z w) (hzs : z.cells.size = k) (hz1 : ∀ v ∈ z.cells.toList, v.oneCell' = true)
    {g n c m : Nat} {cs : List Value} (cB : Nat) (h : FSeg w e k (some ⟨g, 0, none⟩) n c cs) (hm : m < n) :
    ∃ w', (Builtin.clear_ #[t] ty #[.slice (some ⟨g, m * k, none⟩) (n - m) cB]).run P w = .ok (.tuple #[]) w' ∧ FSeg w' e k (some ⟨g, 0, none⟩) m c (cs.take (m * k)) ∧ Step (· = g) w w' := by
  obtain ⟨hl, ⟨h0, _⟩ | ⟨g', cur, e', hg, h3, h4, h5⟩⟩ := h
  · cases h0
  obtain rfl : g = g' := by simpa using e'
  have hzl : (Builtin.zeroCells z.cells (n - m)).toList.length = (n - m) * k := by rw [Array.length_toList, size_zeroCells, hzs]
  have hnm : m * k + (n - m) * k = n * k := by rw [← Nat.add_mul, Nat.add_sub_cancel' (by omega)]
  have hnc : n * k ≤ c * k := Nat.mul_le_mul_right k h3
  have hone : ∀ v ∈ (Builtin.zeroCells z.cells (n - m)).toList, v.oneCell' = true := by
    intro v hv
    have hv' : v ∈ Builtin.zeroCells z.cells (n - m) := by simpa using hv
    unfold Builtin.zeroCells at hv'
    obtain ⟨q, hq, rfl⟩ := Array.mem_map.1 hv'
    rw [Array.mem_range] at hq
    have hz0 : 0 < z.cells.size := by
      rcases Nat.eq_zero_or_pos z.cells.size with h | h
      · rw [h] at hq; omega
      · exact h
    have hlt := Nat.mod_lt q hz0
    rw [getElem!_pos z.cells _ hlt]
    exact hz1 _ (by simp)
  have hst := run_storeCells_at P g (m * k) e (Builtin.zeroCells z.cells (n - m)).toList 0 cur w hg (by rw [hzl]; omega) hone
  refine ⟨_, ?_, ⟨by rw [List.length_take, hl]; exact Nat.min_eq_left (by omega), .inr ⟨g, _, rfl, setRow_heap w g cur (cur.toList.take (m * k) ++ (Builtin.zeroCells z.cells (n - m)).toList ++ cur.toList.drop (m * k + (Builtin.zeroCells z.cells (n - m)).toList.length)).toArray e _ hg, by omega, ?_, fun j u hj => ?_⟩⟩, ⟨rfl, rfl, rfl, by simp, fun k _ hk => setRow_other w g k _ (fun e => hk e)⟩⟩
  · have hr : (storeCells ⟨g, m * k, none⟩ (Builtin.zeroCells z.cells (n - m)).toList).run P w = .ok () (w.setRow g (cur.toList.take (m * k) ++ (Builtin.zeroCells z.cells (n - m)).toList ++ cur.toList.drop (m * k + (Builtin.zeroCells z.cells (n - m)).toList.length)).toArray) := hst
    clear hst hone hzl hnm hnc
    obtain ⟨q, hq⟩ : ∃ q, n - m = q + 1 := ⟨n - m - 1, by omega⟩
    rw [hq] at hr ⊢
    simp [Builtin.clear_, run_underlying ht, hv]
    simpa using congrArg (fun r => r.andThen fun _ w => .ok (Value.tuple #[]) w) hr
  · simp only [List.size_toArray, List.length_append, List.length_take, List.length_drop, Array.length_toList, hzl, size_zeroCells, hzs]
    omega
  · rw [List.getElem?_toArray]
    rw [List.getElem?_take] at hj
    split at hj
    · rename_i hjm
      rw [List.append_assoc, List.getElem?_append_left (by rw [List.length_take, Array.length_toList]; omega), List.getElem?_take, if_pos hjm, Array.getElem?_toList]
      exact h5 j u hj
    · cases hj
end
section
variable {P : Program}
/-- A whole element is stored. -/
theorem wpList_store_flat {ops : Array Oper} {rest : List Oper} {o : Oper} {a : Act} {w : World} {Q : Exit → Act → World → Prop} (hgd : o.guard = none) (ty : TypeId) (x y : Operand) (ho : o.op = .store ty x y)
    {T : TypeId} {k g n c m : Nat} {cs vs : List Value} (hv : vs.length = k) (hi : (P.info? ty).map (·.size) = some k) (h1 : ∀ v ∈ vs, v.oneCell' = true) (h : FSeg w T k (some ⟨g, 0, none⟩) n c cs) (hm : m < n)
    (hx : a.eval x = .pointer (some ⟨g, m * k, none⟩)) (hy : a.eval y = .agg vs.toArray)
    (hK : ∀ w', FSeg w' T k (some ⟨g, 0, none⟩) n c (cs.take (m * k) ++ vs ++ cs.drop (m * k + k)) → Step (· = g) w w' → wpList P ops Q rest (a.put o.dst undef) w') : wpList P ops Q (o :: rest) a w := by
  obtain ⟨hl, ⟨h0, _⟩ | ⟨g', cur, e', hg, h3, h4, h5⟩⟩ := h
  · cases h0
  obtain rfl : g = g' := by simpa using e'
  have hmk : m * k + k ≤ n * k := by rw [← Nat.succ_mul]; exact Nat.mul_le_mul_right k hm
  have hnc : n * k ≤ c * k := Nat.mul_le_mul_right k h3
  have hst := run_storeCells_at P g (m * k) T vs 0 cur w hg (by omega) h1
  have hst' : (storeCells ⟨g, m * k, none⟩ vs).run P w = .ok () (w.setRow g (cur.toList.take (m * k) ++ vs ++ cur.toList.drop (m * k + k)).toArray) := by
    rw [hv] at hst; simpa using hst
  have hlt : (cur.toList.take (m * k)).length = m * k := by rw [List.length_take, Array.length_toList]; omega
  refine wpList_plain hgd fun K hK' => ?_
  have hnew := hK _ ⟨by simp only [List.length_append, List.length_take, List.length_drop]; omega, .inr ⟨g, _, rfl, setRow_heap w g cur (cur.toList.take (m * k) ++ vs ++ cur.toList.drop (m * k + k)).toArray T _ hg, h3, ?_, fun j u hj => ?_⟩⟩ ⟨rfl, rfl, rfl, by simp, fun k _ hk => setRow_other w g k _ (fun e => hk e)⟩
  · cases hq : P.info? ty with
    | none => simp [hq] at hi
    | some i =>
      have hs : i.size = k := by simpa [hq] using hi
      have hr : (storeVar ty ⟨g, m * k, none⟩ (.agg vs.toArray)).run P w = .ok () (w.setRow g (cur.toList.take (m * k) ++ vs ++ cur.toList.drop (m * k + k)).toArray) := by
        have hvs : vs.toArray.size = i.size := by simp [hs, hv]
        simp only [List.size_toArray] at hvs
        simp [storeVar, sizeOf, typeInfo, hq, Value.cells, hvs, hst']
      unfold Oper.wp execOp
      simp only [ho, hx, hy, Instr.storeAt, Instr.sureAddr, Sem.run_bind, Sem.run_pure, Result.andThen_ok, hr]
      exact hK' _ _ hnew
  · simp only [List.size_toArray, List.length_append, hlt, List.length_drop, Array.length_toList]
    omega
  · rw [List.getElem?_toArray]
    rcases Nat.lt_or_ge j (m * k) with hjm | hjm
    · rw [List.append_assoc, List.getElem?_append_left (by rw [List.length_take]; omega), List.getElem?_take, if_pos hjm] at hj
      rw [List.append_assoc, List.getElem?_append_left (by omega), List.getElem?_take, if_pos hjm, Array.getElem?_toList]
      exact h5 j u hj
    · have hlc : (cs.take (m * k)).length = m * k := by rw [List.length_take]; omega
      rw [List.append_assoc, List.getElem?_append_right (by omega), hlc] at hj
      rw [List.append_assoc, List.getElem?_append_right (by omega), hlt]
      rcases Nat.lt_or_ge (j - m * k) vs.length with hjv | hjv
      · rw [List.getElem?_append_left hjv] at hj ⊢
        exact hj
      · rw [List.getElem?_append_right hjv, List.getElem?_drop] at hj ⊢
        rw [Array.getElem?_toList]
        exact h5 _ _ hj
/-- A block that is known whole is stored over whole. -/
theorem wpList_store_blk {ops : Array Oper} {rest : List Oper} {o : Oper} {a : Act} {w : World} {Q : Exit → Act → World → Prop} (hgd : o.guard = none) (ty : TypeId) (x y : Operand) (ho : o.op = .store ty x y)
    {g : Nat} {T : TypeId} {cs vs : List Value} (h : Blk w g T cs) (hx : a.eval x = .pointer (some ⟨g, 0, none⟩)) (hy : a.eval y = .agg vs.toArray) (hi : (P.info? ty).map (·.size) = some vs.length) (hl : cs.length = vs.length) (h1 : ∀ v ∈ vs, v.oneCell' = true)
    (hK : ∀ w', Blk w' g T vs → Step (· = g) w w' → wpList P ops Q rest (a.put o.dst undef) w') : wpList P ops Q (o :: rest) a w := by
  refine wpList_store_row hgd ty x y ho g vs.toArray hx hy T cs.toArray h (by simpa using hi) (by simpa using hl) (by simpa using h1) (hK _ ?_ ⟨rfl, rfl, rfl, by simp, fun k _ hk => setRow_other w g k _ (fun e => hk e)⟩)
  exact setRow_heap w g cs.toArray vs.toArray T (0, 0) h
end
end Go.Proofs.Ytghiklaeenhljaa.Kit

/- Maps of any elements, as functions of the key: made, read, written, struck, counted. Own work of this seat; no condition. -/
namespace Go.Proofs.Ytghiklaeenhljaa.Kit
open Go.RowKit Go.Maps Go.ChangeMaps
set_option linter.unusedVariables false
set_option linter.unusedSimpArgs false

def anyElem (v : Value) : Option (DataW Value × List MemPlace) := some (.held v, [])
/-- Block b is a map of m entries; under k it has f k; it was stored into at most n times. -/
def MG (P : Program) (K : TypeId) (w : World) (b n m : Nat) (f : Lit → Option Value) : Prop :=
  ∃ D : DataW Value, w.ownsMap P K anyElem b n D ∧ Maps.size D = m ∧ ∀ k, WideAt.IsKeyLit k → Maps.has D k = (f k).isSome ∧ ∀ z, D.atKey k (.held z) = .held ((f k).getD z)
def putF (f : Lit → Option Value) (k : Lit) (v : Value) : Lit → Option Value := fun j => if j.sameKey k then some v else f j
def delF (f : Lit → Option Value) (k : Lit) : Lit → Option Value := fun j => if j.sameKey k then none else f j
theorem sameKey_self {k : Lit} (h : WideAt.IsKeyLit k) : k.sameKey k = true := by
  cases k <;> first | (simp [Lit.sameKey]; done) | exact absurd h id
section
variable {P : Program} {K : TypeId} {w w' : World} {b n m : Nat} {f g : Lit → Option Value} {F : Nat → Prop}
theorem MG.lt (h : MG P K w b n m f) : b < w.heap.size := by obtain ⟨D, hD, _⟩ := h; exact hD.lt
theorem MG.keep (h : MG P K w b n m f) (hs : Step F w w') (hb : ¬ F b) : MG P K w' b n m f := by
  obtain ⟨D, hD, hf⟩ := h
  refine ⟨D, ?_, hf⟩
  have hlt := hD.lt
  obtain ⟨es, clock, hb', G, hn, hD⟩ := hD
  exact ⟨es, clock, (hs.block b hlt hb).trans hb', G, hn, hD⟩
theorem MG.mono (h : MG P K w b n m f) {n' : Nat} (hn : n ≤ n') : MG P K w b n' m f := by
  obtain ⟨D, hD, hf⟩ := h
  exact ⟨D, hD.mono hn, hf⟩
theorem MG.ext (h : MG P K w b n m f) (e : ∀ k, WideAt.IsKeyLit k → g k = f k) : MG P K w b n m g := by
  obtain ⟨D, hD, hm, hf⟩ := h
  exact ⟨D, hD, hm, fun k hk => by rw [e k hk]; exact hf k hk⟩
theorem MG.size_le (h : MG P K w b n m f) : m ≤ n := by
  obtain ⟨D, hD, rfl, hf⟩ := h
  exact hD.size_le
theorem mg_new (P : Program) (K : TypeId) (w : World) : MG P K (w.alloc (.map #[] 0)) w.heap.size 0 0 (fun _ => none) :=
  ⟨_, World.ownsMap_made _ _ _ _, rfl, fun k hk => ⟨rfl, fun z => rfl⟩⟩
theorem step_of_grown_some {w w' : World} {b : Nat} (h : w.grownBy w' (some b)) : Step (· = b) w w' := Step.of_grown h (fun k e _ => (Option.some.inj e).symm)

theorem MG.look {t e : TypeId} (h : MG P K w b n m f) (L : Keyed P K) (ht : P.underlying t = some (.map K e)) {z : Value} (hz : (zeroValue e).run P w = .ok z w) {key : Value} {kl : Lit} (hl : WideAt.IsKeyLit kl) (hkey : keyOf P K key = some kl) :
    (Instr.lookup t (.map (some b)) key false).run P w = .ok ((f kl).getD z) w := by
  obtain ⟨D, hD, _, hf⟩ := h
  obtain ⟨v, ps, hrun, hv⟩ := hD.lookup L ht hz (zd := .held z) (zp := []) rfl hkey
  rw [(hf kl hl).2 z] at hv
  unfold anyElem at hv
  injection hv with hv
  injection hv with hv _
  injection hv with hv
  rw [hrun, hv]
theorem MG.look_ok {t e : TypeId} (h : MG P K w b n m f) (L : Keyed P K) (ht : P.underlying t = some (.map K e)) {z : Value} (hz : (zeroValue e).run P w = .ok z w) {key : Value} {kl : Lit} (hl : WideAt.IsKeyLit kl) (hkey : keyOf P K key = some kl) :
    (Instr.lookup t (.map (some b)) key true).run P w = .ok (.tuple #[(f kl).getD z, .bool (f kl).isSome]) w := by
  obtain ⟨D, hD, _, hf⟩ := h
  obtain ⟨v, ps, hrun, hv⟩ := hD.look_ok L ht hz (zd := .held z) (zp := []) rfl hkey
  rw [(hf kl hl).2 z] at hv
  unfold anyElem at hv
  injection hv with hv
  injection hv with hv _
  injection hv with hv
  rw [hrun, hv, (hf kl hl).1]
theorem MG.len {t e : TypeId} (h : MG P K w b n m f) (ht : P.underlying t = some (.map K e)) (ty : TypeId) : (Builtin.len_ #[t] ty #[.map (some b)]).run P w = .ok (.int .i64 m) w := by
  obtain ⟨D, hD, rfl, hf⟩ := h
  exact hD.len ht ty
theorem MG.put {t e : TypeId} (h : MG P K w b n m f) (L : Keyed P K) (ht : P.underlying t = some (.map K e)) (hn : n ≤ 1000000) {key : Value} (val : Value) {kl : Lit} (hl : WideAt.IsKeyLit kl) (hkey : keyOf P K key = some kl) :
    ∃ w', (Instr.mapUpdate t (.map (some b)) key val).run P w = .ok () w' ∧ MG P K w' b (n + 1) (if (f kl).isSome then m else m + 1) (putF f kl val) ∧ Step (· = b) w w' := by
  obtain ⟨D, hD, hm, hf⟩ := h
  obtain ⟨w', hr, h1, h2⟩ := hD.update L ht (by unfold maxLen; omega) hkey (val := val) (d := .held val) (ps := []) rfl
  refine ⟨w', hr, ⟨_, h1, ?_, fun k hk => ?_⟩, step_of_grown_some h2⟩
  · rw [size_put (hD.tidy L), (hf kl hl).1, hm]
  · unfold putF
    by_cases e : k = kl
    · subst e
      rw [if_pos (sameKey_self hl)]
      exact ⟨has_put_same hD.isMap hl _, fun z => by rw [atKey_put_same hD.isMap hl]; rfl⟩
    · rw [if_neg (by rw [sameKey_ne e]; simp)]
      exact ⟨by rw [has_put_other e]; exact (hf k hk).1, fun z => by rw [atKey_put_other e]; exact (hf k hk).2 z⟩
theorem MG.drop {t e : TypeId} (h : MG P K w b n m f) (L : Keyed P K) (ht : P.underlying t = some (.map K e)) {key : Value} {kl : Lit} (hl : WideAt.IsKeyLit kl) (hkey : keyOf P K key = some kl) (ty : TypeId) :
    ∃ w', (Builtin.delete_ #[t, K] ty #[.map (some b), key]).run P w = .ok (.tuple #[]) w' ∧ MG P K w' b n (if (f kl).isSome then m - 1 else m) (delF f kl) ∧ Step (· = b) w w' := by
  obtain ⟨D, hD, hm, hf⟩ := h
  obtain ⟨w', hr, h1, h2⟩ := hD.drop L ht hkey ty
  refine ⟨w', hr, ⟨_, h1, ?_, fun k hk => ?_⟩, step_of_grown_some h2.grown⟩
  · have := size_del (k := kl) (hD.tidy L)
    rw [(hf kl hl).1, hm] at this
    split <;> simp_all <;> omega
  · unfold delF
    by_cases e : k = kl
    · subst e
      rw [if_pos (sameKey_self hl)]
      exact ⟨has_del_same, fun z => by rw [atKey_del_same]; rfl⟩
    · rw [if_neg (by rw [sameKey_ne e]; simp)]
      exact ⟨by rw [has_del_other e]; exact (hf k hk).1, fun z => by rw [atKey_del_other e]; exact (hf k hk).2 z⟩
end
section
variable {P : Program} {K : TypeId} {b n m : Nat} {f : Lit → Option Value} {ops : Array Oper} {rest : List Oper} {o : Oper} {a : Act} {Q : Exit → Act → World → Prop} {w : World}
theorem wpList_mg_put (hg : o.guard = none) (mo x v : Operand) (t : TypeId) (hop : o.op = Op.mapUpdate t mo x v) {e : TypeId} (h : MG P K w b n m f) (L : Keyed P K) (ht : P.underlying t = some (.map K e)) (hn : n ≤ 1000000) {key val : Value} {kl : Lit} (hl : WideAt.IsKeyLit kl) (hkey : keyOf P K key = some kl)
    (hm : a.eval mo = .map (some b)) (hx : a.eval x = key) (hv : a.eval v = val)
    (hK : ∀ w', MG P K w' b (n + 1) (if (f kl).isSome then m else m + 1) (putF f kl val) → Step (· = b) w w' → wpList P ops Q rest (a.put o.dst undef) w') : wpList P ops Q (o :: rest) a w := by
  refine wpList_plain hg fun K' hK' => ?_
  obtain ⟨w', hrun, r1, r2⟩ := h.put L ht hn val hl hkey
  unfold Oper.wp
  simp [execOp, hop, hm, hx, hv, hrun, Result.andThen]
  exact hK' _ _ (hK w' r1 r2)
theorem wpList_mg_drop (hg : o.guard = none) (mo x : Operand) (t : TypeId) (hop : o.op = Op.call { callee := Callee.builtin Builtin.delete, args := #[mo, x], argTypes := #[t, K] }) {e : TypeId} (h : MG P K w b n m f) (L : Keyed P K) (ht : P.underlying t = some (.map K e)) {key : Value} {kl : Lit} (hl : WideAt.IsKeyLit kl) (hkey : keyOf P K key = some kl)
    (hm : a.eval mo = .map (some b)) (hx : a.eval x = key)
    (hK : ∀ w', MG P K w' b n (if (f kl).isSome then m - 1 else m) (delF f kl) → Step (· = b) w w' → wpList P ops Q rest (a.put o.dst (.tuple #[])) w') : wpList P ops Q (o :: rest) a w := by
  refine wpList_plain hg fun K' hK' => ?_
  obtain ⟨w', hrun, r1, r2⟩ := h.drop L ht hl hkey o.type
  unfold Oper.wp
  simp [execOp, hop, resolve, invoke, builtin, hm, hx, hrun, Result.andThen]
  exact hK' _ _ (hK w' r1 r2)
end

/-! ### keys -/
def slit (s : ByteArray) : Lit := .string s.data.toList
theorem slit_inj {s t : ByteArray} (e : slit s = slit t) : s = t := by
  unfold slit at e
  injection e with e
  cases s with | mk a => cases t with | mk b => cases a; cases b; simp_all
theorem skey {P : Program} {K : TypeId} (hK : P.underlying K = some .string) {s : ByteArray} (h : s.size ≤ 1000000) : keyOf P K (.string s) = some (slit s) := Go.WideMaps.keyOf_string_mk hK (by unfold maxLen; omega)
def ilit (n : Int) : Lit := .int .i64 n
theorem ilit_inj {s t : Int} (e : ilit s = ilit t) : s = t := by
  unfold ilit at e
  injection e with _ e
theorem ikey {P : Program} {K : TypeId} (hK : P.underlying K = some (.int .i64)) {n : Int} (h0 : -9223372036854775808 ≤ n) (h1 : n ≤ 9223372036854775807) : keyOf P K (.int .i64 n) = some (ilit n) := Go.Maps.keyOf_int_mk hK (WalkArith.wf_i64 ⟨h0, h1⟩)
theorem slit_ok (s : ByteArray) : WideAt.IsKeyLit (slit s) := trivial
theorem ilit_ok (s : Int) : WideAt.IsKeyLit (ilit s) := trivial
end Go.Proofs.Ytghiklaeenhljaa.Kit

-- written by a program of this seat (a turned print): not typed by hand
namespace Go.Proofs.Ytghiklaeenhljaa.PStewardRamps
open Go.RowKit Go.Proofs.YtghiklaeenhljaaW.PrintWords Go.Proofs.YtghiklaeenhljaaW.PrintLast Go.Proofs.YtghiklaeenhljaaW.PrintMore
attribute [local go_sem] max2_int min2_int max_two min_two max_three min_three max_four min_four   -- for this text's walks alone
set_option linter.unusedVariables false
set_option linter.unusedSimpArgs false



def errW : Option Int → Value
  | none => .nilIface
  | some c => .iface 0 (.int .i64 c)
theorem errW_none : errW none = .nilIface := rfl
theorem errW_some (c : Int) : errW (some c) = .iface 0 (.int .i64 c) := rfl

-- the values' own types

end Go.Proofs.Ytghiklaeenhljaa.PStewardRamps

-- written by a program of this seat (a turned print): not typed by hand
namespace Go.Proofs.Ytghiklaeenhljaa.PStewardRamps
open Go.RowKit Go.Proofs.YtghiklaeenhljaaW.PrintWords Go.Proofs.YtghiklaeenhljaaW.PrintLast Go.Proofs.YtghiklaeenhljaaW.PrintMore
attribute [local go_sem] max2_int min2_int max_two min_two max_three min_three max_four min_four   -- for this text's walks alone
set_option linter.unusedVariables false
set_option linter.unusedSimpArgs false

/-! ### probe_clip: function 49 -/
def probe_clip.f (a0 : Int) (a1 : Int) : Option (Int) := some (mx 1 (mn a0 a1))
set_option maxHeartbeats 8000000 in
set_option maxRecDepth 100000 in
theorem probe_clip.calls (a0 : Int) (a1 : Int) (r : Int) (w : World) (h : probe_clip.f a0 a1 = some r) :
    Calls Try.prog 49 #[.int .i64 a0, .int .i64 a1] w fun e w' => e = .returned (.int .i64 r) ∧ Below w.heap.size w w' := by
  have HB := Aside0.mk (Below.refl w.heap.size w)
  have H : (some (mx 1 (mn a0 a1))) = some r := h
  clear h
  obtain ⟨ji3, hji3⟩ : ∃ j_ : Int, (mn a0 a1) = j_ := ⟨_, rfl⟩
  replace H : (some (mx 1 (ji3))) = some r := by first | (rw [hji3] at H; exact H) | (simp only [hji3] at H ⊢; exact H)
  have hji3_ : (if a1 < a0 then a1 else a0) = ji3 := hji3
  obtain ⟨ji4, hji4⟩ : ∃ j_ : Int, (mx 1 (ji3)) = j_ := ⟨_, rfl⟩
  replace H : (some ji4) = some r := by first | (rw [hji4] at H; exact H) | (simp only [hji4] at H ⊢; exact H)
  have hji4_ : (if 1 < (ji3) then (ji3) else 1) = ji4 := hji4
  obtain rfl := Option.some.inj H
  go_enter Try.func49, Try.ntmps49
  go_wp2
  go_ret
  exact ⟨by first | rfl | (simp [errW_none, errW_some] <;> rfl) | (simp only [← hji3, ← hji4]; first | rfl | (simp [errW_none, errW_some] <;> rfl)) | (simp [*, errW_none, errW_some] <;> rfl), by repeat (first | (with_reducible first | exact HB.out | apply below_alloc | apply pw_below_drewN | apply below_drew1) | exact HB.out)⟩

/-! ### probe_Config_Clip: function 26 -/
def probe_Config_Clip.f (a0_0 : Int) (a0_1 : Int) (a0_2 : Int) (a0_3 : Int) : Option (Int × Int × Int × Int) := (probe_clip.f a0_0 1048576).bind fun t103 => ((probe_clip.f a0_1 1048576).bind fun t104 => ((probe_clip.f a0_2 1000).bind fun t105 => ((probe_clip.f a0_3 1000).bind fun t106 => (some (t103, t104, t105, t106)))))
def probe_Config_Clip.T1 : Bool × List (List Nat × List Nat) := (true, [([], []), ([0], [0]), ([1], [1]), ([], []), ([3], [3]), ([4, 2], [4]), ([], []), ([6], [6]), ([7, 5], [7]), ([], []), ([9], [9]), ([10, 8], [10]), ([2, 5, 8, 11], [2, 5, 8, 11]), ([12, 11, 0, 1, 2, 3, 4, 5, 6, 7, 8, 9, 10, 11, 12], [12])])
def probe_Config_Clip.B1 : List Nat := [0, 1, 3, 0, 8, 31, 0, 64, 255, 0, 512, 2047, 4095, 8191]
theorem probe_Config_Clip.tab1 : rtab .any (opsOf Try.f26 1) = probe_Config_Clip.T1 := by kernel_rfl
theorem probe_Config_Clip.bits1 : waitsOk probe_Config_Clip.T1.2 probe_Config_Clip.B1 = true := by kernel_rfl
set_option maxHeartbeats 8000000 in
set_option maxRecDepth 100000 in
theorem probe_Config_Clip.calls (a0_0 : Int) (a0_1 : Int) (a0_2 : Int) (a0_3 : Int) (r1 : Int) (r2 : Int) (r3 : Int) (r4 : Int) (w : World) (h : probe_Config_Clip.f a0_0 a0_1 a0_2 a0_3 = some (r1, r2, r3, r4)) :
    Calls Try.prog 26 #[.agg #[.int .i64 a0_0, .int .i64 a0_1, .int .i64 a0_2, .int .i64 a0_3]] w fun e w' => e = .returned (.agg #[.int .i64 r1, .int .i64 r2, .int .i64 r3, .int .i64 r4]) ∧ Below w.heap.size w w' := by
  have hu26 := Try.underlying26
  have HB := Aside0.mk (Below.refl w.heap.size w)
  have H : ((probe_clip.f a0_0 1048576).bind fun t103 => ((probe_clip.f a0_1 1048576).bind fun t104 => ((probe_clip.f a0_2 1000).bind fun t105 => ((probe_clip.f a0_3 1000).bind fun t106 => (some (t103, t104, t105, t106)))))) = some (r1, r2, r3, r4) := h
  clear h
  replace H := Option.bind_eq_some_iff.mp H
  obtain ⟨t103, A20, H⟩ := H
  replace H : ((probe_clip.f a0_1 1048576).bind fun t104 => ((probe_clip.f a0_2 1000).bind fun t105 => ((probe_clip.f a0_3 1000).bind fun t106 => (some (t103, t104, t105, t106))))) = some (r1, r2, r3, r4) := H
  have A2 := Aside0.mk A20
  clear A20
  replace H := Option.bind_eq_some_iff.mp H
  obtain ⟨t104, A30, H⟩ := H
  replace H : ((probe_clip.f a0_2 1000).bind fun t105 => ((probe_clip.f a0_3 1000).bind fun t106 => (some (t103, t104, t105, t106)))) = some (r1, r2, r3, r4) := H
  have A3 := Aside0.mk A30
  clear A30
  replace H := Option.bind_eq_some_iff.mp H
  obtain ⟨t105, A40, H⟩ := H
  replace H : ((probe_clip.f a0_3 1000).bind fun t106 => (some (t103, t104, t105, t106))) = some (r1, r2, r3, r4) := H
  have A4 := Aside0.mk A40
  clear A40
  replace H := Option.bind_eq_some_iff.mp H
  obtain ⟨t106, A50, H⟩ := H
  replace H : (some (t103, t104, t105, t106)) = some (r1, r2, r3, r4) := H
  have A5 := Aside0.mk A50
  clear A50
  simp only [Option.some.injEq, Prod.mk.injEq] at H
  obtain ⟨rfl, rfl, rfl, rfl⟩ := H
  go_enter Try.func26, Try.ntmps26
  try go_wp2_with (first | ((with_reducible refine gate_dst (N := 1) rfl ?_); refine box_event ?hg (N := 1) ?hd (cs := #[.int .i64 a0_0, .int .i64 a0_1, .int .i64 a0_2, .int .i64 a0_3]) (t := 26) ?hr ?_; (case hd => rfl); (case hg => rfl); (case hr => first | (go_simp; done) | (go_simp; rfl)); intro gb101 hg w6 hbox hb; have n0_ := Aside0.mk (below_step (by repeat (first | (with_reducible first | exact HB.out | apply below_alloc | apply pw_below_drewN | apply below_drew1) | exact HB.out)) hb); have n1_ := Aside0.mk (hbox); have n2_ := Aside0.mk ((by rw [hg]; exact (below_size (by repeat (first | (with_reducible first | exact HB.out | apply below_alloc | apply pw_below_drewN | apply below_drew1) | exact HB.out))) : w.heap.size ≤ gb101)); have n3_ := Aside0.mk ((by rw [hg]; exact (below_size (by repeat (first | (with_reducible first | exact HB.out | apply below_alloc | apply pw_below_drewN | apply below_drew1) | exact HB.out))) : w.heap.size ≤ gb101)); clear HB; have HB := n0_; have BK101 := n1_; have GW101 := n2_; have GE101 := n3_; clear n0_ n1_ n2_ n3_; clear hb hbox hg) | ((with_reducible refine gate_dst (N := 2) rfl ?_); refine box_event ?hg (N := 2) ?hd (cs := #[.int .i64 0, .int .i64 0, .int .i64 0, .int .i64 0]) (t := 26) ?hr ?_; (case hd => rfl); (case hg => rfl); (case hr => first | (go_simp; done) | (go_simp; rfl)); intro gb102 hg w7 hbox hb; have n0_ := Aside0.mk (blk_below (g := gb101) (o := .cells #[.int .i64 a0_0, .int .i64 a0_1, .int .i64 a0_2, .int .i64 a0_3] 26 (0, 0)) (by (with_reducible repeat (first | refine blk_drewN ?_ _ | refine blk_drew ?_ | refine blk_alloc ?_ _)); exact BK101.out) hb); have n1_ := Aside0.mk (below_step (by repeat (first | (with_reducible first | exact HB.out | apply below_alloc | apply pw_below_drewN | apply below_drew1 | refine below_set ?_ GE101.out) | exact HB.out)) hb); have n2_ := Aside0.mk (hbox); have n3_ := Aside0.mk ((by rw [hg]; exact (below_size (by repeat (first | (with_reducible first | exact HB.out | apply below_alloc | apply pw_below_drewN | apply below_drew1 | refine below_set ?_ GE101.out) | exact HB.out))) : w.heap.size ≤ gb102)); have n4_ := Aside0.mk ((by rw [hg]; exact (below_size (by repeat (first | (with_reducible first | exact HB.out | apply below_alloc | apply pw_below_drewN | apply below_drew1 | refine below_set ?_ GE101.out) | exact HB.out))) : w.heap.size ≤ gb102)); have n5_ := Aside0.mk ((by rw [hg]; exact Nat.ne_of_lt (blk_lt (g := gb101) (o := .cells #[.int .i64 a0_0, .int .i64 a0_1, .int .i64 a0_2, .int .i64 a0_3] 26 (0, 0)) (by (with_reducible repeat (first | refine blk_drewN ?_ _ | refine blk_drew ?_ | refine blk_alloc ?_ _)); exact BK101.out)) : gb101 ≠ gb102)); have n6_ := Aside0.mk ((by rw [hg]; exact Nat.ne_of_gt (blk_lt (g := gb101) (o := .cells #[.int .i64 a0_0, .int .i64 a0_1, .int .i64 a0_2, .int .i64 a0_3] 26 (0, 0)) (by (with_reducible repeat (first | refine blk_drewN ?_ _ | refine blk_drew ?_ | refine blk_alloc ?_ _)); exact BK101.out)) : gb102 ≠ gb101)); clear BK101; clear HB; have BK101 := n0_; have HB := n1_; have BK102 := n2_; have GW102 := n3_; have GE102 := n4_; have NB101_102 := n5_; have NB102_101 := n6_; clear n0_ n1_ n2_ n3_ n4_ n5_ n6_; clear hb hbox hg))
  have n0_ := Aside0.mk (blk_drew BK101.out)
  have n1_ := Aside0.mk (blk_drew BK102.out)
  have n2_ := Aside0.mk (below_drew1 HB.out)
  clear BK101
  clear BK102
  clear HB
  have BK101 := n0_
  have BK102 := n1_
  have HB := n2_
  clear n0_ n1_ n2_
  refine start_ (n := 14) (S := fun w' => w'.cell? ⟨gb101, 0, none⟩ = some (.int .i64 a0_0) ∧ w'.cell? ⟨gb101, 1, none⟩ = some (.int .i64 a0_1) ∧ w'.cell? ⟨gb101, 2, none⟩ = some (.int .i64 a0_2) ∧ w'.cell? ⟨gb101, 3, none⟩ = some (.int .i64 a0_3)) (ds := []) #[false, false, false, false, false, false, false, false, false, false, false, false, false, false] (by kernel_rfl) rfl rfl ⟨(blk_cell BK101.out 0).trans rfl, (blk_cell BK101.out 1).trans rfl, (blk_cell BK101.out 2).trans rfl, (blk_cell BK101.out 3).trans rfl⟩ (fun hHeld => ?_); refine with_tabW probe_Config_Clip.tab1 probe_Config_Clip.bits1 (fun HT_ HW_ => ?_)
  generalize w7.drew = w8 at BK101 BK102 HB hHeld ⊢
  refine pure_ (i := 0) (N := some 3) (v := ?_) (a' := ?_) #[true, false, false, false, false, false, false, false, false, false, false, false, false, false] rfl rfl (any_of HT_.out (by kernel_rfl)) (fun _ _ _ h => h) (Or.inl ⟨by rfl, ?_⟩) ?_ ?_
  rotate_left
  · intro w'
    go_simp
    with_reducible rfl
  rotate_left
  · simp only [Act.put, List.setIfInBounds_toArray, List.set_cons_zero, List.set_cons_succ, i64_w, i32_w]
    rfl
  refine pure_ (i := 3) (N := some 6) (v := ?_) (a' := ?_) #[true, false, false, true, false, false, false, false, false, false, false, false, false, false] rfl rfl (any_of HT_.out (by kernel_rfl)) (fun _ _ _ h => h) (Or.inl ⟨by rfl, ?_⟩) ?_ ?_
  rotate_left
  · intro w'
    go_simp
    with_reducible rfl
  rotate_left
  · simp only [Act.put, List.setIfInBounds_toArray, List.set_cons_zero, List.set_cons_succ, i64_w, i32_w]
    rfl
  refine pure_ (i := 6) (N := some 9) (v := ?_) (a' := ?_) #[true, false, false, true, false, false, true, false, false, false, false, false, false, false] rfl rfl (any_of HT_.out (by kernel_rfl)) (fun _ _ _ h => h) (Or.inl ⟨by rfl, ?_⟩) ?_ ?_
  rotate_left
  · intro w'
    go_simp
    with_reducible rfl
  rotate_left
  · simp only [Act.put, List.setIfInBounds_toArray, List.set_cons_zero, List.set_cons_succ, i64_w, i32_w]
    rfl
  refine pure_ (i := 9) (N := some 12) (v := ?_) (a' := ?_) #[true, false, false, true, false, false, true, false, false, true, false, false, false, false] rfl rfl (any_of HT_.out (by kernel_rfl)) (fun _ _ _ h => h) (Or.inl ⟨by rfl, ?_⟩) ?_ ?_
  rotate_left
  · intro w'
    go_simp
    with_reducible rfl
  rotate_left
  · simp only [Act.put, List.setIfInBounds_toArray, List.set_cons_zero, List.set_cons_succ, i64_w, i32_w]
    rfl
  refine take_ (i := 1) (N := some 4) (v := ?_) (a' := ?_) #[true, true, false, true, false, false, true, false, false, true, false, false, false, false] rfl rfl (take_ofW HT_.out HW_.out (by kernel_rfl)) (fun _ _ _ h => h) (Or.inl ⟨by rfl, ?_⟩) hHeld ?_ ?_
  rotate_left
  · rintro w' ⟨s0, s1, s2, s3⟩
    go_simp
    with_reducible rfl
  rotate_left
  · simp only [Act.put, List.setIfInBounds_toArray, List.set_cons_zero, List.set_cons_succ, i64_w, i32_w]
    rfl
  refine take_ (i := 4) (N := some 7) (v := ?_) (a' := ?_) #[true, true, false, true, true, false, true, false, false, true, false, false, false, false] rfl rfl (take_ofW HT_.out HW_.out (by kernel_rfl)) (fun _ _ _ h => h) (Or.inl ⟨by rfl, ?_⟩) hHeld ?_ ?_
  rotate_left
  · rintro w' ⟨s0, s1, s2, s3⟩
    go_simp
    with_reducible rfl
  rotate_left
  · simp only [Act.put, List.setIfInBounds_toArray, List.set_cons_zero, List.set_cons_succ, i64_w, i32_w]
    rfl
  refine take_ (i := 7) (N := some 10) (v := ?_) (a' := ?_) #[true, true, false, true, true, false, true, true, false, true, false, false, false, false] rfl rfl (take_ofW HT_.out HW_.out (by kernel_rfl)) (fun _ _ _ h => h) (Or.inl ⟨by rfl, ?_⟩) hHeld ?_ ?_
  rotate_left
  · rintro w' ⟨s0, s1, s2, s3⟩
    go_simp
    with_reducible rfl
  rotate_left
  · simp only [Act.put, List.setIfInBounds_toArray, List.set_cons_zero, List.set_cons_succ, i64_w, i32_w]
    rfl
  refine take_ (i := 10) (N := some 13) (v := ?_) (a' := ?_) #[true, true, false, true, true, false, true, true, false, true, true, false, false, false] rfl rfl (take_ofW HT_.out HW_.out (by kernel_rfl)) (fun _ _ _ h => h) (Or.inl ⟨by rfl, ?_⟩) hHeld ?_ ?_
  rotate_left
  · rintro w' ⟨s0, s1, s2, s3⟩
    go_simp
    with_reducible rfl
  rotate_left
  · simp only [Act.put, List.setIfInBounds_toArray, List.set_cons_zero, List.set_cons_succ, i64_w, i32_w]
    rfl
  refine one_ (i := 2) (N := some 5) #[true, true, true, true, true, false, true, true, false, true, true, false, false, false] rfl rfl (one_of HT_.out (by kernel_rfl)) (by decide) (fun K hK => ?_)
  refine goes_ Try.func49 (by kernel_rfl) rfl #[.int .i64 a0_0, .int .i64 1048576] (by rfl) rfl rfl (by (try simp only [List.map_toArray, List.map_cons, List.map_nil]); first | done | rfl | (simp only [List.length_drop, List.length_take]; rfl)) ?_
  with_reducible refine (probe_clip.calls a0_0 1048576 t103 _ A2.out).mono ?_
  rintro e w9 ⟨rfl, hb⟩
  refine ⟨_, rfl, ?_⟩
  have n0_ := Aside0.mk (blk_below (g := gb101) (o := .cells #[.int .i64 a0_0, .int .i64 a0_1, .int .i64 a0_2, .int .i64 a0_3] 26 (0, 0)) (by (with_reducible repeat (first | refine blk_drewN ?_ _ | refine blk_drew ?_ | refine blk_alloc ?_ _)); exact BK101.out) hb)
  have n1_ := Aside0.mk (blk_below (g := gb102) (o := .cells #[.int .i64 0, .int .i64 0, .int .i64 0, .int .i64 0] 26 (0, 0)) (by (with_reducible repeat (first | refine blk_drewN ?_ _ | refine blk_drew ?_ | refine blk_alloc ?_ _)); exact BK102.out) hb)
  have n2_ := Aside0.mk (below_step (by repeat (first | (with_reducible first | exact HB.out | apply below_alloc | apply pw_below_drewN | apply below_drew1 | refine below_set ?_ GE101.out | refine below_set ?_ GE102.out) | exact HB.out)) hb)
  clear BK101
  clear BK102
  clear HB
  have BK101 := n0_
  have BK102 := n1_
  have HB := n2_
  clear n0_ n1_ n2_
  (try clear hb)
  (try clear hb2)
  (try clear hk)
  (try clear hi)
  refine hK.out _ _ ⟨(blk_cell BK101.out 0).trans rfl, (blk_cell BK101.out 1).trans rfl, (blk_cell BK101.out 2).trans rfl, (blk_cell BK101.out 3).trans rfl⟩ (fun hHeld => ?_)
  clear hK K
  refine norm_ (a' := ?_) ?_ ?_
  rotate_left
  · show Act.put _ (some 5) _ = _
    simp only [Act.put, List.setIfInBounds_toArray, List.set_cons_zero, List.set_cons_succ, i64_w, i32_w]
    rfl
  refine one_ (i := 5) (N := some 8) #[true, true, true, true, true, true, true, true, false, true, true, false, false, false] rfl rfl (one_of HT_.out (by kernel_rfl)) (by decide) (fun K hK => ?_)
  refine goes_ Try.func49 (by kernel_rfl) rfl #[.int .i64 a0_1, .int .i64 1048576] (by rfl) rfl rfl (by (try simp only [List.map_toArray, List.map_cons, List.map_nil]); first | done | rfl | (simp only [List.length_drop, List.length_take]; rfl)) ?_
  with_reducible refine (probe_clip.calls a0_1 1048576 t104 _ A3.out).mono ?_
  rintro e w10 ⟨rfl, hb⟩
  refine ⟨_, rfl, ?_⟩
  have n0_ := Aside0.mk (blk_below (g := gb101) (o := .cells #[.int .i64 a0_0, .int .i64 a0_1, .int .i64 a0_2, .int .i64 a0_3] 26 (0, 0)) (by (with_reducible repeat (first | refine blk_drewN ?_ _ | refine blk_drew ?_ | refine blk_alloc ?_ _)); exact BK101.out) hb)
  have n1_ := Aside0.mk (blk_below (g := gb102) (o := .cells #[.int .i64 0, .int .i64 0, .int .i64 0, .int .i64 0] 26 (0, 0)) (by (with_reducible repeat (first | refine blk_drewN ?_ _ | refine blk_drew ?_ | refine blk_alloc ?_ _)); exact BK102.out) hb)
  have n2_ := Aside0.mk (below_step (by repeat (first | (with_reducible first | exact HB.out | apply below_alloc | apply pw_below_drewN | apply below_drew1 | refine below_set ?_ GE101.out | refine below_set ?_ GE102.out) | exact HB.out)) hb)
  clear BK101
  clear BK102
  clear HB
  have BK101 := n0_
  have BK102 := n1_
  have HB := n2_
  clear n0_ n1_ n2_
  (try clear hb)
  (try clear hb2)
  (try clear hk)
  (try clear hi)
  refine hK.out _ _ ⟨(blk_cell BK101.out 0).trans rfl, (blk_cell BK101.out 1).trans rfl, (blk_cell BK101.out 2).trans rfl, (blk_cell BK101.out 3).trans rfl⟩ (fun hHeld => ?_)
  clear hK K
  refine norm_ (a' := ?_) ?_ ?_
  rotate_left
  · show Act.put _ (some 8) _ = _
    simp only [Act.put, List.setIfInBounds_toArray, List.set_cons_zero, List.set_cons_succ, i64_w, i32_w]
    rfl
  refine one_ (i := 8) (N := some 11) #[true, true, true, true, true, true, true, true, true, true, true, false, false, false] rfl rfl (one_of HT_.out (by kernel_rfl)) (by decide) (fun K hK => ?_)
  refine goes_ Try.func49 (by kernel_rfl) rfl #[.int .i64 a0_2, .int .i64 1000] (by rfl) rfl rfl (by (try simp only [List.map_toArray, List.map_cons, List.map_nil]); first | done | rfl | (simp only [List.length_drop, List.length_take]; rfl)) ?_
  with_reducible refine (probe_clip.calls a0_2 1000 t105 _ A4.out).mono ?_
  rintro e w11 ⟨rfl, hb⟩
  refine ⟨_, rfl, ?_⟩
  have n0_ := Aside0.mk (blk_below (g := gb101) (o := .cells #[.int .i64 a0_0, .int .i64 a0_1, .int .i64 a0_2, .int .i64 a0_3] 26 (0, 0)) (by (with_reducible repeat (first | refine blk_drewN ?_ _ | refine blk_drew ?_ | refine blk_alloc ?_ _)); exact BK101.out) hb)
  have n1_ := Aside0.mk (blk_below (g := gb102) (o := .cells #[.int .i64 0, .int .i64 0, .int .i64 0, .int .i64 0] 26 (0, 0)) (by (with_reducible repeat (first | refine blk_drewN ?_ _ | refine blk_drew ?_ | refine blk_alloc ?_ _)); exact BK102.out) hb)
  have n2_ := Aside0.mk (below_step (by repeat (first | (with_reducible first | exact HB.out | apply below_alloc | apply pw_below_drewN | apply below_drew1 | refine below_set ?_ GE101.out | refine below_set ?_ GE102.out) | exact HB.out)) hb)
  clear BK101
  clear BK102
  clear HB
  have BK101 := n0_
  have BK102 := n1_
  have HB := n2_
  clear n0_ n1_ n2_
  (try clear hb)
  (try clear hb2)
  (try clear hk)
  (try clear hi)
  refine hK.out _ _ ⟨(blk_cell BK101.out 0).trans rfl, (blk_cell BK101.out 1).trans rfl, (blk_cell BK101.out 2).trans rfl, (blk_cell BK101.out 3).trans rfl⟩ (fun hHeld => ?_)
  clear hK K
  refine norm_ (a' := ?_) ?_ ?_
  rotate_left
  · show Act.put _ (some 11) _ = _
    simp only [Act.put, List.setIfInBounds_toArray, List.set_cons_zero, List.set_cons_succ, i64_w, i32_w]
    rfl
  refine one_ (i := 11) (N := some 14) #[true, true, true, true, true, true, true, true, true, true, true, true, false, false] rfl rfl (one_of HT_.out (by kernel_rfl)) (by decide) (fun K hK => ?_)
  refine goes_ Try.func49 (by kernel_rfl) rfl #[.int .i64 a0_3, .int .i64 1000] (by rfl) rfl rfl (by (try simp only [List.map_toArray, List.map_cons, List.map_nil]); first | done | rfl | (simp only [List.length_drop, List.length_take]; rfl)) ?_
  with_reducible refine (probe_clip.calls a0_3 1000 t106 _ A5.out).mono ?_
  rintro e w12 ⟨rfl, hb⟩
  refine ⟨_, rfl, ?_⟩
  have n0_ := Aside0.mk (blk_below (g := gb101) (o := .cells #[.int .i64 a0_0, .int .i64 a0_1, .int .i64 a0_2, .int .i64 a0_3] 26 (0, 0)) (by (with_reducible repeat (first | refine blk_drewN ?_ _ | refine blk_drew ?_ | refine blk_alloc ?_ _)); exact BK101.out) hb)
  have n1_ := Aside0.mk (blk_below (g := gb102) (o := .cells #[.int .i64 0, .int .i64 0, .int .i64 0, .int .i64 0] 26 (0, 0)) (by (with_reducible repeat (first | refine blk_drewN ?_ _ | refine blk_drew ?_ | refine blk_alloc ?_ _)); exact BK102.out) hb)
  have n2_ := Aside0.mk (below_step (by repeat (first | (with_reducible first | exact HB.out | apply below_alloc | apply pw_below_drewN | apply below_drew1 | refine below_set ?_ GE101.out | refine below_set ?_ GE102.out) | exact HB.out)) hb)
  clear BK101
  clear BK102
  clear HB
  have BK101 := n0_
  have BK102 := n1_
  have HB := n2_
  clear n0_ n1_ n2_
  (try clear hb)
  (try clear hb2)
  (try clear hk)
  (try clear hi)
  refine hK.out _ _ ⟨(blk_cell BK101.out 0).trans rfl, (blk_cell BK101.out 1).trans rfl, (blk_cell BK101.out 2).trans rfl, (blk_cell BK101.out 3).trans rfl⟩ (fun hHeld => ?_)
  clear hK K
  refine norm_ (a' := ?_) ?_ ?_
  rotate_left
  · show Act.put _ (some 14) _ = _
    simp only [Act.put, List.setIfInBounds_toArray, List.set_cons_zero, List.set_cons_succ, i64_w, i32_w]
    rfl
  refine pure_ (i := 12) (N := some 15) (v := ?_) (a' := ?_) #[true, true, true, true, true, true, true, true, true, true, true, true, true, false] rfl rfl (any_of HT_.out (by kernel_rfl)) (fun _ _ _ h => h) (Or.inl ⟨by rfl, ?_⟩) ?_ ?_
  rotate_left
  · intro w'
    go_simp
    with_reducible rfl
  rotate_left
  · simp only [Act.put, List.setIfInBounds_toArray, List.set_cons_zero, List.set_cons_succ, i64_w, i32_w]
    rfl
  refine one_ (i := 13) (N := none) #[true, true, true, true, true, true, true, true, true, true, true, true, true, true] rfl rfl (one_of HT_.out (by kernel_rfl)) (by decide) (fun K hK => ?_)
  have hs13 : w12.cell? ⟨gb102, 0, none⟩ = some (.int .i64 0) := (blk_cell BK102.out 0).trans rfl
  have hfs13 := blk_frozen BK102.out 0
  have hns13_0 := NB101_102.out
  have hms13_0 := NB102_101.out
  have hs14 : w12.cell? ⟨gb102, 1, none⟩ = some (.int .i64 0) := (blk_cell BK102.out 1).trans rfl
  have hfs14 := blk_frozen BK102.out 1
  have hns14_0 := NB101_102.out
  have hms14_0 := NB102_101.out
  have hs15 : w12.cell? ⟨gb102, 2, none⟩ = some (.int .i64 0) := (blk_cell BK102.out 2).trans rfl
  have hfs15 := blk_frozen BK102.out 2
  have hns15_0 := NB101_102.out
  have hms15_0 := NB102_101.out
  have hs16 : w12.cell? ⟨gb102, 3, none⟩ = some (.int .i64 0) := (blk_cell BK102.out 3).trans rfl
  have hfs16 := blk_frozen BK102.out 3
  have hns16_0 := NB101_102.out
  have hms16_0 := NB102_101.out
  refine skip_ (w1 := ?_) (by rfl) rfl ?_ ?_
  rotate_left
  · go_simp
    rfl
  refine hK.out _ _ ⟨((cell_far (p := ⟨gb102, _, none⟩) NB101_102.out _).trans (((cell_far (p := ⟨gb102, _, none⟩) NB101_102.out _).trans (((cell_far (p := ⟨gb102, _, none⟩) NB101_102.out _).trans (((cell_far (p := ⟨gb102, _, none⟩) NB101_102.out _).trans (hHeld.1)))))))), ((cell_far (p := ⟨gb102, _, none⟩) NB101_102.out _).trans (((cell_far (p := ⟨gb102, _, none⟩) NB101_102.out _).trans (((cell_far (p := ⟨gb102, _, none⟩) NB101_102.out _).trans (((cell_far (p := ⟨gb102, _, none⟩) NB101_102.out _).trans (hHeld.2.1)))))))), ((cell_far (p := ⟨gb102, _, none⟩) NB101_102.out _).trans (((cell_far (p := ⟨gb102, _, none⟩) NB101_102.out _).trans (((cell_far (p := ⟨gb102, _, none⟩) NB101_102.out _).trans (((cell_far (p := ⟨gb102, _, none⟩) NB101_102.out _).trans (hHeld.2.2.1)))))))), ((cell_far (p := ⟨gb102, _, none⟩) NB101_102.out _).trans (((cell_far (p := ⟨gb102, _, none⟩) NB101_102.out _).trans (((cell_far (p := ⟨gb102, _, none⟩) NB101_102.out _).trans (((cell_far (p := ⟨gb102, _, none⟩) NB101_102.out _).trans (hHeld.2.2.2))))))))⟩ (fun hHeld => ?_)
  clear hK K
  refine done_ (done_of HT_.out (by kernel_rfl)) ?_
  try go_wp2
  refine bodyPost_ret (results_cell_row rfl _ _ gb102 26 #[.int .i64 t103, .int .i64 t104, .int .i64 t105, .int .i64 t106] (0, 0) _ rfl (by (with_reducible repeat (first | refine blk_drewN ?_ _ | refine blk_drew ?_ | refine blk_alloc ?_ _)); refine blk_put (cs := #[.int .i64 t103, .int .i64 t104, .int .i64 t105, .int .i64 0]) ?_ 3 _ rfl; (with_reducible repeat (first | refine blk_drewN ?_ _ | refine blk_drew ?_ | refine blk_alloc ?_ _)); refine blk_put (cs := #[.int .i64 t103, .int .i64 t104, .int .i64 0, .int .i64 0]) ?_ 2 _ rfl; (with_reducible repeat (first | refine blk_drewN ?_ _ | refine blk_drew ?_ | refine blk_alloc ?_ _)); refine blk_put (cs := #[.int .i64 t103, .int .i64 0, .int .i64 0, .int .i64 0]) ?_ 1 _ rfl; (with_reducible repeat (first | refine blk_drewN ?_ _ | refine blk_drew ?_ | refine blk_alloc ?_ _)); refine blk_put (cs := #[.int .i64 0, .int .i64 0, .int .i64 0, .int .i64 0]) ?_ 0 _ rfl; (with_reducible repeat (first | refine blk_drewN ?_ _ | refine blk_drew ?_ | refine blk_alloc ?_ _)); exact BK102.out) Try.underlying26 rfl (by kernel_rfl)) rfl ?_
  exact ⟨by first | rfl | (simp [errW_none, errW_some] <;> rfl) | (simp [*, errW_none, errW_some] <;> rfl), by repeat (first | (with_reducible first | exact HB.out | apply below_alloc | apply pw_below_drewN | apply below_drew1 | refine below_set ?_ GE101.out | refine below_set ?_ GE102.out) | exact HB.out)⟩

-- NOT PRINTED: function 27 (agenda_New_string)

-- NOT PRINTED: function 7 (health_New)

/-! ### health_tick: function 28 -/
def health_tick.f (a0 : Int) : Option (Int) := some (mx 0 (mn a0 1099511627776))
set_option maxHeartbeats 8000000 in
set_option maxRecDepth 100000 in
theorem health_tick.calls (a0 : Int) (r : Int) (w : World) (h : health_tick.f a0 = some r) :
    Calls Try.prog 28 #[.int .i64 a0] w fun e w' => e = .returned (.int .i64 r) ∧ Below w.heap.size w w' := by
  have HB := Aside0.mk (Below.refl w.heap.size w)
  have H : (some (mx 0 (mn a0 1099511627776))) = some r := h
  clear h
  obtain ⟨ji2, hji2⟩ : ∃ j_ : Int, (mn a0 1099511627776) = j_ := ⟨_, rfl⟩
  replace H : (some (mx 0 (ji2))) = some r := by first | (rw [hji2] at H; exact H) | (simp only [hji2] at H ⊢; exact H)
  (try (have hji2h : ji2 ≤ 1099511627776 := by (rw [← hji2]; unfold mn; (repeat' split) <;> omega)))
  (try (have hji2g : ji2 ≤ 64 := by omega))
  have hji2_ : (if 1099511627776 < a0 then 1099511627776 else a0) = ji2 := hji2
  obtain ⟨ji3, hji3⟩ : ∃ j_ : Int, (mx 0 (ji2)) = j_ := ⟨_, rfl⟩
  replace H : (some ji3) = some r := by first | (rw [hji3] at H; exact H) | (simp only [hji3] at H ⊢; exact H)
  have hji3_ : (if 0 < (ji2) then (ji2) else 0) = ji3 := hji3
  obtain rfl := Option.some.inj H
  go_enter Try.func28, Try.ntmps28
  go_wp2
  go_ret
  exact ⟨by first | rfl | (simp [errW_none, errW_some] <;> rfl) | (simp only [← hji2, ← hji3]; first | rfl | (simp [errW_none, errW_some] <;> rfl)) | (simp [*, errW_none, errW_some] <;> rfl), by repeat (first | (with_reducible first | exact HB.out | apply below_alloc | apply pw_below_drewN | apply below_drew1) | exact HB.out)⟩

/-! ### probe_New: function 29 -/
def probe_New.f (a0 : Bool) (a1 : Int) : Option (Bool × Int × Int × Int) := some (a0, 0, 0, a1)
set_option maxHeartbeats 8000000 in
set_option maxRecDepth 100000 in
theorem probe_New.calls (a0 : Bool) (a1 : Int) (r1 : Bool) (r2 : Int) (r3 : Int) (r4 : Int) (w : World) (h : probe_New.f a0 a1 = some (r1, r2, r3, r4)) :
    Calls Try.prog 29 #[.bool a0, .int .i64 a1] w fun e w' => e = .returned (.agg #[.bool r1, .int .i64 r2, .int .i64 r3, .int .i64 r4]) ∧ Below w.heap.size w w' := by
  have hu75 := Try.underlying75
  have HB := Aside0.mk (Below.refl w.heap.size w)
  have H : (some (a0, 0, 0, a1)) = some (r1, r2, r3, r4) := h
  clear h
  simp only [Option.some.injEq, Prod.mk.injEq] at H
  obtain ⟨rfl, rfl, rfl, rfl⟩ := H
  go_enter Try.func29, Try.ntmps29
  go_wp2_with (first | ((with_reducible refine gate_dst (N := 4) rfl ?_); refine box_event ?hg (N := 4) ?hd (cs := #[.bool false, .int .i64 0, .int .i64 0, .int .i64 0]) (t := 75) ?hr ?_; (case hd => rfl); (case hg => rfl); (case hr => first | (go_simp; done) | (go_simp; rfl)); intro gb107 hg w3 hbox hb; have n0_ := Aside0.mk (below_step (by repeat (first | (with_reducible first | exact HB.out | apply below_alloc | apply pw_below_drewN | apply below_drew1) | exact HB.out)) hb); have n1_ := Aside0.mk (hbox); have n2_ := Aside0.mk ((by rw [hg]; exact (below_size (by repeat (first | (with_reducible first | exact HB.out | apply below_alloc | apply pw_below_drewN | apply below_drew1) | exact HB.out))) : w.heap.size ≤ gb107)); have n3_ := Aside0.mk ((by rw [hg]; exact (below_size (by repeat (first | (with_reducible first | exact HB.out | apply below_alloc | apply pw_below_drewN | apply below_drew1) | exact HB.out))) : w.heap.size ≤ gb107)); clear HB; have HB := n0_; have BK107 := n1_; have GW107 := n2_; have GE107 := n3_; clear n0_ n1_ n2_ n3_; clear hb hbox hg; have hcz4_0 : w3.cell? ⟨gb107, 0, none⟩ = some (.bool false) := (blk_cell BK107.out 0).trans rfl; have hcz4_1 : w3.cell? ⟨gb107, 1, none⟩ = some (.int .i64 0) := (blk_cell BK107.out 1).trans rfl; have hcz4_2 : w3.cell? ⟨gb107, 2, none⟩ = some (.int .i64 0) := (blk_cell BK107.out 2).trans rfl; have hcz4_3 : w3.cell? ⟨gb107, 3, none⟩ = some (.int .i64 0) := (blk_cell BK107.out 3).trans rfl; have hfz4_0 := blk_frozen BK107.out 0; have hfz4_1 := blk_frozen BK107.out 1; have hfz4_2 := blk_frozen BK107.out 2; have hfz4_3 := blk_frozen BK107.out 3))
  refine bodyPost_ret (results_cell_row rfl _ _ gb107 75 #[.bool a0, .int .i64 0, .int .i64 0, .int .i64 a1] (0, 0) _ rfl (by (with_reducible repeat (first | refine blk_drewN ?_ _ | refine blk_drew ?_ | refine blk_alloc ?_ _)); refine blk_put (cs := #[.bool a0, .int .i64 0, .int .i64 0, .int .i64 0]) ?_ 3 _ rfl; (with_reducible repeat (first | refine blk_drewN ?_ _ | refine blk_drew ?_ | refine blk_alloc ?_ _)); refine blk_put (cs := #[.bool a0, .int .i64 0, .int .i64 0, .int .i64 0]) ?_ 2 _ rfl; (with_reducible repeat (first | refine blk_drewN ?_ _ | refine blk_drew ?_ | refine blk_alloc ?_ _)); refine blk_put (cs := #[.bool a0, .int .i64 0, .int .i64 0, .int .i64 0]) ?_ 1 _ rfl; (with_reducible repeat (first | refine blk_drewN ?_ _ | refine blk_drew ?_ | refine blk_alloc ?_ _)); refine blk_put (cs := #[.bool false, .int .i64 0, .int .i64 0, .int .i64 0]) ?_ 0 _ rfl; (with_reducible repeat (first | refine blk_drewN ?_ _ | refine blk_drew ?_ | refine blk_alloc ?_ _)); exact BK107.out) Try.underlying75 rfl (by kernel_rfl)) rfl ?_
  exact ⟨by first | rfl | (simp [errW_none, errW_some] <;> rfl) | (simp [*, errW_none, errW_some] <;> rfl), by repeat (first | (with_reducible first | exact HB.out | apply below_alloc | apply pw_below_drewN | apply below_drew1 | refine below_set ?_ GE107.out) | exact HB.out)⟩

-- NOT PRINTED: function 67 (heap_down)

-- NOT PRINTED: function 72 (heap_up)

-- NOT PRINTED: function 56 (heap_Remove)

-- NOT PRINTED: function 40 (agenda_Agenda_string_Drop)

-- NOT PRINTED: function 65 (heap_Fix)

-- NOT PRINTED: function 66 (heap_Push)

-- NOT PRINTED: function 50 (agenda_Agenda_string_Set)

-- NOT PRINTED: function 30 (health_Health_set)

-- NOT PRINTED: function 8 (health_Health_Add)

-- NOT PRINTED: function 31 (agenda_Agenda_string_First)

-- NOT PRINTED: function 9 (health_Health_First)

-- NOT PRINTED: function 51 (heap_Pop)

-- NOT PRINTED: function 32 (agenda_Agenda_string_Pop)

-- NOT PRINTED: function 34 (health_Health_result)

-- NOT PRINTED: function 33 (health_Health_turn)

-- NOT PRINTED: function 10 (health_Health_Run)

-- NOT PRINTED: function 11 (health_Health_Waits)

-- NOT PRINTED: function 12 (health_Health_Result)

-- NOT PRINTED: function 13 (health_Health_Up)

/-! ### ramp_clip: function 37 -/
def ramp_clip.f (a0 : Int) (a1 : Int) (a2 : Int) : Option (Int) := some (mx a1 (mn a0 a2))
set_option maxHeartbeats 8000000 in
set_option maxRecDepth 100000 in
theorem ramp_clip.calls (a0 : Int) (a1 : Int) (a2 : Int) (r : Int) (w : World) (h : ramp_clip.f a0 a1 a2 = some r) :
    Calls Try.prog 37 #[.int .i64 a0, .int .i64 a1, .int .i64 a2] w fun e w' => e = .returned (.int .i64 r) ∧ Below w.heap.size w w' := by
  have HB := Aside0.mk (Below.refl w.heap.size w)
  have H : (some (mx a1 (mn a0 a2))) = some r := h
  clear h
  obtain ⟨ji4, hji4⟩ : ∃ j_ : Int, (mn a0 a2) = j_ := ⟨_, rfl⟩
  replace H : (some (mx a1 (ji4))) = some r := by first | (rw [hji4] at H; exact H) | (simp only [hji4] at H ⊢; exact H)
  have hji4_ : (if a2 < a0 then a2 else a0) = ji4 := hji4
  obtain ⟨ji5, hji5⟩ : ∃ j_ : Int, (mx a1 (ji4)) = j_ := ⟨_, rfl⟩
  replace H : (some ji5) = some r := by first | (rw [hji5] at H; exact H) | (simp only [hji5] at H ⊢; exact H)
  have hji5_ : (if a1 < (ji4) then (ji4) else a1) = ji5 := hji5
  obtain rfl := Option.some.inj H
  go_enter Try.func37, Try.ntmps37
  go_wp2
  go_ret
  exact ⟨by first | rfl | (simp [errW_none, errW_some] <;> rfl) | (simp only [← hji4, ← hji5]; first | rfl | (simp [errW_none, errW_some] <;> rfl)) | (simp [*, errW_none, errW_some] <;> rfl), by repeat (first | (with_reducible first | exact HB.out | apply below_alloc | apply pw_below_drewN | apply below_drew1) | exact HB.out)⟩

/-! ### ramp_of: function 35 -/
def ramp_of.f (a0 : Int) (a1 : Int) (a2 : Int) : Option (Int × Int × Int) := (ramp_clip.f a0 1 65535).bind fun t109 => ((ramp_clip.f a1 0 1099511627776).bind fun t110 => ((ramp_clip.f a2 0 1048576).bind fun t111 => (some (t109, t110, t111))))
set_option maxHeartbeats 8000000 in
set_option maxRecDepth 100000 in
theorem ramp_of.calls (a0 : Int) (a1 : Int) (a2 : Int) (r1 : Int) (r2 : Int) (r3 : Int) (w : World) (h : ramp_of.f a0 a1 a2 = some (r1, r2, r3)) :
    Calls Try.prog 35 #[.int .i64 a0, .int .i64 a1, .int .i64 a2] w fun e w' => e = .returned (.agg #[.int .i64 r1, .int .i64 r2, .int .i64 r3]) ∧ Below w.heap.size w w' := by
  have hu87 := Try.underlying87
  have HB := Aside0.mk (Below.refl w.heap.size w)
  have H : ((ramp_clip.f a0 1 65535).bind fun t109 => ((ramp_clip.f a1 0 1099511627776).bind fun t110 => ((ramp_clip.f a2 0 1048576).bind fun t111 => (some (t109, t110, t111))))) = some (r1, r2, r3) := h
  clear h
  replace H := Option.bind_eq_some_iff.mp H
  obtain ⟨t109, A40, H⟩ := H
  replace H : ((ramp_clip.f a1 0 1099511627776).bind fun t110 => ((ramp_clip.f a2 0 1048576).bind fun t111 => (some (t109, t110, t111)))) = some (r1, r2, r3) := H
  have A4 := Aside0.mk A40
  clear A40
  replace H := Option.bind_eq_some_iff.mp H
  obtain ⟨t110, A50, H⟩ := H
  replace H : ((ramp_clip.f a2 0 1048576).bind fun t111 => (some (t109, t110, t111))) = some (r1, r2, r3) := H
  have A5 := Aside0.mk A50
  clear A50
  replace H := Option.bind_eq_some_iff.mp H
  obtain ⟨t111, A60, H⟩ := H
  replace H : (some (t109, t110, t111)) = some (r1, r2, r3) := H
  have A6 := Aside0.mk A60
  clear A60
  simp only [Option.some.injEq, Prod.mk.injEq] at H
  obtain ⟨rfl, rfl, rfl⟩ := H
  go_enter Try.func35, Try.ntmps35
  go_wp2_with (first | ((with_reducible refine gate_dst (N := 6) rfl ?_); refine box_event ?hg (N := 6) ?hd (cs := #[.int .i64 0, .int .i64 0, .int .i64 0]) (t := 87) ?hr ?_; (case hd => rfl); (case hg => rfl); (case hr => first | (go_simp; done) | (go_simp; rfl)); intro gb108 hg w7 hbox hb; have n0_ := Aside0.mk (below_step (by repeat (first | (with_reducible first | exact HB.out | apply below_alloc | apply pw_below_drewN | apply below_drew1) | exact HB.out)) hb); have n1_ := Aside0.mk (hbox); have n2_ := Aside0.mk ((by rw [hg]; exact (below_size (by repeat (first | (with_reducible first | exact HB.out | apply below_alloc | apply pw_below_drewN | apply below_drew1) | exact HB.out))) : w.heap.size ≤ gb108)); have n3_ := Aside0.mk ((by rw [hg]; exact (below_size (by repeat (first | (with_reducible first | exact HB.out | apply below_alloc | apply pw_below_drewN | apply below_drew1) | exact HB.out))) : w.heap.size ≤ gb108)); clear HB; have HB := n0_; have BK108 := n1_; have GW108 := n2_; have GE108 := n3_; clear n0_ n1_ n2_ n3_; clear hb hbox hg) | ((with_reducible refine gate_callee (f := 37) rfl ?_); refine goesL_ (some 8) rfl rfl Try.func37 (by kernel_rfl) rfl #[.int .i64 a0, .int .i64 1, .int .i64 65535] rfl (by (try simp only [List.map_toArray, List.map_cons, List.map_nil]); first | done | rfl | (simp only [List.length_drop, List.length_take]; rfl)) ?_; (with_reducible refine (ramp_clip.calls a0 1 65535 t109 _ A4.out).mono ?_); rintro e w8 ⟨rfl, hb⟩; refine ⟨_, rfl, ?_⟩; have n0_ := Aside0.mk (blk_below (g := gb108) (o := .cells #[.int .i64 0, .int .i64 0, .int .i64 0] 87 (0, 0)) (by (with_reducible repeat (first | refine blk_drewN ?_ _ | refine blk_drew ?_ | refine blk_alloc ?_ _)); exact BK108.out) hb); have n1_ := Aside0.mk (below_step (by repeat (first | (with_reducible first | exact HB.out | apply below_alloc | apply pw_below_drewN | apply below_drew1 | refine below_set ?_ GE108.out) | exact HB.out)) hb); clear BK108; clear HB; have BK108 := n0_; have HB := n1_; clear n0_ n1_; (try clear hb); (try clear hb2); (try clear hk); (try clear hi)) | ((with_reducible refine gate_callee (f := 37) rfl ?_); refine goesL_ (some 10) rfl rfl Try.func37 (by kernel_rfl) rfl #[.int .i64 a1, .int .i64 0, .int .i64 1099511627776] rfl (by (try simp only [List.map_toArray, List.map_cons, List.map_nil]); first | done | rfl | (simp only [List.length_drop, List.length_take]; rfl)) ?_; (with_reducible refine (ramp_clip.calls a1 0 1099511627776 t110 _ A5.out).mono ?_); rintro e w9 ⟨rfl, hb⟩; refine ⟨_, rfl, ?_⟩; have n0_ := Aside0.mk (blk_below (g := gb108) (o := .cells #[.int .i64 0, .int .i64 0, .int .i64 0] 87 (0, 0)) (by (with_reducible repeat (first | refine blk_drewN ?_ _ | refine blk_drew ?_ | refine blk_alloc ?_ _)); exact BK108.out) hb); have n1_ := Aside0.mk (below_step (by repeat (first | (with_reducible first | exact HB.out | apply below_alloc | apply pw_below_drewN | apply below_drew1 | refine below_set ?_ GE108.out) | exact HB.out)) hb); clear BK108; clear HB; have BK108 := n0_; have HB := n1_; clear n0_ n1_; (try clear hb); (try clear hb2); (try clear hk); (try clear hi)) | ((with_reducible refine gate_callee (f := 37) rfl ?_); refine goesL_ (some 12) rfl rfl Try.func37 (by kernel_rfl) rfl #[.int .i64 a2, .int .i64 0, .int .i64 1048576] rfl (by (try simp only [List.map_toArray, List.map_cons, List.map_nil]); first | done | rfl | (simp only [List.length_drop, List.length_take]; rfl)) ?_; (with_reducible refine (ramp_clip.calls a2 0 1048576 t111 _ A6.out).mono ?_); rintro e w10 ⟨rfl, hb⟩; refine ⟨_, rfl, ?_⟩; have n0_ := Aside0.mk (blk_below (g := gb108) (o := .cells #[.int .i64 0, .int .i64 0, .int .i64 0] 87 (0, 0)) (by (with_reducible repeat (first | refine blk_drewN ?_ _ | refine blk_drew ?_ | refine blk_alloc ?_ _)); exact BK108.out) hb); have n1_ := Aside0.mk (below_step (by repeat (first | (with_reducible first | exact HB.out | apply below_alloc | apply pw_below_drewN | apply below_drew1 | refine below_set ?_ GE108.out) | exact HB.out)) hb); clear BK108; clear HB; have BK108 := n0_; have HB := n1_; clear n0_ n1_; (try clear hb); (try clear hb2); (try clear hk); (try clear hi); have hcz11_0 : w10.cell? ⟨gb108, 0, none⟩ = some (.int .i64 0) := (blk_cell BK108.out 0).trans rfl; have hcz11_1 : w10.cell? ⟨gb108, 1, none⟩ = some (.int .i64 0) := (blk_cell BK108.out 1).trans rfl; have hcz11_2 : w10.cell? ⟨gb108, 2, none⟩ = some (.int .i64 0) := (blk_cell BK108.out 2).trans rfl; have hfz11_0 := blk_frozen BK108.out 0; have hfz11_1 := blk_frozen BK108.out 1; have hfz11_2 := blk_frozen BK108.out 2))
  refine bodyPost_ret (results_cell_row rfl _ _ gb108 87 #[.int .i64 t109, .int .i64 t110, .int .i64 t111] (0, 0) _ rfl (by (with_reducible repeat (first | refine blk_drewN ?_ _ | refine blk_drew ?_ | refine blk_alloc ?_ _)); refine blk_put (cs := #[.int .i64 t109, .int .i64 t110, .int .i64 0]) ?_ 2 _ rfl; (with_reducible repeat (first | refine blk_drewN ?_ _ | refine blk_drew ?_ | refine blk_alloc ?_ _)); refine blk_put (cs := #[.int .i64 t109, .int .i64 0, .int .i64 0]) ?_ 1 _ rfl; (with_reducible repeat (first | refine blk_drewN ?_ _ | refine blk_drew ?_ | refine blk_alloc ?_ _)); refine blk_put (cs := #[.int .i64 0, .int .i64 0, .int .i64 0]) ?_ 0 _ rfl; (with_reducible repeat (first | refine blk_drewN ?_ _ | refine blk_drew ?_ | refine blk_alloc ?_ _)); exact BK108.out) Try.underlying87 rfl (by kernel_rfl)) rfl ?_
  exact ⟨by first | rfl | (simp [errW_none, errW_some] <;> rfl) | (simp [*, errW_none, errW_some] <;> rfl), by repeat (first | (with_reducible first | exact HB.out | apply below_alloc | apply pw_below_drewN | apply below_drew1 | refine below_set ?_ GE108.out) | exact HB.out)⟩

/-! ### ramp_slope_at: function 36 -/
def ramp_slope_at.f (a0_0 : Int) (a0_1 : Int) (a0_2 : Int) (a1 : Int) : Option (Int) := if a0_2 = 0 then (some a0_0) else (if a1 ≥ a0_2 then (some a0_0) else (some (mx 1 (wrap64 (Int.tdiv (wrap64 (a0_0 * (mx 0 a1))) a0_2)))))
set_option maxHeartbeats 8000000 in
set_option maxRecDepth 100000 in
theorem ramp_slope_at.calls (a0_0 : Int) (a0_1 : Int) (a0_2 : Int) (a1 : Int) (r : Int) (w : World) (h : ramp_slope_at.f a0_0 a0_1 a0_2 a1 = some r) :
    Calls Try.prog 36 #[.agg #[.int .i64 a0_0, .int .i64 a0_1, .int .i64 a0_2], .int .i64 a1] w fun e w' => e = .returned (.int .i64 r) ∧ Below w.heap.size w w' := by
  have hu87 := Try.underlying87
  have HB := Aside0.mk (Below.refl w.heap.size w)
  have H : (if a0_2 = 0 then (some a0_0) else (if a1 ≥ a0_2 then (some a0_0) else (some (mx 1 (wrap64 (Int.tdiv (wrap64 (a0_0 * (mx 0 a1))) a0_2)))))) = some r := h
  clear h
  by_cases c3 : a0_2 = 0
  · rw [if_pos c3] at H
    have c3b0 : (a0_2 == 0) = true := beq_iff_eq.mpr c3
    have c3b1 : (a0_2 != 0) = false := bne_eq_false_iff_eq.mpr c3
    clear c3
    obtain rfl := Option.some.inj H
    go_enter Try.func36, Try.ntmps36
    go_wp2_with (first | ((with_reducible refine gate_dst (N := 2) rfl ?_); refine box_event ?hg (N := 2) ?hd (cs := #[.int .i64 a0_0, .int .i64 a0_1, .int .i64 a0_2]) (t := 87) ?hr ?_; (case hd => rfl); (case hg => rfl); (case hr => first | (go_simp; done) | (go_simp; rfl)); intro gb112 hg w4 hbox hb; have n0_ := Aside0.mk (below_step (by repeat (first | (with_reducible first | exact HB.out | apply below_alloc | apply pw_below_drewN | apply below_drew1) | exact HB.out)) hb); have n1_ := Aside0.mk (hbox); have n2_ := Aside0.mk ((by rw [hg]; exact (below_size (by repeat (first | (with_reducible first | exact HB.out | apply below_alloc | apply pw_below_drewN | apply below_drew1) | exact HB.out))) : w.heap.size ≤ gb112)); have n3_ := Aside0.mk ((by rw [hg]; exact (below_size (by repeat (first | (with_reducible first | exact HB.out | apply below_alloc | apply pw_below_drewN | apply below_drew1) | exact HB.out))) : w.heap.size ≤ gb112)); clear HB; have HB := n0_; have BK112 := n1_; have GW112 := n2_; have GE112 := n3_; clear n0_ n1_ n2_ n3_; clear hb hbox hg; have hcz5_0 : w4.cell? ⟨gb112, 0, none⟩ = some (.int .i64 a0_0) := (blk_cell BK112.out 0).trans rfl; have hcz5_1 : w4.cell? ⟨gb112, 1, none⟩ = some (.int .i64 a0_1) := (blk_cell BK112.out 1).trans rfl; have hcz5_2 : w4.cell? ⟨gb112, 2, none⟩ = some (.int .i64 a0_2) := (blk_cell BK112.out 2).trans rfl; have hfz5_0 := blk_frozen BK112.out 0; have hfz5_1 := blk_frozen BK112.out 1; have hfz5_2 := blk_frozen BK112.out 2))
    go_ret
    exact ⟨by first | rfl | (simp [errW_none, errW_some] <;> rfl) | (simp [*, errW_none, errW_some] <;> rfl), by repeat (first | (with_reducible first | exact HB.out | apply below_alloc | apply pw_below_drewN | apply below_drew1 | refine below_set ?_ GE112.out) | exact HB.out)⟩
  · rw [if_neg c3] at H
    have c3b0 : (a0_2 == 0) = false := beq_eq_false_iff_ne.mpr c3
    have c3b1 : (a0_2 != 0) = true := bne_iff_ne.mpr c3
    by_cases c6 : a1 ≥ a0_2
    · rw [if_pos c6] at H
      have c6b0 : decide (a0_2 ≤ a1) = true := decide_eq_true c6
      clear c6
      obtain rfl := Option.some.inj H
      go_enter Try.func36, Try.ntmps36
      go_wp2_with (first | ((with_reducible refine gate_dst (N := 2) rfl ?_); refine box_event ?hg (N := 2) ?hd (cs := #[.int .i64 a0_0, .int .i64 a0_1, .int .i64 a0_2]) (t := 87) ?hr ?_; (case hd => rfl); (case hg => rfl); (case hr => first | (go_simp; done) | (go_simp; rfl)); intro gb112 hg w7 hbox hb; have n0_ := Aside0.mk (below_step (by repeat (first | (with_reducible first | exact HB.out | apply below_alloc | apply pw_below_drewN | apply below_drew1) | exact HB.out)) hb); have n1_ := Aside0.mk (hbox); have n2_ := Aside0.mk ((by rw [hg]; exact (below_size (by repeat (first | (with_reducible first | exact HB.out | apply below_alloc | apply pw_below_drewN | apply below_drew1) | exact HB.out))) : w.heap.size ≤ gb112)); have n3_ := Aside0.mk ((by rw [hg]; exact (below_size (by repeat (first | (with_reducible first | exact HB.out | apply below_alloc | apply pw_below_drewN | apply below_drew1) | exact HB.out))) : w.heap.size ≤ gb112)); clear HB; have HB := n0_; have BK112 := n1_; have GW112 := n2_; have GE112 := n3_; clear n0_ n1_ n2_ n3_; clear hb hbox hg; have hcz8_0 : w7.cell? ⟨gb112, 0, none⟩ = some (.int .i64 a0_0) := (blk_cell BK112.out 0).trans rfl; have hcz8_1 : w7.cell? ⟨gb112, 1, none⟩ = some (.int .i64 a0_1) := (blk_cell BK112.out 1).trans rfl; have hcz8_2 : w7.cell? ⟨gb112, 2, none⟩ = some (.int .i64 a0_2) := (blk_cell BK112.out 2).trans rfl; have hfz8_0 := blk_frozen BK112.out 0; have hfz8_1 := blk_frozen BK112.out 1; have hfz8_2 := blk_frozen BK112.out 2))
      go_ret
      exact ⟨by first | rfl | (simp [errW_none, errW_some] <;> rfl) | (simp [*, errW_none, errW_some] <;> rfl), by repeat (first | (with_reducible first | exact HB.out | apply below_alloc | apply pw_below_drewN | apply below_drew1 | refine below_set ?_ GE112.out) | exact HB.out)⟩
    · rw [if_neg c6] at H
      have c6b0 : decide (a0_2 ≤ a1) = false := decide_eq_false c6
      clear c6
      obtain ⟨ji9, hji9⟩ : ∃ j_ : Int, (mx 0 a1) = j_ := ⟨_, rfl⟩
      replace H : (some (mx 1 (wrap64 (Int.tdiv (wrap64 (a0_0 * (ji9))) a0_2)))) = some r := by first | (rw [hji9] at H; exact H) | (simp only [hji9] at H ⊢; exact H)
      (try (have hji9l : 0 ≤ ji9 := by (rw [← hji9]; unfold mx; (repeat' split) <;> omega)))
      (try (have hji9m : 0 ≤ ji9 := by omega))
      have hji9_ : (if 0 < a1 then a1 else 0) = ji9 := hji9
      obtain ⟨ji10, hji10⟩ : ∃ j_ : Int, (mx 1 (wrap64 (Int.tdiv (wrap64 (a0_0 * (ji9))) a0_2))) = j_ := ⟨_, rfl⟩
      replace H : (some ji10) = some r := by first | (rw [hji10] at H; exact H) | (simp only [hji10] at H ⊢; exact H)
      have hji10_ : (if 1 < (wrap64 (Int.tdiv (wrap64 (a0_0 * (ji9))) a0_2)) then (wrap64 (Int.tdiv (wrap64 (a0_0 * (ji9))) a0_2)) else 1) = ji10 := hji10
      obtain rfl := Option.some.inj H
      go_enter Try.func36, Try.ntmps36
      go_wp2_with (first | ((with_reducible refine gate_dst (N := 2) rfl ?_); refine box_event ?hg (N := 2) ?hd (cs := #[.int .i64 a0_0, .int .i64 a0_1, .int .i64 a0_2]) (t := 87) ?hr ?_; (case hd => rfl); (case hg => rfl); (case hr => first | (go_simp; done) | (go_simp; rfl)); intro gb112 hg w11 hbox hb; have n0_ := Aside0.mk (below_step (by repeat (first | (with_reducible first | exact HB.out | apply below_alloc | apply pw_below_drewN | apply below_drew1) | exact HB.out)) hb); have n1_ := Aside0.mk (hbox); have n2_ := Aside0.mk ((by rw [hg]; exact (below_size (by repeat (first | (with_reducible first | exact HB.out | apply below_alloc | apply pw_below_drewN | apply below_drew1) | exact HB.out))) : w.heap.size ≤ gb112)); have n3_ := Aside0.mk ((by rw [hg]; exact (below_size (by repeat (first | (with_reducible first | exact HB.out | apply below_alloc | apply pw_below_drewN | apply below_drew1) | exact HB.out))) : w.heap.size ≤ gb112)); clear HB; have HB := n0_; have BK112 := n1_; have GW112 := n2_; have GE112 := n3_; clear n0_ n1_ n2_ n3_; clear hb hbox hg; have hcz12_0 : w11.cell? ⟨gb112, 0, none⟩ = some (.int .i64 a0_0) := (blk_cell BK112.out 0).trans rfl; have hcz12_1 : w11.cell? ⟨gb112, 1, none⟩ = some (.int .i64 a0_1) := (blk_cell BK112.out 1).trans rfl; have hcz12_2 : w11.cell? ⟨gb112, 2, none⟩ = some (.int .i64 a0_2) := (blk_cell BK112.out 2).trans rfl; have hfz12_0 := blk_frozen BK112.out 0; have hfz12_1 := blk_frozen BK112.out 1; have hfz12_2 := blk_frozen BK112.out 2))
      go_ret
      exact ⟨by first | rfl | (simp [errW_none, errW_some] <;> rfl) | (simp only [← hji9, ← hji10]; first | rfl | (simp [errW_none, errW_some] <;> rfl)) | (simp [*, errW_none, errW_some] <;> rfl), by repeat (first | (with_reducible first | exact HB.out | apply below_alloc | apply pw_below_drewN | apply below_drew1 | refine below_set ?_ GE112.out) | exact HB.out)⟩

/-! ### ramp_Weight: function 14 -/
def ramp_Weight.f (a0 : Int) (a1 : Int) (a2 : Int) (a3 : Int) : Option (Int) := (ramp_of.f a0 a1 a3).bind fun bt113 => ((ramp_clip.f a2 0 1099511627776).bind fun t117 => ((ramp_slope_at.f bt113.1 bt113.2.1 bt113.2.2 (wrap64 (t117 - bt113.2.1))).bind fun t118 => (some t118)))
def ramp_Weight.T2 : Bool × List (List Nat × List Nat) := (true, [([], []), ([], []), ([1], [1]), ([], []), ([3], [3]), ([2, 4], [2, 4]), ([0, 5, 2], [0, 5]), ([6, 6, 0, 1, 2, 3, 4, 5, 6], [6])])
def ramp_Weight.B2 : List Nat := [0, 0, 2, 0, 8, 30, 63, 127]
theorem ramp_Weight.tab2 : rtab .any (opsOf Try.f14 2) = ramp_Weight.T2 := by kernel_rfl
theorem ramp_Weight.bits2 : waitsOk ramp_Weight.T2.2 ramp_Weight.B2 = true := by kernel_rfl
set_option maxHeartbeats 8000000 in
set_option maxRecDepth 100000 in
theorem ramp_Weight.calls (a0 : Int) (a1 : Int) (a2 : Int) (a3 : Int) (r : Int) (w : World) (h : ramp_Weight.f a0 a1 a2 a3 = some r) :
    Calls Try.prog 14 #[.int .i64 a0, .int .i64 a1, .int .i64 a2, .int .i64 a3] w fun e w' => e = .returned (.int .i64 r) ∧ Below w.heap.size w w' := by
  have hu87 := Try.underlying87
  have HB := Aside0.mk (Below.refl w.heap.size w)
  have H : ((ramp_of.f a0 a1 a3).bind fun bt113 => ((ramp_clip.f a2 0 1099511627776).bind fun t117 => ((ramp_slope_at.f bt113.1 bt113.2.1 bt113.2.2 (wrap64 (t117 - bt113.2.1))).bind fun t118 => (some t118)))) = some r := h
  clear h
  replace H := Option.bind_eq_some_iff.mp H
  obtain ⟨⟨t113, t114, t115⟩, A50, H⟩ := H
  replace H : ((ramp_clip.f a2 0 1099511627776).bind fun t117 => ((ramp_slope_at.f t113 t114 t115 (wrap64 (t117 - t114))).bind fun t118 => (some t118))) = some r := H
  have A5 := Aside0.mk A50
  clear A50
  replace H := Option.bind_eq_some_iff.mp H
  obtain ⟨t117, A60, H⟩ := H
  replace H : ((ramp_slope_at.f t113 t114 t115 (wrap64 (t117 - t114))).bind fun t118 => (some t118)) = some r := H
  have A6 := Aside0.mk A60
  clear A60
  replace H := Option.bind_eq_some_iff.mp H
  obtain ⟨t118, A70, H⟩ := H
  replace H : (some t118) = some r := H
  have A7 := Aside0.mk A70
  clear A70
  obtain rfl := Option.some.inj H
  go_enter Try.func14, Try.ntmps14
  try go_wp2_with (first | ((with_reducible refine gate_callee (f := 35) rfl ?_); refine goesL_ (some 13) rfl rfl Try.func35 (by kernel_rfl) rfl #[.int .i64 a0, .int .i64 a1, .int .i64 a3] rfl (by (try simp only [List.map_toArray, List.map_cons, List.map_nil]); first | done | rfl | (simp only [List.length_drop, List.length_take]; rfl)) ?_; (with_reducible refine (ramp_of.calls a0 a1 a3 t113 t114 t115 _ A5.out).mono ?_); rintro e w8 ⟨rfl, hb⟩; refine ⟨_, rfl, ?_⟩; have n0_ := Aside0.mk (below_step (by repeat (first | (with_reducible first | exact HB.out | apply below_alloc | apply pw_below_drewN | apply below_drew1) | exact HB.out)) hb); clear HB; have HB := n0_; clear n0_; (try clear hb); (try clear hb2); (try clear hk); (try clear hi)) | ((with_reducible refine gate_dst (N := 9) rfl ?_); refine box_event ?hg (N := 9) ?hd (cs := #[.int .i64 0, .int .i64 0, .int .i64 0]) (t := 87) ?hr ?_; (case hd => rfl); (case hg => rfl); (case hr => first | (go_simp; done) | (go_simp; rfl)); intro gb116 hg w9 hbox hb; have n0_ := Aside0.mk (below_step (by repeat (first | (with_reducible first | exact HB.out | apply below_alloc | apply pw_below_drewN | apply below_drew1) | exact HB.out)) hb); have n1_ := Aside0.mk (hbox); have n2_ := Aside0.mk ((by rw [hg]; exact (below_size (by repeat (first | (with_reducible first | exact HB.out | apply below_alloc | apply pw_below_drewN | apply below_drew1) | exact HB.out))) : w.heap.size ≤ gb116)); have n3_ := Aside0.mk ((by rw [hg]; exact (below_size (by repeat (first | (with_reducible first | exact HB.out | apply below_alloc | apply pw_below_drewN | apply below_drew1) | exact HB.out))) : w.heap.size ≤ gb116)); clear HB; have HB := n0_; have BK116 := n1_; have GW116 := n2_; have GE116 := n3_; clear n0_ n1_ n2_ n3_; clear hb hbox hg; have hcz10_0 : w9.cell? ⟨gb116, 0, none⟩ = some (.int .i64 0) := (blk_cell BK116.out 0).trans rfl; have hcz10_1 : w9.cell? ⟨gb116, 1, none⟩ = some (.int .i64 0) := (blk_cell BK116.out 1).trans rfl; have hcz10_2 : w9.cell? ⟨gb116, 2, none⟩ = some (.int .i64 0) := (blk_cell BK116.out 2).trans rfl; have hfz10_0 := blk_frozen BK116.out 0; have hfz10_1 := blk_frozen BK116.out 1; have hfz10_2 := blk_frozen BK116.out 2))
  have n0_ : Aside0 ((((w9.setCell ⟨gb116, 0, none⟩ (.int .i64 t113)).setCell ⟨gb116, 1, none⟩ (.int .i64 t114)).setCell ⟨gb116, 2, none⟩ (.int .i64 t115)).heap[gb116]? = some (.cells #[.int .i64 t113, .int .i64 t114, .int .i64 t115] 87 (0, 0))) := ⟨by (with_reducible repeat (first | refine blk_drewN ?_ _ | refine blk_drew ?_ | refine blk_alloc ?_ _)); refine blk_put (cs := #[.int .i64 t113, .int .i64 t114, .int .i64 0]) ?_ 2 _ rfl; (with_reducible repeat (first | refine blk_drewN ?_ _ | refine blk_drew ?_ | refine blk_alloc ?_ _)); refine blk_put (cs := #[.int .i64 t113, .int .i64 0, .int .i64 0]) ?_ 1 _ rfl; (with_reducible repeat (first | refine blk_drewN ?_ _ | refine blk_drew ?_ | refine blk_alloc ?_ _)); refine blk_put (cs := #[.int .i64 0, .int .i64 0, .int .i64 0]) ?_ 0 _ rfl; (with_reducible repeat (first | refine blk_drewN ?_ _ | refine blk_drew ?_ | refine blk_alloc ?_ _)); exact BK116.out⟩
  have n1_ : Aside0 (Below w.heap.size w (((w9.setCell ⟨gb116, 0, none⟩ (.int .i64 t113)).setCell ⟨gb116, 1, none⟩ (.int .i64 t114)).setCell ⟨gb116, 2, none⟩ (.int .i64 t115))) := ⟨by repeat (first | (with_reducible first | exact HB.out | apply below_alloc | apply pw_below_drewN | apply below_drew1 | refine below_set ?_ GE116.out) | exact HB.out)⟩
  (try clear BK116)
  (try clear HB)
  generalize (((w9.setCell ⟨gb116, 0, none⟩ (.int .i64 t113)).setCell ⟨gb116, 1, none⟩ (.int .i64 t114)).setCell ⟨gb116, 2, none⟩ (.int .i64 t115)) = w11 at n0_ n1_ ⊢
  have BK116 := n0_
  have HB := n1_
  clear n0_ n1_
  have n0_ := Aside0.mk (blk_drew BK116.out)
  have n1_ := Aside0.mk (below_drew1 HB.out)
  clear BK116
  clear HB
  have BK116 := n0_
  have HB := n1_
  clear n0_ n1_
  refine start_ (n := 8) (S := fun w' => w'.cell? ⟨gb116, 0, none⟩ = some (.int .i64 t113) ∧ w'.cell? ⟨gb116, 1, none⟩ = some (.int .i64 t114) ∧ w'.cell? ⟨gb116, 2, none⟩ = some (.int .i64 t115)) (ds := []) #[false, false, false, false, false, false, false, false] (by kernel_rfl) rfl rfl ⟨(blk_cell BK116.out 0).trans rfl, (blk_cell BK116.out 1).trans rfl, (blk_cell BK116.out 2).trans rfl⟩ (fun hHeld => ?_); refine with_tabW ramp_Weight.tab2 ramp_Weight.bits2 (fun HT_ HW_ => ?_)
  generalize w11.drew = w12 at BK116 HB hHeld ⊢
  refine pure_ (i := 1) (N := some 15) (v := ?_) (a' := ?_) #[false, true, false, false, false, false, false, false] rfl rfl (any_of HT_.out (by kernel_rfl)) (fun _ _ _ h => h) (Or.inl ⟨by rfl, ?_⟩) ?_ ?_
  rotate_left
  · intro w'
    go_simp
    with_reducible rfl
  rotate_left
  · simp only [Act.put, List.setIfInBounds_toArray, List.set_cons_zero, List.set_cons_succ, i64_w, i32_w]
    rfl
  refine pure_ (i := 3) (N := some 17) (v := ?_) (a' := ?_) #[false, true, false, true, false, false, false, false] rfl rfl (any_of HT_.out (by kernel_rfl)) (fun _ _ _ h => h) (Or.inl ⟨by rfl, ?_⟩) ?_ ?_
  rotate_left
  · intro w'
    go_simp
    with_reducible rfl
  rotate_left
  · simp only [Act.put, List.setIfInBounds_toArray, List.set_cons_zero, List.set_cons_succ, i64_w, i32_w]
    rfl
  refine take_ (i := 0) (N := some 14) (v := ?_) (a' := ?_) #[true, true, false, true, false, false, false, false] rfl rfl (take_ofW HT_.out HW_.out (by kernel_rfl)) (fun _ _ _ h => h) (Or.inl ⟨by rfl, ?_⟩) hHeld ?_ ?_
  rotate_left
  · rintro w' ⟨s0, s1, s2⟩
    go_simp
    with_reducible rfl
  rotate_left
  · simp only [Act.put, List.setIfInBounds_toArray, List.set_cons_zero, List.set_cons_succ, i64_w, i32_w]
    rfl
  refine take_ (i := 4) (N := some 18) (v := ?_) (a' := ?_) #[true, true, false, true, true, false, false, false] rfl rfl (take_ofW HT_.out HW_.out (by kernel_rfl)) (fun _ _ _ h => h) (Or.inl ⟨by rfl, ?_⟩) hHeld ?_ ?_
  rotate_left
  · rintro w' ⟨s0, s1, s2⟩
    go_simp
    with_reducible rfl
  rotate_left
  · simp only [Act.put, List.setIfInBounds_toArray, List.set_cons_zero, List.set_cons_succ, i64_w, i32_w]
    rfl
  refine one_ (i := 2) (N := some 16) #[true, true, true, true, true, false, false, false] rfl rfl (one_of HT_.out (by kernel_rfl)) (by decide) (fun K hK => ?_)
  refine goes_ Try.func37 (by kernel_rfl) rfl #[.int .i64 a2, .int .i64 0, .int .i64 1099511627776] (by rfl) rfl rfl (by (try simp only [List.map_toArray, List.map_cons, List.map_nil]); first | done | rfl | (simp only [List.length_drop, List.length_take]; rfl)) ?_
  with_reducible refine (ramp_clip.calls a2 0 1099511627776 t117 _ A6.out).mono ?_
  rintro e w13 ⟨rfl, hb⟩
  refine ⟨_, rfl, ?_⟩
  have n0_ := Aside0.mk (blk_below (g := gb116) (o := .cells #[.int .i64 t113, .int .i64 t114, .int .i64 t115] 87 (0, 0)) (by (with_reducible repeat (first | refine blk_drewN ?_ _ | refine blk_drew ?_ | refine blk_alloc ?_ _)); exact BK116.out) hb)
  have n1_ := Aside0.mk (below_step (by repeat (first | (with_reducible first | exact HB.out | apply below_alloc | apply pw_below_drewN | apply below_drew1 | refine below_set ?_ GE116.out) | exact HB.out)) hb)
  clear BK116
  clear HB
  have BK116 := n0_
  have HB := n1_
  clear n0_ n1_
  (try clear hb)
  (try clear hb2)
  (try clear hk)
  (try clear hi)
  refine hK.out _ _ ⟨(blk_cell BK116.out 0).trans rfl, (blk_cell BK116.out 1).trans rfl, (blk_cell BK116.out 2).trans rfl⟩ (fun hHeld => ?_)
  clear hK K
  refine norm_ (a' := ?_) ?_ ?_
  rotate_left
  · show Act.put _ (some 16) _ = _
    simp only [Act.put, List.setIfInBounds_toArray, List.set_cons_zero, List.set_cons_succ, i64_w, i32_w]
    rfl
  refine pure_ (i := 5) (N := some 19) (v := ?_) (a' := ?_) #[true, true, true, true, true, true, false, false] rfl rfl (any_of HT_.out (by kernel_rfl)) (fun _ _ _ h => h) (Or.inl ⟨by rfl, ?_⟩) ?_ ?_
  rotate_left
  · intro w'
    go_simp
    with_reducible rfl
  rotate_left
  · simp only [Act.put, List.setIfInBounds_toArray, List.set_cons_zero, List.set_cons_succ, i64_w, i32_w]
    rfl
  refine one_ (i := 6) (N := some 20) #[true, true, true, true, true, true, true, false] rfl rfl (one_of HT_.out (by kernel_rfl)) (by decide) (fun K hK => ?_)
  refine goes_ Try.func36 (by kernel_rfl) rfl #[.agg #[.int .i64 t113, .int .i64 t114, .int .i64 t115], .int .i64 (wrap64 (t117 - t114))] (by rfl) rfl rfl (by (try simp only [List.map_toArray, List.map_cons, List.map_nil]); first | done | rfl | (simp only [List.length_drop, List.length_take]; rfl)) ?_
  with_reducible refine (ramp_slope_at.calls t113 t114 t115 (wrap64 (t117 - t114)) t118 _ A7.out).mono ?_
  rintro e w14 ⟨rfl, hb⟩
  refine ⟨_, rfl, ?_⟩
  have n0_ := Aside0.mk (blk_below (g := gb116) (o := .cells #[.int .i64 t113, .int .i64 t114, .int .i64 t115] 87 (0, 0)) (by (with_reducible repeat (first | refine blk_drewN ?_ _ | refine blk_drew ?_ | refine blk_alloc ?_ _)); exact BK116.out) hb)
  have n1_ := Aside0.mk (below_step (by repeat (first | (with_reducible first | exact HB.out | apply below_alloc | apply pw_below_drewN | apply below_drew1 | refine below_set ?_ GE116.out) | exact HB.out)) hb)
  clear BK116
  clear HB
  have BK116 := n0_
  have HB := n1_
  clear n0_ n1_
  (try clear hb)
  (try clear hb2)
  (try clear hk)
  (try clear hi)
  refine hK.out _ _ ⟨(blk_cell BK116.out 0).trans rfl, (blk_cell BK116.out 1).trans rfl, (blk_cell BK116.out 2).trans rfl⟩ (fun hHeld => ?_)
  clear hK K
  refine norm_ (a' := ?_) ?_ ?_
  rotate_left
  · show Act.put _ (some 20) _ = _
    simp only [Act.put, List.setIfInBounds_toArray, List.set_cons_zero, List.set_cons_succ, i64_w, i32_w]
    rfl
  refine pure_ (i := 7) (N := some 8) (v := ?_) (a' := ?_) #[true, true, true, true, true, true, true, true] rfl rfl (any_of HT_.out (by kernel_rfl)) (fun _ _ _ h => h) (Or.inl ⟨by rfl, ?_⟩) ?_ ?_
  rotate_left
  · intro w'
    go_simp
    with_reducible rfl
  rotate_left
  · simp only [Act.put, List.setIfInBounds_toArray, List.set_cons_zero, List.set_cons_succ, i64_w, i32_w]
    rfl
  refine done_ (done_of HT_.out (by kernel_rfl)) ?_
  try go_wp2
  go_ret
  exact ⟨by first | rfl | (simp [errW_none, errW_some] <;> rfl) | (simp [*, errW_none, errW_some] <;> rfl), by repeat (first | (with_reducible first | exact HB.out | apply below_alloc | apply pw_below_drewN | apply below_drew1 | refine below_set ?_ GE116.out) | exact HB.out)⟩

-- NOT PRINTED: function 15 (health_Health_Epoch)

-- NOT PRINTED: function 3 (stewardtop_StewardRamps)

end Go.Proofs.Ytghiklaeenhljaa.PStewardRamps

/- health: a probe's result. Own work of this seat. -/
namespace Go.Proofs.Ytghiklaeenhljaa.Hea
open Go.RowKit Go.Proofs.Ytghiklaeenhljaa.Kit Go.Proofs.Ytghiklaeenhljaa.PStewardRamps Go.Proofs.YtghiklaeenhljaaW.PrintWords
set_option linter.unusedVariables false
set_option linter.unusedSimpArgs false

structure Pb where
  up : Bool
  good : Int
  bad : Int
  since : Int
structure Cf where
  every : Int
  wait : Int
  rise : Int
  fall : Int
def CfOk (c : Cf) : Prop := (1 ≤ c.every ∧ c.every ≤ 1048576) ∧ (1 ≤ c.wait ∧ c.wait ≤ 1048576) ∧ (1 ≤ c.rise ∧ c.rise ≤ 1000) ∧ (1 ≤ c.fall ∧ c.fall ≤ 1000)
def pbc (p : Pb) : List Value := [.bool p.up, .int .i64 p.good, .int .i64 p.bad, .int .i64 p.since]
def cfc (c : Cf) : List Value := [.int .i64 c.every, .int .i64 c.wait, .int .i64 c.rise, .int .i64 c.fall]
def rowP (n want : Int) : Int × Bool := if want ≤ n + 1 then (0, true) else (n + 1, false)
def resP (p : Pb) (c : Cf) (good : Bool) (now : Int) : Pb × Bool :=
  match good, p.up with
  | true, false => if c.rise ≤ p.good + 1 then (⟨true, 0, 0, now⟩, true) else (⟨false, p.good + 1, 0, p.since⟩, false)
  | true, true => (⟨true, p.good, 0, p.since⟩, false)
  | false, true => if c.fall ≤ p.bad + 1 then (⟨false, 0, 0, now⟩, true) else (⟨true, 0, p.bad + 1, p.since⟩, false)
  | false, false => (⟨false, 0, p.bad, p.since⟩, false)
theorem step_bel {w w' : World} (h : Below w.heap.size w w') : Step (fun _ => False) w w' := Step.of_below h

theorem row_calls (n want : Int) (hn : 0 ≤ n ∧ n ≤ 1000000) (w : World) : Calls Try.prog 68 #[.int .i64 n, .int .i64 want] w fun e w' => e = .returned (.tuple #[.int .i64 (rowP n want).1, .bool (rowP n want).2]) ∧ w = w' := by
  have hmax : (if (0 : Int) < n then n else 0) = n := by by_cases h : 0 < n <;> simp [h]; omega
  unfold rowP
  by_cases h : want ≤ n + 1
  · rw [if_pos h]
    go_enter Try.func68, Try.ntmps68
    go_wp2
    go_ret2
    exact ⟨rfl, rfl⟩
  · rw [if_neg h]
    have h2 : ¬ want ≤ n := by omega
    go_enter Try.func68, Try.ntmps68
    go_wp2
    go_ret2
    exact ⟨rfl, rfl⟩
theorem clip_ok {c : Cf} (h : CfOk c) (w : World) : Calls Try.prog 26 #[.agg #[.int .i64 c.every, .int .i64 c.wait, .int .i64 c.rise, .int .i64 c.fall]] w fun e w' => e = .returned (.agg #[.int .i64 c.every, .int .i64 c.wait, .int .i64 c.rise, .int .i64 c.fall]) ∧ Step (fun _ => False) w w' := by
  obtain ⟨h1, h2, h3, h4⟩ := h
  have hm : ∀ x m : Int, 1 ≤ x → x ≤ m → mx 1 (mn x m) = x := fun x m a b => by
    have e : mn x m = x := by unfold mn; rw [if_neg (by omega)]
    rw [e]
    unfold mx
    split <;> omega
  have hf : probe_Config_Clip.f c.every c.wait c.rise c.fall = some (c.every, c.wait, c.rise, c.fall) := by
    unfold probe_Config_Clip.f probe_clip.f
    simp only [Option.bind_some, hm _ _ h1.1 h1.2, hm _ _ h2.1 h2.2, hm _ _ h3.1 h3.2, hm _ _ h4.1 h4.2]
  exact (probe_Config_Clip.calls _ _ _ _ _ _ _ _ w hf).mono fun e w' h => ⟨h.1, step_bel h.2⟩

/-- Behind three new blocks. -/
theorem alloc_next3 {P : Program} {c : Code} {Q : Exit → Act → World → Prop} {a : Act} {w : World} {T T' T'' : TypeId} {cs ds es : List Value}
    (k : ∀ w1, Blk w1 w.heap.size T cs → Blk w1 (w.heap.size + 1) T' ds → Blk w1 (w.heap.size + 2) T'' es → Step (fun _ => False) w w1 → w.heap.size + 2 < w1.heap.size → Code.wp P c Q a w1) : Code.wp P c Q a (((w.alloc (.cells cs.toArray T)).alloc (.cells ds.toArray T')).alloc (.cells es.toArray T'')) := by
  have e : ∀ (u : World) (o : Obj), (u.alloc o).heap.size = u.heap.size + 1 := fun u o => by show (u.heap.push _).size = _; simp
  have h2 := blk_new (w.alloc (.cells cs.toArray T)) ds T'
  have h3 := blk_new ((w.alloc (.cells cs.toArray T)).alloc (.cells ds.toArray T')) es T''
  rw [e] at h2
  rw [e, e] at h3
  exact k _ (((blk_new w cs T).alloc _).alloc _) (h2.alloc _) h3 ((((Step.refl _ _).alloc _).alloc _).alloc _) h3.lt
theorem post_cell_tmp {P : Program} {fn : Func} {R : Ending → World → Prop} {p u : Tmp} {ty : TypeId} (h : fn.results = #[.cell p ty, .tmp u]) {a : Act} {w : World} {g : Nat} {T : TypeId} {cs : List Value} {d : TypeDesc} {v : Value} (hp : a.tmps.getD p undef = .pointer (some ⟨g, 0, none⟩)) (hE : Blk w g T cs)
    (hu : P.underlying ty = some d) (hd : (match d with | .struct _ | .array _ _ => true | _ => false) = true) (hi : (P.info? ty).map (·.size) = some cs.length) (hv : a.tmps.getD u undef = v) (hdef : a.defers = []) (hR : R (.returned (.tuple #[.agg cs.toArray, v])) w) : bodyPost P fn R .ret a w := by
  refine bodyPost_ret ?_ hdef hR
  rw [results_cell_tmp h, hp, hv]
  have hr := run_loadVar_row (P := P) w g T ty cs.toArray (0, 0) d hE hu hd (by simpa using hi)
  simp [asAddr, hr]
theorem step_fresh {w w' : World} (h : Step (fun k => w.heap.size ≤ k) w w') : Step (fun _ => False) w w' := ⟨h.os, h.tape, h.output, h.size, fun k hk _ => h.block k hk (by omega)⟩

set_option maxRecDepth 100000 in
set_option maxHeartbeats 4000000 in
theorem result_calls {c : Cf} (hc : CfOk c) {p : Pb} (hp : (0 ≤ p.good ∧ p.good ≤ 1000) ∧ (0 ≤ p.bad ∧ p.bad ≤ 1000)) (good : Bool) (now : Int) (w : World) :
    Calls Try.prog 52 #[.agg #[.bool p.up, .int .i64 p.good, .int .i64 p.bad, .int .i64 p.since], .agg #[.int .i64 c.every, .int .i64 c.wait, .int .i64 c.rise, .int .i64 c.fall], .bool good, .int .i64 now] w fun e w' =>
      e = .returned (.tuple #[.agg #[.bool (resP p c good now).1.up, .int .i64 (resP p c good now).1.good, .int .i64 (resP p c good now).1.bad, .int .i64 (resP p c good now).1.since], .bool (resP p c good now).2]) ∧ Step (fun _ => False) w w' := by
  have HC := Lib.hid (fun w1 => clip_ok hc w1)
  obtain ⟨up, pg, pb, ps⟩ := p
  obtain ⟨ce, cw, cr, cf⟩ := c
  obtain ⟨hpg, hpb⟩ := hp
  simp only at hpg hpb HC ⊢
  have HRG := Lib.hid (fun w1 => row_calls pg cr (by omega) w1)
  have HRB := Lib.hid (fun w1 => row_calls pb cf (by omega) w1)
  unfold rowP at HRG HRB
  clear hc
  cases good with
  | true =>
    cases up with
    | false =>
      by_cases hr : cr ≤ pg + 1
      · rw [if_pos hr] at HRG
        have e0 : resP ⟨false, pg, pb, ps⟩ ⟨ce, cw, cr, cf⟩ true now = (⟨true, 0, 0, now⟩, true) := by unfold resP; simp only; rw [if_pos hr]
        rw [e0]
        simp only
        clear e0
        go_enter Try.func52, Try.ntmps52
        go_upto_region 1 with (fail)
        refine alloc_next3 (cs := [.bool false, .int .i64 pg, .int .i64 pb, .int .i64 ps]) (ds := [.int .i64 ce, .int .i64 cw, .int .i64 cr, .int .i64 cf]) (es := [.bool false, .int .i64 0, .int .i64 0, .int .i64 0]) ?_
        intro w1 hP hC hZ hs1 hz1
        generalize hwb : w.heap.size = wb at *
        have HWB := Lib.hid hwb
        clear hwb
        have c0 := hC.cell (i := 0) rfl
        have c1 := hC.cell (i := 1) rfl
        have c2 := hC.cell (i := 2) rfl
        have c3 := hC.cell (i := 3) rfl
        go_upto_region 2 with (first | (go_at_call 26; refine (HC.out _).mono ?_; rintro e w2 ⟨rfl, hs2⟩) | (refine wpList_store_blk rfl 26 (.tmp 5) (.tmp 12) rfl (hC.keep hs2 (fun h => h)) rfl (vs := [.int .i64 ce, .int .i64 cw, .int .i64 cr, .int .i64 cf]) rfl (by kernel_rfl) rfl (fun v hv => by simp only [List.mem_cons, List.not_mem_nil, or_false] at hv; rcases hv with rfl | rfl | rfl | rfl <;> rfl) ?_; intro w3 hC3 hs3))
        have hP3 := (hP.keep hs2 (fun h => h)).keep hs3 (fun e => by omega)
        have hZ3 := (hZ.keep hs2 (fun h => h)).keep hs3 (fun e => by omega)
        clear c0 c1 c2 c3
        have c2 := hC3.cell (i := 2) rfl
        have c3 := hC3.cell (i := 3) rfl
        have p03 := hP3.cell (i := 0) rfl
        have f03 := hP3.free 0
        have p13 := hP3.cell (i := 1) rfl
        have f13 := hP3.free 1
        have p23 := hP3.cell (i := 2) rfl
        have f23 := hP3.free 2
        have p33 := hP3.cell (i := 3) rfl
        have f33 := hP3.free 3
        have hst3 : Step (fun k => wb ≤ k) w w3 := ((hs1.same hs2).mono (fun _ _ h => h.elim)).same (hs3.mono (fun k _ e => by rw [show k = wb + 1 from e]; omega))
        clear hs2 hs3 hP hC hZ hC3
        go_upto_region 7 with (first | (go_at_call_of 68 (Value.int .i64 pg); refine (HRG.out _).mono ?_; rintro e w4 ⟨rfl, rfl⟩) | (go_at_call_of 68 (Value.int .i64 pb); refine (HRB.out _).mono ?_; rintro e w4 ⟨rfl, rfl⟩))
        refine put_plain hP3 ?_
        intro w4 hP4 hs4
        clear p03 f03 p13 f13 p23 f23 p33 f33
        have p04 := hP4.cell (i := 0) rfl
        have f04 := hP4.free 0
        have p14 := hP4.cell (i := 1) rfl
        have f14 := hP4.free 1
        have p24 := hP4.cell (i := 2) rfl
        have f24 := hP4.free 2
        have p34 := hP4.cell (i := 3) rfl
        have f34 := hP4.free 3
        go_upto_region 10 with (fail)
        refine put_plain hP4 ?_
        intro w5 hP5 hs5
        clear p04 f04 p14 f14 p24 f24 p34 f34
        have p05 := hP5.cell (i := 0) rfl
        have f05 := hP5.free 0
        have p15 := hP5.cell (i := 1) rfl
        have f15 := hP5.free 1
        have p25 := hP5.cell (i := 2) rfl
        have f25 := hP5.free 2
        have p35 := hP5.cell (i := 3) rfl
        have f35 := hP5.free 3
        go_upto_region 12 with (fail)
        refine put_plain (w := w5.setCell ⟨wb, 0, none⟩ (.bool true)) (hP5.set 0 _) ?_
        intro w6 hP6 hs6'
        have hs6 : Step (· = wb) w5 w6 := (step_put w5 wb 0 _).same hs6'
        clear p05 f05 p15 f15 p25 f25 p35 f35
        have p06 := hP6.cell (i := 0) rfl
        have f06 := hP6.free 0
        have p16 := hP6.cell (i := 1) rfl
        have f16 := hP6.free 1
        have p26 := hP6.cell (i := 2) rfl
        have f26 := hP6.free 2
        have p36 := hP6.cell (i := 3) rfl
        have f36 := hP6.free 3
        have hZ9 := (((hZ3.keep hs4 (fun e => by omega)).keep hs5 (fun e => by omega)).keep hs6 (fun e => by omega))
        go_wp2_with (refine wpList_store_blk rfl 75 (.tmp 8) (.tmp 53) rfl hZ9 rfl (vs := [.bool true, .int .i64 0, .int .i64 0, .int .i64 now]) rfl (by kernel_rfl) rfl (fun v hv => by simp only [List.mem_cons, List.not_mem_nil, or_false] at hv; rcases hv with rfl | rfl | rfl | rfl <;> rfl) ?_; intro w9 hZ10 hs9)
        try simp only [Exit.inBlock, Exit.then]
        have hst9 : Step (fun k => wb ≤ k) w w9 := ((((hst3.same (hs4.mono (fun k _ e => by rw [show k = wb from e]; omega))).same (hs5.mono (fun k _ e => by rw [show k = wb from e]; omega))).same (hs6.mono (fun k _ e => by rw [show k = wb from e]; omega))).same (hs9.mono (fun k _ e => by rw [show k = wb + 1 + 1 from e]; omega)))
        rw [← HWB.out] at hst9
        exact post_cell_tmp (cs := [.bool true, .int .i64 0, .int .i64 0, .int .i64 now]) rfl rfl hZ10 Try.underlying75 rfl (by kernel_rfl) rfl rfl ⟨rfl, step_fresh hst9⟩
      · rw [if_neg hr] at HRG
        have e0 : resP ⟨false, pg, pb, ps⟩ ⟨ce, cw, cr, cf⟩ true now = (⟨false, (pg + 1), 0, ps⟩, false) := by unfold resP; simp only; rw [if_neg hr]
        rw [e0]
        simp only
        clear e0
        go_enter Try.func52, Try.ntmps52
        go_upto_region 1 with (fail)
        refine alloc_next3 (cs := [.bool false, .int .i64 pg, .int .i64 pb, .int .i64 ps]) (ds := [.int .i64 ce, .int .i64 cw, .int .i64 cr, .int .i64 cf]) (es := [.bool false, .int .i64 0, .int .i64 0, .int .i64 0]) ?_
        intro w1 hP hC hZ hs1 hz1
        generalize hwb : w.heap.size = wb at *
        have HWB := Lib.hid hwb
        clear hwb
        have c0 := hC.cell (i := 0) rfl
        have c1 := hC.cell (i := 1) rfl
        have c2 := hC.cell (i := 2) rfl
        have c3 := hC.cell (i := 3) rfl
        go_upto_region 2 with (first | (go_at_call 26; refine (HC.out _).mono ?_; rintro e w2 ⟨rfl, hs2⟩) | (refine wpList_store_blk rfl 26 (.tmp 5) (.tmp 12) rfl (hC.keep hs2 (fun h => h)) rfl (vs := [.int .i64 ce, .int .i64 cw, .int .i64 cr, .int .i64 cf]) rfl (by kernel_rfl) rfl (fun v hv => by simp only [List.mem_cons, List.not_mem_nil, or_false] at hv; rcases hv with rfl | rfl | rfl | rfl <;> rfl) ?_; intro w3 hC3 hs3))
        have hP3 := (hP.keep hs2 (fun h => h)).keep hs3 (fun e => by omega)
        have hZ3 := (hZ.keep hs2 (fun h => h)).keep hs3 (fun e => by omega)
        clear c0 c1 c2 c3
        have c2 := hC3.cell (i := 2) rfl
        have c3 := hC3.cell (i := 3) rfl
        have p03 := hP3.cell (i := 0) rfl
        have f03 := hP3.free 0
        have p13 := hP3.cell (i := 1) rfl
        have f13 := hP3.free 1
        have p23 := hP3.cell (i := 2) rfl
        have f23 := hP3.free 2
        have p33 := hP3.cell (i := 3) rfl
        have f33 := hP3.free 3
        have hst3 : Step (fun k => wb ≤ k) w w3 := ((hs1.same hs2).mono (fun _ _ h => h.elim)).same (hs3.mono (fun k _ e => by rw [show k = wb + 1 from e]; omega))
        clear hs2 hs3 hP hC hZ hC3
        go_upto_region 7 with (first | (go_at_call_of 68 (Value.int .i64 pg); refine (HRG.out _).mono ?_; rintro e w4 ⟨rfl, rfl⟩) | (go_at_call_of 68 (Value.int .i64 pb); refine (HRB.out _).mono ?_; rintro e w4 ⟨rfl, rfl⟩))
        refine put_plain hP3 ?_
        intro w4 hP4 hs4
        clear p03 f03 p13 f13 p23 f23 p33 f33
        have p04 := hP4.cell (i := 0) rfl
        have f04 := hP4.free 0
        have p14 := hP4.cell (i := 1) rfl
        have f14 := hP4.free 1
        have p24 := hP4.cell (i := 2) rfl
        have f24 := hP4.free 2
        have p34 := hP4.cell (i := 3) rfl
        have f34 := hP4.free 3
        go_upto_region 10 with (fail)
        refine put_plain hP4 ?_
        intro w5 hP5 hs5
        clear p04 f04 p14 f14 p24 f24 p34 f34
        have p05 := hP5.cell (i := 0) rfl
        have f05 := hP5.free 0
        have p15 := hP5.cell (i := 1) rfl
        have f15 := hP5.free 1
        have p25 := hP5.cell (i := 2) rfl
        have f25 := hP5.free 2
        have p35 := hP5.cell (i := 3) rfl
        have f35 := hP5.free 3
        have hZ9 := ((hZ3.keep hs4 (fun e => by omega)).keep hs5 (fun e => by omega))
        go_wp2_with (refine wpList_store_blk rfl 75 (.tmp 8) (.tmp 53) rfl hZ9 rfl (vs := [.bool false, .int .i64 (pg + 1), .int .i64 0, .int .i64 ps]) rfl (by kernel_rfl) rfl (fun v hv => by simp only [List.mem_cons, List.not_mem_nil, or_false] at hv; rcases hv with rfl | rfl | rfl | rfl <;> rfl) ?_; intro w9 hZ10 hs9)
        try simp only [Exit.inBlock, Exit.then]
        have hst9 : Step (fun k => wb ≤ k) w w9 := (((hst3.same (hs4.mono (fun k _ e => by rw [show k = wb from e]; omega))).same (hs5.mono (fun k _ e => by rw [show k = wb from e]; omega))).same (hs9.mono (fun k _ e => by rw [show k = wb + 1 + 1 from e]; omega)))
        rw [← HWB.out] at hst9
        exact post_cell_tmp (cs := [.bool false, .int .i64 (pg + 1), .int .i64 0, .int .i64 ps]) rfl rfl hZ10 Try.underlying75 rfl (by kernel_rfl) rfl rfl ⟨rfl, step_fresh hst9⟩
    | true =>
      have e0 : resP ⟨true, pg, pb, ps⟩ ⟨ce, cw, cr, cf⟩ true now = (⟨true, pg, 0, ps⟩, false) := by unfold resP; simp only
      rw [e0]
      simp only
      clear e0
      go_enter Try.func52, Try.ntmps52
      go_upto_region 1 with (fail)
      refine alloc_next3 (cs := [.bool true, .int .i64 pg, .int .i64 pb, .int .i64 ps]) (ds := [.int .i64 ce, .int .i64 cw, .int .i64 cr, .int .i64 cf]) (es := [.bool false, .int .i64 0, .int .i64 0, .int .i64 0]) ?_
      intro w1 hP hC hZ hs1 hz1
      generalize hwb : w.heap.size = wb at *
      have HWB := Lib.hid hwb
      clear hwb
      have c0 := hC.cell (i := 0) rfl
      have c1 := hC.cell (i := 1) rfl
      have c2 := hC.cell (i := 2) rfl
      have c3 := hC.cell (i := 3) rfl
      go_upto_region 2 with (first | (go_at_call 26; refine (HC.out _).mono ?_; rintro e w2 ⟨rfl, hs2⟩) | (refine wpList_store_blk rfl 26 (.tmp 5) (.tmp 12) rfl (hC.keep hs2 (fun h => h)) rfl (vs := [.int .i64 ce, .int .i64 cw, .int .i64 cr, .int .i64 cf]) rfl (by kernel_rfl) rfl (fun v hv => by simp only [List.mem_cons, List.not_mem_nil, or_false] at hv; rcases hv with rfl | rfl | rfl | rfl <;> rfl) ?_; intro w3 hC3 hs3))
      have hP3 := (hP.keep hs2 (fun h => h)).keep hs3 (fun e => by omega)
      have hZ3 := (hZ.keep hs2 (fun h => h)).keep hs3 (fun e => by omega)
      clear c0 c1 c2 c3
      have c2 := hC3.cell (i := 2) rfl
      have c3 := hC3.cell (i := 3) rfl
      have p03 := hP3.cell (i := 0) rfl
      have f03 := hP3.free 0
      have p13 := hP3.cell (i := 1) rfl
      have f13 := hP3.free 1
      have p23 := hP3.cell (i := 2) rfl
      have f23 := hP3.free 2
      have p33 := hP3.cell (i := 3) rfl
      have f33 := hP3.free 3
      have hst3 : Step (fun k => wb ≤ k) w w3 := ((hs1.same hs2).mono (fun _ _ h => h.elim)).same (hs3.mono (fun k _ e => by rw [show k = wb + 1 from e]; omega))
      clear hs2 hs3 hP hC hZ hC3
      go_upto_region 7 with (fail)
      go_upto_region 10 with (fail)
      refine put_plain hP3 ?_
      intro w5 hP5 hs5
      clear p03 f03 p13 f13 p23 f23 p33 f33
      have p05 := hP5.cell (i := 0) rfl
      have f05 := hP5.free 0
      have p15 := hP5.cell (i := 1) rfl
      have f15 := hP5.free 1
      have p25 := hP5.cell (i := 2) rfl
      have f25 := hP5.free 2
      have p35 := hP5.cell (i := 3) rfl
      have f35 := hP5.free 3
      have hZ9 := (hZ3.keep hs5 (fun e => by omega))
      go_wp2_with (refine wpList_store_blk rfl 75 (.tmp 8) (.tmp 53) rfl hZ9 rfl (vs := [.bool true, .int .i64 pg, .int .i64 0, .int .i64 ps]) rfl (by kernel_rfl) rfl (fun v hv => by simp only [List.mem_cons, List.not_mem_nil, or_false] at hv; rcases hv with rfl | rfl | rfl | rfl <;> rfl) ?_; intro w9 hZ10 hs9)
      try simp only [Exit.inBlock, Exit.then]
      have hst9 : Step (fun k => wb ≤ k) w w9 := ((hst3.same (hs5.mono (fun k _ e => by rw [show k = wb from e]; omega))).same (hs9.mono (fun k _ e => by rw [show k = wb + 1 + 1 from e]; omega)))
      rw [← HWB.out] at hst9
      exact post_cell_tmp (cs := [.bool true, .int .i64 pg, .int .i64 0, .int .i64 ps]) rfl rfl hZ10 Try.underlying75 rfl (by kernel_rfl) rfl rfl ⟨rfl, step_fresh hst9⟩
  | false =>
    cases up with
    | true =>
      by_cases hr : cf ≤ pb + 1
      · rw [if_pos hr] at HRB
        have e0 : resP ⟨true, pg, pb, ps⟩ ⟨ce, cw, cr, cf⟩ false now = (⟨false, 0, 0, now⟩, true) := by unfold resP; simp only; rw [if_pos hr]
        rw [e0]
        simp only
        clear e0
        go_enter Try.func52, Try.ntmps52
        go_upto_region 1 with (fail)
        refine alloc_next3 (cs := [.bool true, .int .i64 pg, .int .i64 pb, .int .i64 ps]) (ds := [.int .i64 ce, .int .i64 cw, .int .i64 cr, .int .i64 cf]) (es := [.bool false, .int .i64 0, .int .i64 0, .int .i64 0]) ?_
        intro w1 hP hC hZ hs1 hz1
        generalize hwb : w.heap.size = wb at *
        have HWB := Lib.hid hwb
        clear hwb
        have c0 := hC.cell (i := 0) rfl
        have c1 := hC.cell (i := 1) rfl
        have c2 := hC.cell (i := 2) rfl
        have c3 := hC.cell (i := 3) rfl
        go_upto_region 2 with (first | (go_at_call 26; refine (HC.out _).mono ?_; rintro e w2 ⟨rfl, hs2⟩) | (refine wpList_store_blk rfl 26 (.tmp 5) (.tmp 12) rfl (hC.keep hs2 (fun h => h)) rfl (vs := [.int .i64 ce, .int .i64 cw, .int .i64 cr, .int .i64 cf]) rfl (by kernel_rfl) rfl (fun v hv => by simp only [List.mem_cons, List.not_mem_nil, or_false] at hv; rcases hv with rfl | rfl | rfl | rfl <;> rfl) ?_; intro w3 hC3 hs3))
        have hP3 := (hP.keep hs2 (fun h => h)).keep hs3 (fun e => by omega)
        have hZ3 := (hZ.keep hs2 (fun h => h)).keep hs3 (fun e => by omega)
        clear c0 c1 c2 c3
        have c2 := hC3.cell (i := 2) rfl
        have c3 := hC3.cell (i := 3) rfl
        have p03 := hP3.cell (i := 0) rfl
        have f03 := hP3.free 0
        have p13 := hP3.cell (i := 1) rfl
        have f13 := hP3.free 1
        have p23 := hP3.cell (i := 2) rfl
        have f23 := hP3.free 2
        have p33 := hP3.cell (i := 3) rfl
        have f33 := hP3.free 3
        have hst3 : Step (fun k => wb ≤ k) w w3 := ((hs1.same hs2).mono (fun _ _ h => h.elim)).same (hs3.mono (fun k _ e => by rw [show k = wb + 1 from e]; omega))
        clear hs2 hs3 hP hC hZ hC3
        go_upto_region 7 with (first | (go_at_call_of 68 (Value.int .i64 pg); refine (HRG.out _).mono ?_; rintro e w4 ⟨rfl, rfl⟩) | (go_at_call_of 68 (Value.int .i64 pb); refine (HRB.out _).mono ?_; rintro e w4 ⟨rfl, rfl⟩))
        refine put_plain hP3 ?_
        intro w4 hP4 hs4
        clear p03 f03 p13 f13 p23 f23 p33 f33
        have p04 := hP4.cell (i := 0) rfl
        have f04 := hP4.free 0
        have p14 := hP4.cell (i := 1) rfl
        have f14 := hP4.free 1
        have p24 := hP4.cell (i := 2) rfl
        have f24 := hP4.free 2
        have p34 := hP4.cell (i := 3) rfl
        have f34 := hP4.free 3
        go_upto_region 10 with (fail)
        refine put_plain hP4 ?_
        intro w5 hP5 hs5
        clear p04 f04 p14 f14 p24 f24 p34 f34
        have p05 := hP5.cell (i := 0) rfl
        have f05 := hP5.free 0
        have p15 := hP5.cell (i := 1) rfl
        have f15 := hP5.free 1
        have p25 := hP5.cell (i := 2) rfl
        have f25 := hP5.free 2
        have p35 := hP5.cell (i := 3) rfl
        have f35 := hP5.free 3
        go_upto_region 12 with (fail)
        refine put_plain (w := w5.setCell ⟨wb, 0, none⟩ (.bool false)) (hP5.set 0 _) ?_
        intro w6 hP6 hs6'
        have hs6 : Step (· = wb) w5 w6 := (step_put w5 wb 0 _).same hs6'
        clear p05 f05 p15 f15 p25 f25 p35 f35
        have p06 := hP6.cell (i := 0) rfl
        have f06 := hP6.free 0
        have p16 := hP6.cell (i := 1) rfl
        have f16 := hP6.free 1
        have p26 := hP6.cell (i := 2) rfl
        have f26 := hP6.free 2
        have p36 := hP6.cell (i := 3) rfl
        have f36 := hP6.free 3
        have hZ9 := (((hZ3.keep hs4 (fun e => by omega)).keep hs5 (fun e => by omega)).keep hs6 (fun e => by omega))
        go_wp2_with (refine wpList_store_blk rfl 75 (.tmp 8) (.tmp 53) rfl hZ9 rfl (vs := [.bool false, .int .i64 0, .int .i64 0, .int .i64 now]) rfl (by kernel_rfl) rfl (fun v hv => by simp only [List.mem_cons, List.not_mem_nil, or_false] at hv; rcases hv with rfl | rfl | rfl | rfl <;> rfl) ?_; intro w9 hZ10 hs9)
        try simp only [Exit.inBlock, Exit.then]
        have hst9 : Step (fun k => wb ≤ k) w w9 := ((((hst3.same (hs4.mono (fun k _ e => by rw [show k = wb from e]; omega))).same (hs5.mono (fun k _ e => by rw [show k = wb from e]; omega))).same (hs6.mono (fun k _ e => by rw [show k = wb from e]; omega))).same (hs9.mono (fun k _ e => by rw [show k = wb + 1 + 1 from e]; omega)))
        rw [← HWB.out] at hst9
        exact post_cell_tmp (cs := [.bool false, .int .i64 0, .int .i64 0, .int .i64 now]) rfl rfl hZ10 Try.underlying75 rfl (by kernel_rfl) rfl rfl ⟨rfl, step_fresh hst9⟩
      · rw [if_neg hr] at HRB
        have e0 : resP ⟨true, pg, pb, ps⟩ ⟨ce, cw, cr, cf⟩ false now = (⟨true, 0, (pb + 1), ps⟩, false) := by unfold resP; simp only; rw [if_neg hr]
        rw [e0]
        simp only
        clear e0
        go_enter Try.func52, Try.ntmps52
        go_upto_region 1 with (fail)
        refine alloc_next3 (cs := [.bool true, .int .i64 pg, .int .i64 pb, .int .i64 ps]) (ds := [.int .i64 ce, .int .i64 cw, .int .i64 cr, .int .i64 cf]) (es := [.bool false, .int .i64 0, .int .i64 0, .int .i64 0]) ?_
        intro w1 hP hC hZ hs1 hz1
        generalize hwb : w.heap.size = wb at *
        have HWB := Lib.hid hwb
        clear hwb
        have c0 := hC.cell (i := 0) rfl
        have c1 := hC.cell (i := 1) rfl
        have c2 := hC.cell (i := 2) rfl
        have c3 := hC.cell (i := 3) rfl
        go_upto_region 2 with (first | (go_at_call 26; refine (HC.out _).mono ?_; rintro e w2 ⟨rfl, hs2⟩) | (refine wpList_store_blk rfl 26 (.tmp 5) (.tmp 12) rfl (hC.keep hs2 (fun h => h)) rfl (vs := [.int .i64 ce, .int .i64 cw, .int .i64 cr, .int .i64 cf]) rfl (by kernel_rfl) rfl (fun v hv => by simp only [List.mem_cons, List.not_mem_nil, or_false] at hv; rcases hv with rfl | rfl | rfl | rfl <;> rfl) ?_; intro w3 hC3 hs3))
        have hP3 := (hP.keep hs2 (fun h => h)).keep hs3 (fun e => by omega)
        have hZ3 := (hZ.keep hs2 (fun h => h)).keep hs3 (fun e => by omega)
        clear c0 c1 c2 c3
        have c2 := hC3.cell (i := 2) rfl
        have c3 := hC3.cell (i := 3) rfl
        have p03 := hP3.cell (i := 0) rfl
        have f03 := hP3.free 0
        have p13 := hP3.cell (i := 1) rfl
        have f13 := hP3.free 1
        have p23 := hP3.cell (i := 2) rfl
        have f23 := hP3.free 2
        have p33 := hP3.cell (i := 3) rfl
        have f33 := hP3.free 3
        have hst3 : Step (fun k => wb ≤ k) w w3 := ((hs1.same hs2).mono (fun _ _ h => h.elim)).same (hs3.mono (fun k _ e => by rw [show k = wb + 1 from e]; omega))
        clear hs2 hs3 hP hC hZ hC3
        go_upto_region 7 with (first | (go_at_call_of 68 (Value.int .i64 pg); refine (HRG.out _).mono ?_; rintro e w4 ⟨rfl, rfl⟩) | (go_at_call_of 68 (Value.int .i64 pb); refine (HRB.out _).mono ?_; rintro e w4 ⟨rfl, rfl⟩))
        refine put_plain hP3 ?_
        intro w4 hP4 hs4
        clear p03 f03 p13 f13 p23 f23 p33 f33
        have p04 := hP4.cell (i := 0) rfl
        have f04 := hP4.free 0
        have p14 := hP4.cell (i := 1) rfl
        have f14 := hP4.free 1
        have p24 := hP4.cell (i := 2) rfl
        have f24 := hP4.free 2
        have p34 := hP4.cell (i := 3) rfl
        have f34 := hP4.free 3
        go_upto_region 10 with (fail)
        refine put_plain hP4 ?_
        intro w5 hP5 hs5
        clear p04 f04 p14 f14 p24 f24 p34 f34
        have p05 := hP5.cell (i := 0) rfl
        have f05 := hP5.free 0
        have p15 := hP5.cell (i := 1) rfl
        have f15 := hP5.free 1
        have p25 := hP5.cell (i := 2) rfl
        have f25 := hP5.free 2
        have p35 := hP5.cell (i := 3) rfl
        have f35 := hP5.free 3
        have hZ9 := ((hZ3.keep hs4 (fun e => by omega)).keep hs5 (fun e => by omega))
        go_wp2_with (refine wpList_store_blk rfl 75 (.tmp 8) (.tmp 53) rfl hZ9 rfl (vs := [.bool true, .int .i64 0, .int .i64 (pb + 1), .int .i64 ps]) rfl (by kernel_rfl) rfl (fun v hv => by simp only [List.mem_cons, List.not_mem_nil, or_false] at hv; rcases hv with rfl | rfl | rfl | rfl <;> rfl) ?_; intro w9 hZ10 hs9)
        try simp only [Exit.inBlock, Exit.then]
        have hst9 : Step (fun k => wb ≤ k) w w9 := (((hst3.same (hs4.mono (fun k _ e => by rw [show k = wb from e]; omega))).same (hs5.mono (fun k _ e => by rw [show k = wb from e]; omega))).same (hs9.mono (fun k _ e => by rw [show k = wb + 1 + 1 from e]; omega)))
        rw [← HWB.out] at hst9
        exact post_cell_tmp (cs := [.bool true, .int .i64 0, .int .i64 (pb + 1), .int .i64 ps]) rfl rfl hZ10 Try.underlying75 rfl (by kernel_rfl) rfl rfl ⟨rfl, step_fresh hst9⟩
    | false =>
      have e0 : resP ⟨false, pg, pb, ps⟩ ⟨ce, cw, cr, cf⟩ false now = (⟨false, 0, pb, ps⟩, false) := by unfold resP; simp only
      rw [e0]
      simp only
      clear e0
      go_enter Try.func52, Try.ntmps52
      go_upto_region 1 with (fail)
      refine alloc_next3 (cs := [.bool false, .int .i64 pg, .int .i64 pb, .int .i64 ps]) (ds := [.int .i64 ce, .int .i64 cw, .int .i64 cr, .int .i64 cf]) (es := [.bool false, .int .i64 0, .int .i64 0, .int .i64 0]) ?_
      intro w1 hP hC hZ hs1 hz1
      generalize hwb : w.heap.size = wb at *
      have HWB := Lib.hid hwb
      clear hwb
      have c0 := hC.cell (i := 0) rfl
      have c1 := hC.cell (i := 1) rfl
      have c2 := hC.cell (i := 2) rfl
      have c3 := hC.cell (i := 3) rfl
      go_upto_region 2 with (first | (go_at_call 26; refine (HC.out _).mono ?_; rintro e w2 ⟨rfl, hs2⟩) | (refine wpList_store_blk rfl 26 (.tmp 5) (.tmp 12) rfl (hC.keep hs2 (fun h => h)) rfl (vs := [.int .i64 ce, .int .i64 cw, .int .i64 cr, .int .i64 cf]) rfl (by kernel_rfl) rfl (fun v hv => by simp only [List.mem_cons, List.not_mem_nil, or_false] at hv; rcases hv with rfl | rfl | rfl | rfl <;> rfl) ?_; intro w3 hC3 hs3))
      have hP3 := (hP.keep hs2 (fun h => h)).keep hs3 (fun e => by omega)
      have hZ3 := (hZ.keep hs2 (fun h => h)).keep hs3 (fun e => by omega)
      clear c0 c1 c2 c3
      have c2 := hC3.cell (i := 2) rfl
      have c3 := hC3.cell (i := 3) rfl
      have p03 := hP3.cell (i := 0) rfl
      have f03 := hP3.free 0
      have p13 := hP3.cell (i := 1) rfl
      have f13 := hP3.free 1
      have p23 := hP3.cell (i := 2) rfl
      have f23 := hP3.free 2
      have p33 := hP3.cell (i := 3) rfl
      have f33 := hP3.free 3
      have hst3 : Step (fun k => wb ≤ k) w w3 := ((hs1.same hs2).mono (fun _ _ h => h.elim)).same (hs3.mono (fun k _ e => by rw [show k = wb + 1 from e]; omega))
      clear hs2 hs3 hP hC hZ hC3
      go_upto_region 7 with (fail)
      go_upto_region 10 with (fail)
      refine put_plain hP3 ?_
      intro w5 hP5 hs5
      clear p03 f03 p13 f13 p23 f23 p33 f33
      have p05 := hP5.cell (i := 0) rfl
      have f05 := hP5.free 0
      have p15 := hP5.cell (i := 1) rfl
      have f15 := hP5.free 1
      have p25 := hP5.cell (i := 2) rfl
      have f25 := hP5.free 2
      have p35 := hP5.cell (i := 3) rfl
      have f35 := hP5.free 3
      have hZ9 := (hZ3.keep hs5 (fun e => by omega))
      go_wp2_with (refine wpList_store_blk rfl 75 (.tmp 8) (.tmp 53) rfl hZ9 rfl (vs := [.bool false, .int .i64 0, .int .i64 pb, .int .i64 ps]) rfl (by kernel_rfl) rfl (fun v hv => by simp only [List.mem_cons, List.not_mem_nil, or_false] at hv; rcases hv with rfl | rfl | rfl | rfl <;> rfl) ?_; intro w9 hZ10 hs9)
      try simp only [Exit.inBlock, Exit.then]
      have hst9 : Step (fun k => wb ≤ k) w w9 := ((hst3.same (hs5.mono (fun k _ e => by rw [show k = wb from e]; omega))).same (hs9.mono (fun k _ e => by rw [show k = wb + 1 + 1 from e]; omega)))
      rw [← HWB.out] at hst9
      exact post_cell_tmp (cs := [.bool false, .int .i64 0, .int .i64 pb, .int .i64 ps]) rfl rfl hZ10 Try.underlying75 rfl (by kernel_rfl) rfl rfl ⟨rfl, step_fresh hst9⟩
end Go.Proofs.Ytghiklaeenhljaa.Hea

/- cmp.Compare and cmp.Or of whole numbers. Own work of this seat. -/
namespace Go.Proofs.Ytghiklaeenhljaa.Cmp
open Go.RowKit Go.Proofs.Ytghiklaeenhljaa.Kit
set_option linter.unusedVariables false
set_option linter.unusedSimpArgs false
def cmpI (a b : Int) : Int := if a < b then -1 else if b < a then 1 else 0
def orI (x y : Int) : Int := if x = 0 then y else x
theorem isnan_calls (a : Int) (w : World) : Calls Try.prog 116 #[.int .i64 a] w fun e w' => e = .returned (.bool false) ∧ w = w' := by
  go_enter Try.func116, Try.ntmps116
  go_wp2
  go_ret
  exact ⟨by simp, rfl⟩
theorem compare_calls (a b : Int) (w : World) : Calls Try.prog 115 #[.int .i64 a, .int .i64 b] w fun e w' => e = .returned (.int .i64 (cmpI a b)) ∧ w = w' := by
  unfold cmpI
  by_cases h1 : a < b
  · rw [if_pos h1]
    go_enter Try.func115, Try.ntmps115
    go_wp2_with (go_at_call 116; refine (isnan_calls _ _).mono ?_; rintro e w' ⟨rfl, rfl⟩)
    go_ret
    exact ⟨rfl, rfl⟩
  · rw [if_neg h1]
    by_cases h2 : b < a
    · rw [if_pos h2]
      go_enter Try.func115, Try.ntmps115
      go_wp2_with (go_at_call 116; refine (isnan_calls _ _).mono ?_; rintro e w' ⟨rfl, rfl⟩)
      go_ret
      exact ⟨rfl, rfl⟩
    · rw [if_neg h2]
      go_enter Try.func115, Try.ntmps115
      go_wp2_with (go_at_call 116; refine (isnan_calls _ _).mono ?_; rintro e w' ⟨rfl, rfl⟩)
      go_ret
      exact ⟨rfl, rfl⟩
theorem or_calls {w : World} {b : Nat} (x y : Int) (h : Blk w b 3 [.int .i64 x, .int .i64 y]) : Calls Try.prog 114 #[.slice (some ⟨b, 0, none⟩) 2 2] w fun e w' => e = .returned (.int .i64 (orI x y)) ∧ w = w' := by
  unfold orI
  have c0 := h.cell (i := 0) rfl
  have c1 := h.cell (i := 1) rfl
  by_cases h1 : x = 0
  · rw [if_pos h1]
    subst h1
    by_cases h2 : y = 0
    · subst h2
      go_enter Try.func114, Try.ntmps114
      go_wp2
      refine wp_loop_rounds 3 ?_
      rw [rounds_succ]
      go_wp2
      rw [rounds_succ]
      go_wp2
      rw [rounds_succ]
      go_wp2
      go_ret
      exact ⟨rfl, rfl⟩
    · have h3 : (y != 0) = true := by simpa using h2
      have h4 : (y == 0) = false := by simpa using h2
      go_enter Try.func114, Try.ntmps114
      go_wp2
      refine wp_loop_rounds 2 ?_
      rw [rounds_succ]
      go_wp2
      rw [rounds_succ]
      go_wp2
      go_ret
      exact ⟨rfl, rfl⟩
  · rw [if_neg h1]
    have h3 : (x != 0) = true := by simpa using h1
    have h4 : (x == 0) = false := by simpa using h1
    go_enter Try.func114, Try.ntmps114
    go_wp2
    refine wp_loop_rounds 1 ?_
    rw [rounds_succ]
    go_wp2
    go_ret
    exact ⟨rfl, rfl⟩
end Go.Proofs.Ytghiklaeenhljaa.Cmp

/- Heaps as functions: what a swap of a parent and its child, up and down, leaves of the order. Plain Lean; own work of this seat. -/
namespace Go.Proofs.Ytghiklaeenhljaa.HeapP
set_option linter.unusedVariables false
def par (k : Nat) : Nat := (k - 1) / 2
section
variable {α : Type} (le : α → α → Prop)
def Bad1 (g : Nat → α) (p n : Nat) : Prop :=
  (∀ k, 0 < k → k < n → k ≠ p → par k ≠ p → le (g (par k)) (g k)) ∧ (∀ k, 0 < k → k < n → par k = p → 0 < p → le (g (par p)) (g k))
def KidsOk (g : Nat → α) (p n : Nat) : Prop := ∀ k, 0 < k → k < n → par k = p → le (g p) (g k)
def HeapG (g : Nat → α) (n : Nat) : Prop := ∀ k, 0 < k → k < n → le (g (par k)) (g k)
def swp (g : Nat → α) (i j : Nat) : Nat → α := fun k => if k = i then g j else if k = j then g i else g k
def Tr : Prop := ∀ a b c, le a b → le b c → le a c
variable {le}
theorem par_lt {k : Nat} (h : 0 < k) : par k < k := by unfold par; omega
theorem swp_l (g : Nat → α) (i j : Nat) : swp g i j i = g j := by simp [swp]
theorem swp_r (g : Nat → α) (i j : Nat) : swp g i j j = g i := by
  unfold swp
  by_cases h : j = i
  · subst h; simp
  · simp [h]
theorem swp_o (g : Nat → α) {i j k : Nat} (h1 : k ≠ i) (h2 : k ≠ j) : swp g i j k = g k := by simp [swp, h1, h2]
theorem stop {g : Nat → α} {j n : Nat} (hb : Bad1 le g j n) (hk : KidsOk le g j n) (hp : 0 < j → le (g (par j)) (g j)) : HeapG le g n := by
  intro k h0 h1
  by_cases e : k = j
  · subst e; exact hp h0
  · by_cases e2 : par k = j
    · have := hk k h0 h1 e2
      rw [e2]; exact this
    · exact hb.1 k h0 h1 e e2
theorem up_step (tr : Tr le) {g : Nat → α} {j n : Nat} (h0 : 0 < j) (hj : j < n) (hb : Bad1 le g j n) (hk : KidsOk le g j n) (hl : le (g j) (g (par j))) : Bad1 le (swp g (par j) j) (par j) n ∧ KidsOk le (swp g (par j) j) (par j) n := by
  have hpj := par_lt h0
  have hup : 0 < par j → le (g (par (par j))) (g (par j)) := fun h => by
    have := par_lt h
    exact hb.1 (par j) h (by omega) (by omega) (by omega)
  refine ⟨⟨fun k k0 k1 k2 k3 => ?_, fun k k0 k1 k2 k3 => ?_⟩, fun k k0 k1 k2 => ?_⟩
  · have hkj : k ≠ j := fun e => k3 (by rw [e])
    rw [swp_o g k2 hkj]
    by_cases e : par k = j
    · rw [e, swp_r]
      exact hb.2 k k0 k1 e h0
    · rw [swp_o g k3 e]
      exact hb.1 k k0 k1 hkj e
  · have h1 := par_lt k3
    rw [swp_o g (by omega : par (par j) ≠ par j) (by omega)]
    by_cases e : k = j
    · subst e
      rw [swp_r]; exact hup k3
    · have := par_lt k0
      rw [swp_o g (by omega) e]
      refine tr _ _ _ (hup k3) ?_
      have := hb.1 k k0 k1 e (by omega)
      rwa [k2] at this
  · rw [swp_l]
    by_cases e : k = j
    · subst e
      rw [swp_r]; exact hl
    · have h1 := par_lt k0
      rw [swp_o g (by omega) e]
      refine tr _ _ _ hl ?_
      have := hb.1 k k0 k1 e (by omega)
      rwa [k2] at this
theorem dn_step {g : Nat → α} {i j n : Nat} (h0 : 0 < j) (hj : j < n) (hp : par j = i) (hb : Bad1 le g i n) (hl : le (g j) (g i)) (hm : KidsOk le (fun k => if k = i then g j else g k) i n) :
    Bad1 le (swp g i j) j n ∧ (0 < j → le (swp g i j (par j)) (swp g i j j)) := by
  have hij : i < j := by have := par_lt h0; omega
  refine ⟨⟨fun k k0 k1 k2 k3 => ?_, fun k k0 k1 k2 k3 => ?_⟩, fun _ => ?_⟩
  · by_cases e : k = i
    · subst e
      have h1 := par_lt k0
      rw [swp_o g (by omega) k3, swp_l]
      exact hb.2 j h0 hj hp k0
    · rw [swp_o g e k2]
      by_cases e2 : par k = i
      · rw [e2, swp_l]
        have := hm k k0 k1 e2
        simpa [e] using this
      · rw [swp_o g e2 k3]
        exact hb.1 k k0 k1 e e2
  · have h1 := par_lt k0
    rw [hp, swp_l, swp_o g (by omega) (by omega)]
    have := hb.1 k k0 k1 (by omega) (by omega)
    rwa [k2] at this
  · rw [hp, swp_l, swp_r]
    exact hl
theorem push_bad {g g' : Nat → α} {n : Nat} (h : HeapG le g n) (e : ∀ k, k < n → g' k = g k) : Bad1 le g' n (n + 1) ∧ KidsOk le g' n (n + 1) := by
  refine ⟨⟨fun k k0 k1 k2 k3 => ?_, fun k k0 k1 k2 k3 => ?_⟩, fun k k0 k1 k2 => ?_⟩
  · have := par_lt k0
    rw [e _ (by omega), e _ (by omega)]
    exact h k k0 (by omega)
  · have := par_lt k0; omega
  · have := par_lt k0; omega
theorem remove_bad (tr : Tr le) {g : Nat → α} {i n : Nat} (hi : i < n) (h : HeapG le g (n + 1)) : Bad1 le (swp g i n) i n := by
  refine ⟨fun k k0 k1 k2 k3 => ?_, fun k k0 k1 k2 k3 => ?_⟩
  · have := par_lt k0
    rw [swp_o g k2 (by omega), swp_o g k3 (by omega)]
    exact h k k0 (by omega)
  · have h1 := par_lt k0
    have h2 := par_lt k3
    rw [swp_o g (by omega : k ≠ i) (by omega), swp_o g (by omega : par i ≠ i) (by omega)]
    refine tr _ _ _ (h i k3 (by omega)) ?_
    have := h k k0 (by omega)
    rwa [k2] at this
theorem fix_bad (tr : Tr le) {g g' : Nat → α} {p n : Nat} (h : HeapG le g n) (e : ∀ k, k ≠ p → g' k = g k) : Bad1 le g' p n := by
  refine ⟨fun k k0 k1 k2 k3 => ?_, fun k k0 k1 k2 k3 => ?_⟩
  · rw [e k k2, e _ k3]
    exact h k k0 k1
  · have h1 := par_lt k0
    have h2 := par_lt k3
    rw [e k (by omega), e _ (by omega : par p ≠ p)]
    refine tr _ _ _ (h p k3 (by omega)) ?_
    have := h k k0 (by omega)
    rwa [k2] at this
theorem shrink {g : Nat → α} {n m : Nat} (h : HeapG le g n) (hm : m ≤ n) : HeapG le g m := fun k k0 k1 => h k k0 (by omega)
theorem heap_ext {g g' : Nat → α} {n : Nat} (h : HeapG le g n) (e : ∀ k, k < n → g' k = g k) : HeapG le g' n := fun k k0 k1 => by
  have := par_lt k0
  rw [e k k1, e _ (by omega)]; exact h k k0 k1
theorem heap_min (tr : Tr le) (rf : ∀ a, le a a) {g : Nat → α} {n : Nat} (h : HeapG le g n) : ∀ k, k < n → le (g 0) (g k) := by
  intro k
  induction k using Nat.strongRecOn with
  | ind k ih =>
    intro hk
    by_cases e : k = 0
    · subst e; exact rf _
    · have h0 : 0 < k := by omega
      have := par_lt h0
      exact tr _ _ _ (ih (par k) this (by omega)) (h k h0 hk)
end

section
variable {α : Type} [Inhabited α]
def lg (xs : List α) : Nat → α := fun k => xs.getD k default
def sw (xs : List α) (i j : Nat) : List α := (xs.set i (lg xs j)).set j (lg xs i)
theorem lg_get {xs : List α} {k : Nat} (h : k < xs.length) : lg xs k = xs[k] := by
  unfold lg; rw [List.getD_eq_getElem?_getD, List.getElem?_eq_getElem h]; rfl
theorem lg_some {xs : List α} {k : Nat} {x : α} (h : xs[k]? = some x) : lg xs k = x := by
  unfold lg; rw [List.getD_eq_getElem?_getD, h]; rfl
theorem get_lg {xs : List α} {k : Nat} (h : k < xs.length) : xs[k]? = some (lg xs k) := by rw [lg_get h, List.getElem?_eq_getElem h]
theorem sw_length (xs : List α) (i j : Nat) : (sw xs i j).length = xs.length := by simp [sw]
theorem lg_sw {xs : List α} {i j : Nat} (hi : i < xs.length) (hj : j < xs.length) : lg (sw xs i j) = swp (lg xs) i j := by
  funext k
  unfold swp
  by_cases e1 : k = i
  · subst e1
    rw [if_pos rfl]
    apply lg_some
    unfold sw
    rw [List.getElem?_set]
    by_cases e : j = k
    · subst e; simp [hj]
    · rw [if_neg e, List.getElem?_set_self hi]
  · rw [if_neg e1]
    by_cases e2 : k = j
    · subst e2
      rw [if_pos rfl]
      apply lg_some
      unfold sw
      rw [List.getElem?_set_self (by simpa using hj)]
    · rw [if_neg e2]
      unfold sw lg
      rw [List.getD_eq_getElem?_getD, List.getElem?_set_ne (fun h => e2 h.symm), List.getElem?_set_ne (fun h => e1 h.symm), ← List.getD_eq_getElem?_getD]
theorem sw_get {xs : List α} {i j k : Nat} (hi : i < xs.length) (hj : j < xs.length) (hk : k < xs.length) : (sw xs i j)[k]? = some (swp (lg xs) i j k) := by
  rw [get_lg (by rw [sw_length]; exact hk), lg_sw hi hj]
theorem sw_perm {xs : List α} {i j : Nat} (hi : i < xs.length) (hj : j < xs.length) : (sw xs i j).Perm xs := by
  unfold sw
  rw [lg_get hi, lg_get hj]
  exact List.set_set_perm hi hj
theorem sw_self {xs : List α} {i : Nat} (hi : i < xs.length) : sw xs i i = xs := by
  apply List.ext_getElem?
  intro k
  by_cases hk : k < xs.length
  · rw [sw_get hi hi hk, get_lg hk]
    unfold swp
    split
    · rename_i h; rw [h]
    · rfl
  · rw [List.getElem?_eq_none (by rw [sw_length]; omega), List.getElem?_eq_none (by omega)]
end
end Go.Proofs.Ytghiklaeenhljaa.HeapP

/- agenda: the items and their pile in memory; compare, Len, Less. Own work of this seat. -/
namespace Go.Proofs.Ytghiklaeenhljaa.AgStr
open Go.RowKit Go.Proofs.Ytghiklaeenhljaa.Kit Go.Proofs.Ytghiklaeenhljaa.Cmp Go.Proofs.Ytghiklaeenhljaa.HeapP
set_option linter.unusedVariables false
set_option linter.unusedSimpArgs false

structure It where
  key : ByteArray
  tm : Int
  turn : Int
  blk : Nat
instance : Inhabited It := ⟨⟨default, 0, 0, 0⟩⟩
def lt (x y : It) : Bool := decide (x.tm < y.tm) || (decide (x.tm = y.tm) && decide (x.turn < y.turn))
def le (x y : It) : Prop := lt y x = false
def cmpV (x y : It) : Int := orI (cmpI x.tm y.tm) (cmpI x.turn y.turn)
theorem lt_iff (x y : It) : lt x y = true ↔ (x.tm < y.tm ∨ (x.tm = y.tm ∧ x.turn < y.turn)) := by simp [lt]
theorem lt_not (x y : It) : lt x y = false ↔ ¬ (x.tm < y.tm ∨ (x.tm = y.tm ∧ x.turn < y.turn)) := by
  rw [← lt_iff]; simp
theorem le_iff (x y : It) : le x y ↔ ¬ (y.tm < x.tm ∨ (y.tm = x.tm ∧ y.turn < x.turn)) := lt_not y x
theorem le_tr : Tr le := by
  intro a b c h1 h2
  rw [le_iff] at *
  omega
theorem le_rf (a : It) : le a a := by rw [le_iff]; omega
theorem le_of_lt {a b : It} (h : lt a b = true) : le a b := by
  rw [lt_iff] at h
  rw [le_iff]
  omega
theorem cmpV_lt (x y : It) : decide (cmpV x y < 0) = lt x y := by
  rw [Bool.eq_iff_iff, lt_iff, decide_eq_true_eq]
  unfold cmpV orI cmpI
  by_cases h1 : x.tm < y.tm
  · simp [h1]
  · by_cases h2 : y.tm < x.tm
    · simp [h1, h2]; omega
    · have e : x.tm = y.tm := by omega
      by_cases h3 : x.turn < y.turn
      · simp [h1, h2, h3, e]
      · by_cases h4 : y.turn < x.turn
        · simp [h1, h2, h3, h4, e]
        · simp [h1, h2, h3, h4, e]

def icells (x : It) (i : Nat) : List Value := [Value.string x.key, .int .i64 x.tm, .int .i64 x.turn, .int .i64 (i : Int)]
def ptr (x : It) : Value := .pointer (some ⟨x.blk, 0, none⟩)
structure HM (w : World) (a : Nat) (M : Value) (turn : Int) (A : Option Addr) (c : Nat) (xs : List It) : Prop where
  blk : Blk w a 114 [.slice A xs.length c, M, .int .i64 turn]
  row : FSeg w 118 1 A xs.length c (xs.map ptr)
  itm : ∀ i x, xs[i]? = some x → Blk w x.blk 117 (icells x i)
  nd : (xs.map (·.blk)).Nodup
  na : ∀ x ∈ xs, x.blk ≠ a ∧ blockOf A ≠ some x.blk
  nA : blockOf A ≠ some a
/-- The blocks of the pile: its row and its items. -/
def foot (A : Option Addr) (xs : List It) (k : Nat) : Prop := blockOf A = some k ∨ ∃ x ∈ xs, x.blk = k
theorem HM.still {w w' : World} {a : Nat} {M : Value} {turn : Int} {A : Option Addr} {c : Nat} {xs : List It} {F : Nat → Prop} (h : HM w a M turn A c xs) (hs : Step F w w') (ha : ¬ F a) (hf : ∀ k, foot A xs k → ¬ F k) : HM w' a M turn A c xs :=
  ⟨h.blk.keep hs ha, h.row.keep hs (fun k hk => hf k (.inl hk)), fun i x hi => (h.itm i x hi).keep hs (hf _ (.inr ⟨x, List.mem_of_getElem? hi, rfl⟩)), h.nd, h.na, h.nA⟩
theorem HM.same {w w' : World} {a : Nat} {M : Value} {turn : Int} {A : Option Addr} {c : Nat} {xs : List It} (h : HM w a M turn A c xs) (hs : Step (fun _ => False) w w') : HM w' a M turn A c xs := h.still hs (fun h => h) (fun _ _ h => h)

set_option maxRecDepth 100000 in
set_option maxHeartbeats 1000000 in
theorem compare_calls {w : World} (x y : It) (i j : Nat) (hx : Blk w x.blk 117 (icells x i)) (hy : Blk w y.blk 117 (icells y j)) :
    Calls Try.prog 113 #[ptr x, ptr y] w fun e w' => e = .returned (.int .i64 (cmpV x y)) ∧ Step (fun _ => False) w w' := by
  unfold ptr cmpV
  obtain ⟨k1, t1, u1, b1⟩ := x
  obtain ⟨k2, t2, u2, b2⟩ := y
  have x1 := hx.cell (i := 1) rfl
  have x2 := hx.cell (i := 2) rfl
  have y1 := hy.cell (i := 1) rfl
  have y2 := hy.cell (i := 2) rfl
  have hxl := hx.lt
  have hyl := hy.lt
  simp only at x1 x2 y1 y2 hxl hyl ⊢
  clear hx hy
  have HC0 := fun (a b : Int) (w : World) => Go.Proofs.Ytghiklaeenhljaa.Cmp.compare_calls a b w
  have HC := Lib.hid HC0
  have HO0 : ∀ a b : Int, Blk ((w.alloc (.cells #[.int .i64 a, .int .i64 b] 3)).drew) w.heap.size 3 [.int .i64 a, .int .i64 b] := fun a b => (blk_new w [.int .i64 a, .int .i64 b] 3).drew
  have HO := Lib.hid HO0
  clear HC0 HO0
  go_enter Try.func113, Try.ntmps113
  go_upto_region 1 with (fail)
  go_region_held3 (fun w' => w'.cell? ⟨b1, 1, none⟩ = some (.int .i64 t1) ∧ w'.cell? ⟨b1, 2, none⟩ = some (.int .i64 u1) ∧ w'.cell? ⟨b2, 1, none⟩ = some (.int .i64 t2) ∧ w'.cell? ⟨b2, 2, none⟩ = some (.int .i64 u2)) (go_keep)
    (first | (go_at_call 115; refine (HC.out _ _ _).mono ?_; rintro e w' ⟨rfl, rfl⟩) | (go_at_call 114; refine (or_calls _ _ (HO.out _ _)).mono ?_; rintro e w' ⟨rfl, rfl⟩))
  go_wp2
  go_ret
  exact ⟨rfl, ((Step.refl _ _).alloc _).drew⟩

theorem HM.pick {w : World} {a : Nat} {M : Value} {turn : Int} {A : Option Addr} {c : Nat} {xs : List It} (h : HM w a M turn A c xs) {i : Nat} (hi : i < xs.length) : ∃ g, A = some ⟨g, 0, none⟩ ∧ w.cell? ⟨g, i, none⟩ = some (.pointer (some ⟨(lg xs i).blk, 0, none⟩)) ∧ Blk w (lg xs i).blk 117 (icells (lg xs i) i) := by
  obtain ⟨g, rfl⟩ := h.row.isSome (by omega)
  refine ⟨g, rfl, ?_, h.itm i _ (get_lg hi)⟩
  exact h.row.cell (by rw [List.getElem?_map, get_lg hi]; rfl)

set_option maxRecDepth 100000 in
set_option maxHeartbeats 1000000 in
theorem less_calls {w : World} {a : Nat} {M : Value} {turn : Int} {A : Option Addr} {c : Nat} {xs : List It} (h : HM w a M turn A c xs) {i j : Nat} (hi : i < xs.length) (hj : j < xs.length) :
    Calls Try.prog 111 #[.slice A xs.length c, .int .i64 (i : Int), .int .i64 (j : Int)] w fun e w' => e = .returned (.bool (lt (lg xs i) (lg xs j))) ∧ Step (fun _ => False) w w' := by
  obtain ⟨g, rfl, hci, hbi⟩ := h.pick hi
  obtain ⟨g', e', hcj, hbj⟩ := h.pick hj
  obtain rfl : g = g' := by simpa using e'
  rw [← cmpV_lt]
  have HC0 := fun w' (hs : Step (fun _ => False) w w') => compare_calls (w := w') (lg xs i) (lg xs j) i j (hbi.keep hs (fun h => h)) (hbj.keep hs (fun h => h))
  have hle := h.row.le
  have HK0 : ∀ w', Step (fun _ => False) w w' → w'.cell? ⟨g, i, none⟩ = some (.pointer (some ⟨(lg xs i).blk, 0, none⟩)) ∧ w'.cell? ⟨g, j, none⟩ = some (.pointer (some ⟨(lg xs j).blk, 0, none⟩)) := fun w' hs =>
    ⟨(h.row.keep hs (fun _ _ h => h)).cell (by rw [List.getElem?_map, get_lg hi]; rfl), (h.row.keep hs (fun _ _ h => h)).cell (by rw [List.getElem?_map, get_lg hj]; rfl)⟩
  clear hbi hbj h e'
  obtain ⟨v, hv⟩ : ∃ v, cmpV (lg xs i) (lg xs j) = v := ⟨_, rfl⟩
  rw [hv] at HC0 ⊢
  unfold AgStr.ptr at HC0
  generalize (lg xs i).blk = bi at *
  generalize (lg xs j).blk = bj at *
  generalize xs.length = n at *
  have i1 : (0 : Int) ≤ (i : Int) := by omega
  have i2 : (i : Int) < (n : Int) := by omega
  have j1 : (0 : Int) ≤ (j : Int) := by omega
  have j2 : (j : Int) < (n : Int) := by omega
  clear hv hi hj
  have HK := Lib.hid HK0
  have HC := Lib.hid HC0
  have hdr := (Step.refl (fun _ => False) w).drew
  clear HK0 HC0
  go_enter Try.func111, Try.ntmps111
  go_upto_region 1 with (fail)
  go_region_held3 (fun w' => w'.cell? ⟨g, i, none⟩ = some (.pointer (some ⟨bi, 0, none⟩)) ∧ w'.cell? ⟨g, j, none⟩ = some (.pointer (some ⟨bj, 0, none⟩))) (first | go_keep | exact HK.out _ hs1)
    ((go_at_call 113; refine (HC.out _ hdr).mono ?_; rintro e w1 ⟨rfl, hs0⟩; have hs1 := hdr.same hs0; clear hs0))
  go_wp2
  go_ret
  exact ⟨rfl, hs1⟩
end Go.Proofs.Ytghiklaeenhljaa.AgStr

/- agenda: Len, Swap, Push, Pop of the pile. Own work of this seat. -/
namespace Go.Proofs.Ytghiklaeenhljaa.AgStr
open Go.RowKit Go.Proofs.Ytghiklaeenhljaa.Kit Go.Proofs.Ytghiklaeenhljaa.Cmp Go.Proofs.Ytghiklaeenhljaa.HeapP
set_option linter.unusedVariables false
set_option linter.unusedSimpArgs false

theorem len_calls (A : Option Addr) (n c : Nat) (w : World) : Calls Try.prog 110 #[.slice A n c] w fun e w' => e = .returned (.int .i64 (n : Int)) ∧ w = w' := by
  go_enter Try.func110, Try.ntmps110
  go_wp2
  go_ret
  exact ⟨rfl, rfl⟩


set_option maxRecDepth 100000 in
set_option maxHeartbeats 1000000 in
theorem swap_ne {w : World} {g i j n c bi bj : Nat} (hi : i < n) (hj : j < n) (hn : i ≠ j) (hle : n ≤ c) (ci : w.cell? ⟨g, i, none⟩ = some (.pointer (some ⟨bi, 0, none⟩))) (cj : w.cell? ⟨g, j, none⟩ = some (.pointer (some ⟨bj, 0, none⟩)))
    (fi : w.frozen? ⟨g, i, none⟩ = false) (fj : w.frozen? ⟨g, j, none⟩ = false)
    (xi : ∃ v, w.cell? ⟨bi, 3, none⟩ = some v) (xj : ∃ v, w.cell? ⟨bj, 3, none⟩ = some v) (gi : w.frozen? ⟨bi, 3, none⟩ = false) (gj : w.frozen? ⟨bj, 3, none⟩ = false) (h1 : g ≠ bi) (h2 : g ≠ bj) (h3 : bi ≠ bj) :
    Calls Try.prog 112 #[.slice (some ⟨g, 0, none⟩) n c, .int .i64 (i : Int), .int .i64 (j : Int)] w fun e w' => e = .returned (.tuple #[]) ∧
      w' = ((((w.setCell ⟨g, i, none⟩ (.pointer (some ⟨bj, 0, none⟩))).setCell ⟨g, j, none⟩ (.pointer (some ⟨bi, 0, none⟩))).setCell ⟨bj, 3, none⟩ (.int .i64 (i : Int))).setCell ⟨bi, 3, none⟩ (.int .i64 (j : Int))).drew.drew := by
  have hn' : ¬ (j = i) := fun e => hn e.symm
  have i1 : (0 : Int) ≤ (i : Int) := by omega
  have i2 : (i : Int) < (n : Int) := by omega
  have j1 : (0 : Int) ≤ (j : Int) := by omega
  have j2 : (j : Int) < (n : Int) := by omega
  obtain ⟨vi, xi⟩ := xi
  obtain ⟨vj, xj⟩ := xj
  go_enter Try.func112, Try.ntmps112
  go_wp2
  go_region
  all_goals go_wp2
  all_goals go_region
  go_end0
  exact ⟨rfl, rfl⟩

set_option maxRecDepth 100000 in
set_option maxHeartbeats 1000000 in
theorem swap_eq {w : World} {g i n c bi : Nat} (hi : i < n) (hle : n ≤ c) (ci : w.cell? ⟨g, i, none⟩ = some (.pointer (some ⟨bi, 0, none⟩)))
    (fi : w.frozen? ⟨g, i, none⟩ = false) (xi : ∃ v, w.cell? ⟨bi, 3, none⟩ = some v) (gi : w.frozen? ⟨bi, 3, none⟩ = false) (h1 : g ≠ bi) :
    Calls Try.prog 112 #[.slice (some ⟨g, 0, none⟩) n c, .int .i64 (i : Int), .int .i64 (i : Int)] w fun e w' => e = .returned (.tuple #[]) ∧
      w' = ((((w.setCell ⟨g, i, none⟩ (.pointer (some ⟨bi, 0, none⟩))).setCell ⟨g, i, none⟩ (.pointer (some ⟨bi, 0, none⟩))).setCell ⟨bi, 3, none⟩ (.int .i64 (i : Int))).setCell ⟨bi, 3, none⟩ (.int .i64 (i : Int))).drew.drew := by
  have i1 : (0 : Int) ≤ (i : Int) := by omega
  have i2 : (i : Int) < (n : Int) := by omega
  obtain ⟨vi, xi⟩ := xi
  go_enter Try.func112, Try.ntmps112
  go_wp2
  go_region
  all_goals go_wp2
  all_goals go_region
  go_end0
  exact ⟨rfl, rfl⟩

theorem nd_blk {xs : List It} (h : (xs.map (·.blk)).Nodup) {i j : Nat} (hi : i < xs.length) (hj : j < xs.length) (e : (lg xs i).blk = (lg xs j).blk) : i = j := by
  rcases Nat.lt_trichotomy i j with h1 | h1 | h1
  · have := (List.pairwise_iff_getElem.1 h) i j (by simpa using hi) (by simpa using hj) h1
    simp only [List.getElem_map] at this
    rw [lg_get hi, lg_get hj] at e
    exact absurd e this
  · exact h1
  · have := (List.pairwise_iff_getElem.1 h) j i (by simpa using hj) (by simpa using hi) h1
    simp only [List.getElem_map] at this
    rw [lg_get hi, lg_get hj] at e
    exact absurd e.symm this
theorem lg_mem {xs : List It} {i : Nat} (hi : i < xs.length) : lg xs i ∈ xs := by rw [lg_get hi]; exact List.getElem_mem hi
theorem sw_map (xs : List It) (i j : Nat) : (sw xs i j).map ptr = ((xs.map ptr).set i (ptr (lg xs j))).set j (ptr (lg xs i)) := by
  unfold sw; rw [List.map_set, List.map_set]

theorem swap_calls {w : World} {a : Nat} {M : Value} {turn : Int} {A : Option Addr} {c : Nat} {xs : List It} (h : HM w a M turn A c xs) {i j : Nat} (hi : i < xs.length) (hj : j < xs.length) :
    Calls Try.prog 112 #[.slice A xs.length c, .int .i64 (i : Int), .int .i64 (j : Int)] w fun e w' => e = .returned (.tuple #[]) ∧ HM w' a M turn A c (sw xs i j) ∧ Step (foot A xs) w w' := by
  obtain ⟨g, rfl, hci, hbi⟩ := h.pick hi
  obtain ⟨g', e', hcj, hbj⟩ := h.pick hj
  obtain rfl : g = g' := by simpa using e'
  have fi := h.row.free i
  have fj := h.row.free j
  obtain ⟨ni, mi⟩ := h.na _ (lg_mem hi)
  obtain ⟨nj, mj⟩ := h.na _ (lg_mem hj)
  have hga : g ≠ a := fun e => h.nA (by rw [e]; rfl)
  have hgi : g ≠ (lg xs i).blk := fun e => mi (by rw [← e]; rfl)
  have hgj : g ≠ (lg xs j).blk := fun e => mj (by rw [← e]; rfl)
  have foot_r : ∀ k, k = g → foot (some ⟨g, 0, none⟩) xs k := fun k e => .inl (by rw [e]; rfl)
  have foot_i : ∀ k, k = (lg xs i).blk → foot (some ⟨g, 0, none⟩) xs k := fun k e => .inr ⟨_, lg_mem hi, e.symm⟩
  have foot_j : ∀ k, k = (lg xs j).blk → foot (some ⟨g, 0, none⟩) xs k := fun k e => .inr ⟨_, lg_mem hj, e.symm⟩
  by_cases hn : i = j
  · subst hn
    rw [sw_self hi]
    refine (swap_eq hi h.row.le hci fi ⟨_, hbi.cell (i := 3) rfl⟩ (hbi.free 3) hgi).mono ?_
    rintro e w' ⟨rfl, rfl⟩
    have s1 : Step (· = g) w (w.setCell ⟨g, i, none⟩ (.pointer (some ⟨(lg xs i).blk, 0, none⟩))) := step_put _ _ _ _
    have s2 : Step (· = g) _ ((w.setCell ⟨g, i, none⟩ (.pointer (some ⟨(lg xs i).blk, 0, none⟩))).setCell ⟨g, i, none⟩ (.pointer (some ⟨(lg xs i).blk, 0, none⟩))) := step_put _ _ _ _
    have s12 := s1.same s2
    have s3 := step_put ((w.setCell ⟨g, i, none⟩ (.pointer (some ⟨(lg xs i).blk, 0, none⟩))).setCell ⟨g, i, none⟩ (.pointer (some ⟨(lg xs i).blk, 0, none⟩))) (lg xs i).blk 3 (.int .i64 (i : Int))
    have s4 := step_put (((w.setCell ⟨g, i, none⟩ (.pointer (some ⟨(lg xs i).blk, 0, none⟩))).setCell ⟨g, i, none⟩ (.pointer (some ⟨(lg xs i).blk, 0, none⟩))).setCell ⟨(lg xs i).blk, 3, none⟩ (.int .i64 (i : Int))) (lg xs i).blk 3 (.int .i64 (i : Int))
    have s34 := (s3.same s4).drew.drew
    have r2 := (h.row.set i (.pointer (some ⟨(lg xs i).blk, 0, none⟩))).set i (.pointer (some ⟨(lg xs i).blk, 0, none⟩))
    have e1 : ((xs.map ptr).set i (.pointer (some ⟨(lg xs i).blk, 0, none⟩))).set i (.pointer (some ⟨(lg xs i).blk, 0, none⟩)) = xs.map ptr := by
      have := sw_map xs i i
      rw [sw_self hi] at this
      exact this.symm
    rw [e1] at r2
    refine ⟨rfl, ⟨(h.blk.keep s12 (fun e => hga e.symm)).keep s34 (fun e => ni e.symm), r2.keep s34 (fun k hk e => hgi ((Option.some.inj hk).trans e)), fun k x hk => ?_, h.nd, h.na, h.nA⟩, (s12.mono (fun k _ e => foot_r k e)).same (s34.mono (fun k _ e => foot_i k e))⟩
    have hkl := (List.getElem?_eq_some_iff.1 hk).1
    obtain rfl := lg_some hk
    have hx := (h.itm k _ hk).keep s12 (fun e => (h.na _ (lg_mem hkl)).2 (by rw [e]; rfl))
    by_cases e : k = i
    · subst e
      exact ((hx.set 3 (.int .i64 (k : Int))).set 3 (.int .i64 (k : Int))).drew.drew
    · exact hx.keep s34 (fun e' => e (nd_blk h.nd hkl hi e'))
  · have hbij : (lg xs i).blk ≠ (lg xs j).blk := fun e => hn (nd_blk h.nd hi hj e)
    refine (swap_ne hi hj hn h.row.le hci hcj fi fj ⟨_, hbi.cell (i := 3) rfl⟩ ⟨_, hbj.cell (i := 3) rfl⟩ (hbi.free 3) (hbj.free 3) hgi hgj hbij).mono ?_
    rintro e w' ⟨rfl, rfl⟩
    have s1 : Step (· = g) w (w.setCell ⟨g, i, none⟩ (.pointer (some ⟨(lg xs j).blk, 0, none⟩))) := step_put _ _ _ _
    have s2 : Step (· = g) _ ((w.setCell ⟨g, i, none⟩ (.pointer (some ⟨(lg xs j).blk, 0, none⟩))).setCell ⟨g, j, none⟩ (.pointer (some ⟨(lg xs i).blk, 0, none⟩))) := step_put _ _ _ _
    have s12 := s1.same s2
    have r2 := (h.row.set i (.pointer (some ⟨(lg xs j).blk, 0, none⟩))).set j (.pointer (some ⟨(lg xs i).blk, 0, none⟩))
    have e1 : ((xs.map ptr).set i (.pointer (some ⟨(lg xs j).blk, 0, none⟩))).set j (.pointer (some ⟨(lg xs i).blk, 0, none⟩)) = (sw xs i j).map ptr := (sw_map xs i j).symm
    rw [e1] at r2
    have b2 := h.blk.keep s12 (fun e => hga e.symm)
    have i2 : ∀ k x, xs[k]? = some x → Blk ((w.setCell ⟨g, i, none⟩ (.pointer (some ⟨(lg xs j).blk, 0, none⟩))).setCell ⟨g, j, none⟩ (.pointer (some ⟨(lg xs i).blk, 0, none⟩))) x.blk 117 (icells x k) := fun k x hk =>
      (h.itm k x hk).keep s12 (fun e => (h.na _ (List.mem_of_getElem? hk)).2 (by rw [e]; rfl))
    have f12 := s12.mono (fun k _ e => foot_r k e)
    clear s12 s1 s2 hci hcj hbi hbj fi fj
    generalize (w.setCell ⟨g, i, none⟩ (.pointer (some ⟨(lg xs j).blk, 0, none⟩))).setCell ⟨g, j, none⟩ (.pointer (some ⟨(lg xs i).blk, 0, none⟩)) = w2 at *
    have s3 := step_put w2 (lg xs j).blk 3 (.int .i64 (i : Int))
    have s4 := step_put (w2.setCell ⟨(lg xs j).blk, 3, none⟩ (.int .i64 (i : Int))) (lg xs i).blk 3 (.int .i64 (j : Int))
    have s34 : Step (fun k => k = (lg xs j).blk ∨ k = (lg xs i).blk) w2 _ := ((s3.mono (fun _ _ h => .inl h)).same (s4.mono (fun _ _ h => .inr h))).drew.drew
    refine ⟨rfl, ⟨?_, ?_, fun k x hk => ?_, ?_, fun x hx => h.na x ((sw_perm hi hj).mem_iff.1 hx), h.nA⟩, f12.same (s34.mono (fun k _ e => e.elim (foot_j k) (foot_i k)))⟩
    · rw [sw_length]
      exact b2.keep s34 (fun e => e.elim (fun e => nj e.symm) (fun e => ni e.symm))
    · rw [sw_length]
      exact r2.keep s34 (fun k hk e => e.elim (fun e => hgj ((Option.some.inj hk).trans e)) (fun e => hgi ((Option.some.inj hk).trans e)))
    · have hkl : k < xs.length := by have := (List.getElem?_eq_some_iff.1 hk).1; rwa [sw_length] at this
      rw [sw_get hi hj hkl] at hk
      obtain rfl := Option.some.inj hk
      by_cases e1 : k = i
      · subst e1
        rw [swp_l]
        have := ((i2 j _ (get_lg hj)).set 3 (.int .i64 (k : Int))).other (p := ⟨(lg xs k).blk, 3, none⟩) (fun e => hbij e.symm) (.int .i64 (j : Int))
        exact this.drew.drew
      · by_cases e2 : k = j
        · subst e2
          rw [swp_r]
          have := ((i2 i _ (get_lg hi)).other (p := ⟨(lg xs k).blk, 3, none⟩) hbij (.int .i64 (i : Int))).set 3 (.int .i64 (k : Int))
          exact this.drew.drew
        · rw [swp_o _ e1 e2]
          exact (i2 k _ (get_lg hkl)).keep s34 (fun e => e.elim (fun e => e2 (nd_blk h.nd hkl hj e)) (fun e => e1 (nd_blk h.nd hkl hi e)))
    · exact ((sw_perm hi hj).map (·.blk)).nodup_iff.2 h.nd
theorem foot_sw {A : Option Addr} {xs : List It} {i j : Nat} (hi : i < xs.length) (hj : j < xs.length) (k : Nat) : foot A (sw xs i j) k ↔ foot A xs k := by
  unfold foot
  constructor
  · rintro (h | ⟨x, hx, e⟩)
    · exact .inl h
    · exact .inr ⟨x, (sw_perm hi hj).mem_iff.1 hx, e⟩
  · rintro (h | ⟨x, hx, e⟩)
    · exact .inl h
    · exact .inr ⟨x, (sw_perm hi hj).mem_iff.2 hx, e⟩
end Go.Proofs.Ytghiklaeenhljaa.AgStr

/- agenda: Pop and Push of the pile. Own work of this seat. -/
namespace Go.Proofs.Ytghiklaeenhljaa.AgStr
open Go.RowKit Go.Proofs.Ytghiklaeenhljaa.Kit Go.Proofs.Ytghiklaeenhljaa.Cmp Go.Proofs.Ytghiklaeenhljaa.HeapP
set_option linter.unusedVariables false
set_option linter.unusedSimpArgs false

theorem HM.take {w w' : World} {a : Nat} {M : Value} {turn : Int} {A : Option Addr} {c : Nat} {xs : List It} (h : HM w a M turn A c xs) {m : Nat} (hm : m ≤ xs.length) (hs : Step (· = a) w w') (hb : Blk w' a 114 [.slice A m c, M, .int .i64 turn]) : HM w' a M turn A c (xs.take m) := by
  have hl : (xs.take m).length = m := by rw [List.length_take]; omega
  have hr := (h.row.keep hs (fun k hk e => h.nA (by rw [← e]; exact hk))).take hm
  refine ⟨by rw [hl]; exact hb, ?_, fun i x hi => ?_, ?_, fun x hx => h.na x (List.mem_of_mem_take hx), h.nA⟩
  · rw [hl, List.map_take]
    simpa using hr
  · rw [List.getElem?_take] at hi
    split at hi
    · exact (h.itm i x hi).keep hs (h.na x (List.mem_of_getElem? hi)).1
    · cases hi
  · rw [List.map_take]
    exact h.nd.sublist (List.take_sublist _ _)

set_option maxRecDepth 100000 in
set_option maxHeartbeats 1000000 in
theorem pop_calls {w : World} {a : Nat} {M : Value} {turn : Int} {A : Option Addr} {c : Nat} {xs : List It} (h : HM w a M turn A c xs) {m : Nat} (hm : xs.length = m + 1) (hmax : m ≤ 1000000) :
    Calls Try.prog 117 #[.pointer (some ⟨a, 0, none⟩)] w fun e w' => e = .returned (.iface 118 (ptr (lg xs m))) ∧ HM w' a M turn A c (xs.take m) ∧ Step (· = a) w w' := by
  obtain ⟨g, rfl, hci, hbi⟩ := h.pick (i := m) (by omega)
  have c0 := h.blk.cell (i := 0) rfl
  have f0 := h.blk.free 0
  have hle := h.row.le
  rw [hm] at c0 hle
  have H := Lib.hid h
  have HM := Lib.hid hm
  unfold ptr
  clear h hm hbi
  generalize (lg xs m).blk = bi at *
  go_enter Try.func117, Try.ntmps117
  go_wp2
  go_ret
  have hst : Step (· = a) w (w.setCell ⟨a, 0, none⟩ (.slice (some ⟨g, 0, none⟩) m c)) := step_put w a 0 _
  exact ⟨rfl, H.out.take (by have := HM.out; omega) hst (H.out.blk.set 0 _), hst⟩

/-- What is appended to. -/
theorem HM.push {w w' : World} {a : Nat} {M : Value} {turn : Int} {A A' : Option Addr} {c c' : Nat} {xs : List It} {x : It} {F : Nat → Prop} (h : HM w a M turn A c xs) (hs : Step F w w') (hF : ∀ y ∈ xs, ¬ F y.blk) (hb : Blk w' a 114 [.slice A' (xs.length + 1) c', M, .int .i64 turn])
    (hr : FSeg w' 118 1 A' (xs.length + 1) c' (xs.map ptr ++ [ptr x])) (hx : Blk w' x.blk 117 (icells x xs.length)) (hn : ∀ y ∈ xs, y.blk ≠ x.blk) (hxa : x.blk ≠ a) (hA : ∀ k, blockOf A' = some k → k ≠ a ∧ k ≠ x.blk ∧ ∀ y ∈ xs, y.blk ≠ k) : HM w' a M turn A' c' (xs ++ [x]) := by
  have hl : (xs ++ [x]).length = xs.length + 1 := by simp
  refine ⟨by rw [hl]; exact hb, by rw [hl, List.map_append]; exact hr, fun i y hi => ?_, ?_, fun y hy => ?_, fun e => (hA a e).1 rfl⟩
  · rcases Nat.lt_or_ge i xs.length with hi' | hi'
    · rw [List.getElem?_append_left hi'] at hi
      exact (h.itm i y hi).keep hs (hF y (List.mem_of_getElem? hi))
    · have hil := (List.getElem?_eq_some_iff.1 hi).1
      rw [hl] at hil
      obtain rfl : i = xs.length := by omega
      rw [List.getElem?_append_right (Nat.le_refl _), Nat.sub_self] at hi
      obtain rfl := Option.some.inj hi
      exact hx
  · rw [List.map_append]
    refine List.nodup_append.2 ⟨h.nd, by simp, fun b hb1 c hc e => ?_⟩
    obtain ⟨y, hy, rfl⟩ := List.mem_map.1 hb1
    simp only [List.map_cons, List.map_nil, List.mem_singleton] at hc
    exact hn y hy (e.trans hc)
  · rcases List.mem_append.1 hy with hy | hy
    · exact ⟨(h.na y hy).1, fun e => (hA _ e).2.2 y hy rfl⟩
    · obtain rfl : y = x := by simpa using hy
      exact ⟨hxa, fun e => (hA _ e).2.1 rfl⟩

set_option maxRecDepth 100000 in
set_option maxHeartbeats 1000000 in
theorem push_calls {w : World} {a : Nat} {M : Value} {turn : Int} {A : Option Addr} {c : Nat} {xs : List It} (h : HM w a M turn A c xs) (hmax : xs.length ≤ 100000) (x : It) {p0 : Nat} (hx : Blk w x.blk 117 (icells x p0)) (hn : ∀ y ∈ xs, y.blk ≠ x.blk) (hxa : x.blk ≠ a) (hxA : blockOf A ≠ some x.blk) :
    Calls Try.prog 118 #[.pointer (some ⟨a, 0, none⟩), .iface 118 (ptr x)] w fun e w' => e = .returned (.tuple #[]) ∧ ∃ A' c', HM w' a M turn A' c' (xs ++ [x]) ∧ Step (fun k => k = a ∨ blockOf A = some k ∨ k = x.blk) w w' ∧ (blockOf A' = blockOf A ∨ ∃ k, blockOf A' = some k ∧ w.heap.size ≤ k) := by
  obtain ⟨i0, hi0, hp⟩ : ∃ i, Try.prog.info? 118 = some i ∧ (i.zero, i.size, i.bytes) = (some (.pointer none), 1, 8) := by
    exact Option.map_eq_some_iff.1 (by kernel_rfl : (Try.prog.info? 118).map (fun i => (i.zero, i.size, i.bytes)) = some (some (.pointer none), 1, 8))
  simp only [Prod.mk.injEq] at hp
  obtain ⟨hz0, hs0, hy0⟩ := hp
  have c0 := h.blk.cell (i := 0) rfl
  have x3 := hx.cell (i := 3) rfl
  have g3 := hx.free 3
  have hal := h.blk.lt
  have hxl := hx.lt
  have H := Lib.hid h
  have HX := Lib.hid hx
  have HN := Lib.hid hn
  unfold ptr
  have hta : ∀ (b : Nat) (w : World), (Instr.typeAssert (.iface 118 (.pointer (some ⟨b, 0, none⟩))) 20 118 false).run Try.prog w = .ok (.pointer (some ⟨b, 0, none⟩)) w := fun _ _ => by kernel_rfl
  have hset : ∀ v : Nat, (icells x p0).set 3 (.int .i64 (v : Int)) = icells x v := fun v => rfl
  have HSET := Lib.hid hset
  clear h hx hn hset
  go_enter Try.func118, Try.ntmps118
  go_upto_region 2 with (fail)
  refine put_plain HX.out ?_
  intro w1 hX1 hs1
  rw [HSET.out] at hX1
  have hB1 := H.out.blk.keep hs1 (fun e => hxa e.symm)
  have hR1 := H.out.row.keep hs1 (fun k hk e => hxA (by rw [← e]; exact hk))
  have d0 := hB1.cell (i := 0) rfl
  clear c0 x3 g3
  have hsz := hs1.size
  have hst5 : Step (fun _ => False) w1 (w1.alloc (.cells #[.pointer (some ⟨x.blk, 0, none⟩)] 118)) := (Step.refl _ _).alloc _
  have hR5 := hR1.keep hst5 (fun _ _ h => h)
  have hb5 : Blk (w1.alloc (.cells #[.pointer (some ⟨x.blk, 0, none⟩)] 118)) w1.heap.size 118 [ptr x] := blk_new _ [ptr x] _
  go_wp2_with (at_builtin; refine wpList_append_flat _ rfl (.tmp 17) (.tmp 19) 112 rfl 118 i0 _ 1 8 Try.underlying112 hi0 hz0 rfl hs0 hy0 (by omega) rfl hR5 rfl (m := 1) (r := [ptr x]) rfl (fun _ => by omega) (fun v hv => by obtain rfl := List.mem_singleton.1 hv; rfl) (fun j v hj => by rw [addr_add', Nat.zero_add]; exact hb5.cell hj) (by omega) ?_; intro A2 c2 w6 hE2 hs6 hat2; have hB6 := (hB1.keep hst5 (fun h => h)).keep hs6 (fun hk => H.out.nA hk); have e0 := hB6.cell (i := 0) rfl; have e1 := hB6.free 0)
  go_end0
  have hst : Step (· = a) w6 (w6.setCell ⟨a, 0, none⟩ (.slice A2 (xs.length + 1) c2)) := step_put w6 a 0 _
  have h56 := (hst5.mono (G := fun k => blockOf A = some k) (fun _ _ h => h.elim)).same hs6
  have hall : Step (fun k => k = a ∨ blockOf A = some k ∨ k = x.blk) w (w6.setCell ⟨a, 0, none⟩ (.slice A2 (xs.length + 1) c2)) :=
    ((hs1.mono (fun _ _ h => .inr (.inr h))).same (h56.mono (fun _ _ h => .inr (.inl h)))).same (hst.mono (fun _ _ h => .inl h))
  have hne : blockOf A2 = blockOf A ∨ ∃ k, blockOf A2 = some k ∧ w.heap.size ≤ k := by
    rcases hat2 with e | ⟨k, hk, hle⟩
    · exact .inl e
    · refine .inr ⟨k, hk, ?_⟩
      have := hst5.size
      omega
  refine ⟨rfl, A2, c2, H.out.push hall (fun y hy e => ?_) (hB6.set 0 _) (hE2.keep hst (fun k hk e => ?_)) ((hX1.keep h56 hxA).keep hst hxa) HN.out hxa (fun k hk => ?_), hall, hne⟩
  · rcases e with e | e | e
    · exact (H.out.na y hy).1 e
    · exact (H.out.na y hy).2 e
    · exact HN.out y hy e
  · subst e
    rcases hne with e | ⟨j, hj, hle⟩
    · exact H.out.nA (by rw [← e]; exact hk)
    · rw [hk] at hj; obtain rfl := Option.some.inj hj; omega
  · rcases hne with e | ⟨j, hj, hle⟩
    · rw [e] at hk
      exact ⟨fun e => H.out.nA (by rw [← e]; exact hk), fun e => hxA (by rw [← e]; exact hk), fun y hy e => (H.out.na y hy).2 (by rw [e]; exact hk)⟩
    · rw [hk] at hj
      obtain rfl := Option.some.inj hj
      refine ⟨by omega, by omega, fun y hy e => ?_⟩
      obtain ⟨i, hi⟩ := List.getElem?_of_mem hy
      have := (H.out.itm i y hi).lt
      omega
end Go.Proofs.Ytghiklaeenhljaa.AgStr

/- agenda: which function the heap's methods of the pile are. Own work of this seat. -/
namespace Go.Proofs.Ytghiklaeenhljaa.AgStr
open Go.RowKit Go.Proofs.Ytghiklaeenhljaa.Kit Go.Proofs.Ytghiklaeenhljaa.Cmp Go.Proofs.Ytghiklaeenhljaa.HeapP
set_option linter.unusedVariables false
set_option linter.unusedSimpArgs false
theorem nil_less (a : Nat) (w : World) : (nilAhead 294 120 (.pointer (some ⟨a, 0, none⟩)) "Less").run Try.prog w = .ok (some false) w := by kernel_rfl
theorem nil_swap (a : Nat) (w : World) : (nilAhead 294 120 (.pointer (some ⟨a, 0, none⟩)) "Swap").run Try.prog w = .ok (some false) w := by kernel_rfl
theorem nil_len (a : Nat) (w : World) : (nilAhead 294 120 (.pointer (some ⟨a, 0, none⟩)) "Len").run Try.prog w = .ok (some false) w := by kernel_rfl
theorem nil_push (a : Nat) (w : World) : (nilAhead 294 120 (.pointer (some ⟨a, 0, none⟩)) "Push").run Try.prog w = .ok (some false) w := by kernel_rfl
theorem nil_pop (a : Nat) (w : World) : (nilAhead 294 120 (.pointer (some ⟨a, 0, none⟩)) "Pop").run Try.prog w = .ok (some false) w := by kernel_rfl
theorem load_pile {a : Nat} {w : World} {v : Value} (h : w.cell? ⟨a, 0, none⟩ = some v) : (loadVar 112 ⟨a, 0, none⟩).run Try.prog w = .ok v w := by
  have ha : (isAgg 112).run Try.prog w = .ok false w := by kernel_rfl
  unfold loadVar
  rw [Sem.run_bind, ha]
  simp [h]
theorem recv_less (a : Nat) (w : World) : (receiverAt 120 (.val (.pointer (some ⟨a, 0, none⟩))) false (some (("Less".splitOn ".").getLastD "Less"))).run Try.prog w = (loadVar 112 ⟨a, 0, none⟩).run Try.prog w := by kernel_rfl
theorem recv_swap (a : Nat) (w : World) : (receiverAt 120 (.val (.pointer (some ⟨a, 0, none⟩))) false (some (("Swap".splitOn ".").getLastD "Swap"))).run Try.prog w = (loadVar 112 ⟨a, 0, none⟩).run Try.prog w := by kernel_rfl
theorem recv_len (a : Nat) (w : World) : (receiverAt 120 (.val (.pointer (some ⟨a, 0, none⟩))) false (some (("Len".splitOn ".").getLastD "Len"))).run Try.prog w = (loadVar 112 ⟨a, 0, none⟩).run Try.prog w := by kernel_rfl
theorem meth_less0 (a : Nat) (w : World) : (method 294 120 (.pointer (some ⟨a, 0, none⟩)) "Less").run Try.prog w = (do let r ← receiverAt 120 (.val (.pointer (some ⟨a, 0, none⟩))) false (some (("Less".splitOn ".").getLastD "Less")); pure ((111 : FuncId), r) : Sem (FuncId × Value)).run Try.prog w := by kernel_rfl
theorem meth_swap0 (a : Nat) (w : World) : (method 294 120 (.pointer (some ⟨a, 0, none⟩)) "Swap").run Try.prog w = (do let r ← receiverAt 120 (.val (.pointer (some ⟨a, 0, none⟩))) false (some (("Swap".splitOn ".").getLastD "Swap")); pure ((112 : FuncId), r) : Sem (FuncId × Value)).run Try.prog w := by kernel_rfl
theorem meth_len0 (a : Nat) (w : World) : (method 294 120 (.pointer (some ⟨a, 0, none⟩)) "Len").run Try.prog w = (do let r ← receiverAt 120 (.val (.pointer (some ⟨a, 0, none⟩))) false (some (("Len".splitOn ".").getLastD "Len")); pure ((110 : FuncId), r) : Sem (FuncId × Value)).run Try.prog w := by kernel_rfl
theorem meth_less {a : Nat} {w : World} {v : Value} (h : w.cell? ⟨a, 0, none⟩ = some v) : (method 294 120 (.pointer (some ⟨a, 0, none⟩)) "Less").run Try.prog w = .ok (111, v) w := by
  rw [meth_less0, Sem.run_bind, recv_less, load_pile h]; rfl
theorem meth_swap {a : Nat} {w : World} {v : Value} (h : w.cell? ⟨a, 0, none⟩ = some v) : (method 294 120 (.pointer (some ⟨a, 0, none⟩)) "Swap").run Try.prog w = .ok (112, v) w := by
  rw [meth_swap0, Sem.run_bind, recv_swap, load_pile h]; rfl
theorem meth_len {a : Nat} {w : World} {v : Value} (h : w.cell? ⟨a, 0, none⟩ = some v) : (method 294 120 (.pointer (some ⟨a, 0, none⟩)) "Len").run Try.prog w = .ok (110, v) w := by
  rw [meth_len0, Sem.run_bind, recv_len, load_pile h]; rfl
theorem meth_push (a : Nat) (w : World) : (method 294 120 (.pointer (some ⟨a, 0, none⟩)) "Push").run Try.prog w = .ok (118, .pointer (some ⟨a, 0, none⟩)) w := by kernel_rfl
theorem meth_pop (a : Nat) (w : World) : (method 294 120 (.pointer (some ⟨a, 0, none⟩)) "Pop").run Try.prog w = .ok (117, .pointer (some ⟨a, 0, none⟩)) w := by kernel_rfl
end Go.Proofs.Ytghiklaeenhljaa.AgStr

/- agenda: up and down of the library's heap, over the pile. Own work of this seat. -/
namespace Go.Proofs.Ytghiklaeenhljaa.AgStr
open Go.RowKit Go.Proofs.Ytghiklaeenhljaa.Kit Go.Proofs.Ytghiklaeenhljaa.Cmp Go.Proofs.Ytghiklaeenhljaa.HeapP
set_option linter.unusedVariables false
set_option linter.unusedSimpArgs false

theorem HM.cell0 {w : World} {a : Nat} {M : Value} {turn : Int} {A : Option Addr} {c : Nat} {xs : List It} (h : HM w a M turn A c xs) : w.cell? ⟨a, 0, none⟩ = some (.slice A xs.length c) := h.blk.cell (i := 0) rfl

theorem foot_perm {A : Option Addr} {xs ys : List It} (h : ys.Perm xs) (k : Nat) : foot A ys k ↔ foot A xs k := by
  unfold foot
  constructor
  · rintro (e | ⟨x, hx, e⟩)
    · exact .inl e
    · exact .inr ⟨x, h.mem_iff.1 hx, e⟩
  · rintro (e | ⟨x, hx, e⟩)
    · exact .inl e
    · exact .inr ⟨x, h.mem_iff.2 hx, e⟩

set_option maxRecDepth 100000 in
set_option maxHeartbeats 1000000 in
theorem up_calls {w : World} {a : Nat} {M : Value} {turn : Int} {A : Option Addr} {c : Nat} {xs : List It} (h : HM w a M turn A c xs) {j n : Nat} (hj : j < n) (hn : n ≤ xs.length) (hmax : xs.length ≤ 1000000) (hb : Bad1 le (lg xs) j n) (hk : KidsOk le (lg xs) j n) :
    Calls Try.prog 72 #[.iface 120 (.pointer (some ⟨a, 0, none⟩)), .int .i64 (j : Int)] w fun e w' => e = .returned (.tuple #[]) ∧ ∃ xs', HM w' a M turn A c xs' ∧ xs'.Perm xs ∧ HeapG le (lg xs') n ∧ (∀ k, n ≤ k → lg xs' k = lg xs k) ∧ Step (foot A xs) w w' := by
  go_enter Try.func72, Try.ntmps72
  go_wp2
  go_loopw [1] (fun v wr => ∃ (k : Nat) (ys : List It), v = .int .i64 (k : Int) ∧ k < n ∧ HM wr a M turn A c ys ∧ ys.Perm xs ∧ Bad1 le (lg ys) k n ∧ KidsOk le (lg ys) k n ∧ (∀ k, n ≤ k → lg ys k = lg xs k) ∧ Step (foot A xs) w wr) (fun v _ => (intOf v).toNat)
  case atStart => exact ⟨j, xs, rfl, hj, h, List.Perm.refl _, hb, hk, fun _ _ => rfl, Step.refl _ _⟩
  case round =>
    obtain ⟨k, ys, rfl, hkn, hys, hpm, hbk, hkk, hrest, hst⟩ := hrel
    have hl := hpm.length_eq
    rw [← hl] at hmax hn
    have hkl : k < ys.length := by omega
    have HL := Lib.hid hl
    have HR := Lib.hid hrest
    clear hl hrest
    by_cases hk0 : k = 0
    · subst hk0
      have hfin : HeapG le (lg ys) n := stop hbk hkk (fun h => absurd h (by omega))
      have HE := Lib.hid hfin
      clear hbk hkk hb hk hj hfin
      go_wp2
      go_end0
      exact ⟨rfl, ys, hys, hpm, HE.out, HR.out, hst⟩
    · obtain ⟨p, hp⟩ : ∃ p, par k = p := ⟨_, rfl⟩
      have hpk : p < k := by rw [← hp]; exact par_lt (by omega)
      have hp1 : ((k : Int) - 1) / 2 = (p : Int) := by rw [← hp]; unfold par; omega
      have hq1 : ((p : Int) == (k : Int)) = false := by simp; omega
      have hpl : p < ys.length := by omega
      have c0 := hys.cell0
      have hm1 := meth_less c0
      have n1 := fun w => nil_less a w
      have HLE := less_calls hys hkl hpl
      have HP := Lib.hid hp
      clear hp
      cases hlt : lt (lg ys k) (lg ys p) with
      | false =>
        rw [hlt] at HLE
        have hfin : HeapG le (lg ys) n := stop hbk hkk (fun h => by rw [HP.out]; exact hlt)
        have HE := Lib.hid hfin
        clear hbk hkk hb hk hj hfin hlt
        go_wp2_with (go_at_call 111; refine HLE.mono ?_; rintro e w1 ⟨rfl, hs1⟩)
        go_end0
        exact ⟨rfl, ys, hys.same hs1, hpm, HE.out, HR.out, hst.same (hs1.mono (fun _ _ h => h.elim))⟩
      | true =>
        rw [hlt] at HLE
        have hup := up_step le_tr (by omega) hkn hbk hkk (by rw [HP.out]; exact le_of_lt hlt)
        rw [HP.out, ← lg_sw hpl hkl] at hup
        have HE := Lib.hid hup
        have hrr : ∀ q, n ≤ q → lg (sw ys p k) q = lg xs q := fun q hq => by
          rw [lg_sw hpl hkl, swp_o _ (by omega) (by omega)]
          exact HR.out q hq
        have HRR := Lib.hid hrr
        clear hrr
        have HSW := Lib.hid (fun w1 (hs1 : Step (fun _ => False) wr w1) => swap_calls (hys.same hs1) hpl hkl)
        have HC0 := Lib.hid (fun w1 (hs1 : Step (fun _ => False) wr w1) => (hys.same hs1).cell0)
        have n2 := fun w => nil_swap a w
        clear hbk hkk hb hk hj hup hlt
        go_wp2_with (first | (go_at_call 111; refine HLE.mono ?_; rintro e w1 ⟨rfl, hs1⟩; have d0 := HC0.out w1 hs1; have hm2 := meth_swap d0) | (go_at_call 112; refine (HSW.out _ hs1).mono ?_; rintro e w2 ⟨rfl, hys2, hs2⟩))
        have hs3 := hst.same ((hs1.mono (fun _ _ h => h.elim)).same (hs2.mono (fun k _ h => (foot_perm hpm k).1 h)))
        go_roundw
        case rel => exact ⟨p, sw ys p k, rfl, by omega, hys2, (sw_perm hpl hkl).trans hpm, HE.out.1, HE.out.2, HRR.out, hs3⟩
        case measure => simp [intOf]; omega
end Go.Proofs.Ytghiklaeenhljaa.AgStr

/- agenda: down of the library's heap, over the pile. Own work of this seat. -/
namespace Go.Proofs.Ytghiklaeenhljaa.AgStr
open Go.RowKit Go.Proofs.Ytghiklaeenhljaa.Kit Go.Proofs.Ytghiklaeenhljaa.Cmp Go.Proofs.Ytghiklaeenhljaa.HeapP
set_option linter.unusedVariables false
set_option linter.unusedSimpArgs false

theorem kids2 {g : Nat → It} {i n j : Nat} (h1 : j = 2 * i + 1 ∨ j = 2 * i + 2) (ha : 2 * i + 1 < n → le (g j) (g (2 * i + 1))) (hb : 2 * i + 2 < n → le (g j) (g (2 * i + 2))) : KidsOk le (fun k => if k = i then g j else g k) i n := by
  intro k k0 k1 k2
  unfold par at k2
  have hki : k ≠ i := by omega
  simp only [if_neg hki, if_pos]
  rcases (by omega : k = 2 * i + 1 ∨ k = 2 * i + 2) with rfl | rfl
  · exact ha k1
  · exact hb k1
theorem kids_stay {g : Nat → It} {i n j : Nat} (hn : le (g i) (g j)) (h : KidsOk le (fun k => if k = i then g j else g k) i n) : KidsOk le g i n := by
  intro k k0 k1 k2
  have hki : k ≠ i := by have := par_lt k0; omega
  have := h k k0 k1 k2
  simp only [if_neg hki, if_pos] at this
  exact le_tr _ _ _ hn this

set_option maxRecDepth 100000 in
set_option maxHeartbeats 4000000 in
theorem down_calls {w : World} {a : Nat} {M : Value} {turn : Int} {A : Option Addr} {c : Nat} {xs : List It} (h : HM w a M turn A c xs) {i0 n : Nat} (hi0 : i0 ≤ xs.length) (hn : n ≤ xs.length) (hmax : xs.length ≤ 1000000) (hb : Bad1 le (lg xs) i0 n) :
    Calls Try.prog 67 #[.iface 120 (.pointer (some ⟨a, 0, none⟩)), .int .i64 (i0 : Int), .int .i64 (n : Int)] w fun e w' => ∃ (b : Bool) (xs' : List It), e = .returned (.bool b) ∧ HM w' a M turn A c xs' ∧ xs'.Perm xs ∧ (∀ k, n ≤ k → lg xs' k = lg xs k) ∧ (b = true → HeapG le (lg xs') n) ∧ (b = false → xs' = xs ∧ KidsOk le (lg xs) i0 n) ∧ Step (foot A xs) w w' := by
  go_enter Try.func67, Try.ntmps67
  go_wp2
  go_loopw [7, 8, 9, 10] (fun v v8 v9 v10 wr => ∃ (i : Nat) (ys : List It), v = .int .i64 (i : Int) ∧ i0 ≤ i ∧ i ≤ xs.length ∧ HM wr a M turn A c ys ∧ ys.Perm xs ∧ Bad1 le (lg ys) i n ∧ (i0 < i → le (lg ys (par i)) (lg ys i)) ∧ (i = i0 → ys = xs) ∧ (∀ k, n ≤ k → lg ys k = lg xs k) ∧ Step (foot A xs) w wr) (fun v _ _ _ _ => xs.length + 1 - (intOf v).toNat)
  case atStart => exact ⟨i0, xs, rfl, Nat.le_refl _, hi0, h, List.Perm.refl _, hb, fun h => absurd h (by omega), fun _ => rfl, fun _ _ => rfl, Step.refl _ _⟩
  case round =>
    obtain ⟨i, ys, rfl, hii, hil, hys, hpm, hbk, hpar, hsame, hrest, hst⟩ := hrel
    have hl := hpm.length_eq
    rw [← hl] at hil hmax hn hi0
    have HL := Lib.hid hl
    obtain ⟨j1, hj1⟩ : ∃ j : Nat, j = 2 * i + 1 := ⟨_, rfl⟩
    obtain ⟨j2, hj2⟩ : ∃ j : Nat, j = 2 * i + 2 := ⟨_, rfl⟩
    have e1 : 2 * (i : Int) + 1 = (j1 : Int) := by omega
    have e2 : (j1 : Int) + 1 = (j2 : Int) := by omega
    have HR := Lib.hid hrest
    have HS := Lib.hid hsame
    have HB := Lib.hid hbk
    have HPA := Lib.hid hpar
    have H0 := Lib.hid hb
    have hi0i : (i0 : Int) ≤ (i : Int) := by omega
    -- the ways out
    have HOUT : ∀ wf, Step (foot A xs) w wf → HM wf a M turn A c ys → KidsOk le (lg ys) i n → ∃ (b : Bool) (xs' : List It), Ending.returned (.bool (decide (i0 < i))) = .returned (.bool b) ∧ HM wf a M turn A c xs' ∧ xs'.Perm xs ∧ (∀ k, n ≤ k → lg xs' k = lg xs k) ∧ (b = true → HeapG le (lg xs') n) ∧ (b = false → xs' = xs ∧ KidsOk le (lg xs) i0 n) ∧ Step (foot A xs) w wf := by
      intro wf hsf hyf hkf
      refine ⟨_, ys, rfl, hyf, hpm, hrest, fun hb => ?_, fun hb => ?_, hsf⟩
      · have hlt : i0 < i := of_decide_eq_true hb
        exact stop hbk hkf (fun _ => hpar hlt)
      · have hlt : ¬ i0 < i := of_decide_eq_false hb
        have hei : i = i0 := by omega
        have hey := hsame hei
        rw [hei, hey] at hkf
        exact ⟨hey, hkf⟩
    have HO := Lib.hid HOUT
    clear hl hrest hsame hbk hpar hb HOUT
    by_cases hA : n ≤ j1
    · have q1 : (n : Int) ≤ (j1 : Int) := by omega
      have hkv : KidsOk le (lg ys) i n := fun k k0 k1 k2 => by unfold par at k2; omega
      have HK := Lib.hid hkv
      clear hkv hj1 hj2
      go_wp2
      go_ret
      exact HO.out _ hst hys HK.out
    · have q1 : ¬ (n : Int) ≤ (j1 : Int) := by omega
      have q2 : ((j1 : Int) < 0) = False := eq_false (by omega)
      have c0 := hys.cell0
      have hm1 := meth_less c0
      have n1 := fun w => nil_less a w
      have n2 := fun w => nil_swap a w
      have HLE0 := fun w1 (hs1 : Step (fun _ => False) wr w1) (p q : Nat) (hp : p < ys.length) (hq : q < ys.length) => less_calls (hys.same hs1) hp hq
      have HLE := Lib.hid HLE0
      have HC0 := Lib.hid (fun w1 (hs1 : Step (fun _ => False) wr w1) => (hys.same hs1).cell0)
      have HSW0 := fun w1 (hs1 : Step (fun _ => False) wr w1) (p q : Nat) (hp : p < ys.length) (hq : q < ys.length) => swap_calls (hys.same hs1) hp hq
      have HSW := Lib.hid HSW0
      have HDN0 : ∀ j, (j = j1 ∨ j = j2) → j < n → lt (lg ys j) (lg ys i) = true → KidsOk le (fun k => if k = i then lg ys j else lg ys k) i n → Bad1 le (lg (sw ys i j)) j n ∧ (i0 < j → le (lg (sw ys i j) (par j)) (lg (sw ys i j) j)) := by
        intro j hj hjn hlt hkk
        have := dn_step (by omega) hjn (by unfold par; omega) HB.out (le_of_lt hlt) hkk
        rw [← lg_sw (by omega) (by omega)] at this
        exact ⟨this.1, fun h => this.2 (by omega)⟩
      have HDN := Lib.hid HDN0
      have HRR0 : ∀ j, j < n → ∀ k, n ≤ k → lg (sw ys i j) k = lg xs k := fun j hj k hk => by
        rw [lg_sw (by omega) (by omega), swp_o _ (by omega) (by omega)]
        exact HR.out k hk
      have HRR := Lib.hid HRR0
      have sr := Step.refl (fun _ => False) wr
      clear HLE0 HSW0 HDN0 HRR0
      by_cases hB : j2 < n
      · have q3 : ((j2 : Int) < (n : Int)) = True := eq_true (by omega)
        cases hlt2 : lt (lg ys j2) (lg ys j1) with
        | true =>
          have hkk : KidsOk le (fun k => if k = i then lg ys j2 else lg ys k) i n := kids2 (.inr hj2) (fun _ => by rw [← hj1]; exact le_of_lt hlt2) (fun _ => by rw [← hj2]; exact le_rf _)
          have HKK := Lib.hid hkk
          clear hkk
          cases hlt : lt (lg ys j2) (lg ys i) with
          | true =>
            have HD := Lib.hid (HDN.out j2 (by omega) (by omega) hlt HKK.out)
            have HJ1 := Lib.hid hj1
            have HJ2 := Lib.hid hj2
            have j1b : 2 * i + 1 ≤ j1 ∧ j1 ≤ 2 * i + 1 := by omega
            have j2b : 2 * i + 2 ≤ j2 ∧ j2 ≤ 2 * i + 2 := by omega
            clear hj1 hj2
            go_wp2_with (first | (go_at_call 111; refine (HLE.out _ (by assumption) _ _ (by omega) (by omega)).mono ?_; rintro e w1 ⟨rfl, hs1⟩; have hs1' : Step (fun _ => False) wr w1 := Step.same (by assumption) hs1; clear hs1; have d0 := HC0.out w1 hs1'; have hm1 := meth_less d0; have hm2 := meth_swap d0) | (go_at_call 112; refine (HSW.out _ (by assumption) _ _ (by omega) (by omega)).mono ?_; rintro e w2 ⟨rfl, hys2, hs2⟩))
            have hs3 := hst.same ((‹Step (fun _ => False) wr w1›.mono (fun _ _ h => h.elim)).same (hs2.mono (fun k _ h => (foot_perm hpm k).1 h)))
            go_roundw
            case rel => exact ⟨j2, sw ys i j2, rfl, by omega, by rw [← HL.out]; omega, hys2, (sw_perm (by omega) (by omega)).trans hpm, HD.out.1, HD.out.2, fun e => absurd e (by omega), HRR.out j2 (by omega), hs3⟩
            case measure => have := HL.out; simp [intOf]; omega
          | false =>
            have HK := Lib.hid (kids_stay hlt HKK.out)
            have HJ1 := Lib.hid hj1
            have HJ2 := Lib.hid hj2
            have j1b : 2 * i + 1 ≤ j1 ∧ j1 ≤ 2 * i + 1 := by omega
            have j2b : 2 * i + 2 ≤ j2 ∧ j2 ≤ 2 * i + 2 := by omega
            clear hj1 hj2
            go_wp2_with (first | (go_at_call 111; refine (HLE.out _ (by assumption) _ _ (by omega) (by omega)).mono ?_; rintro e w1 ⟨rfl, hs1⟩; have hs1' : Step (fun _ => False) wr w1 := Step.same (by assumption) hs1; clear hs1; have d0 := HC0.out w1 hs1'; have hm1 := meth_less d0; have hm2 := meth_swap d0) | (go_at_call 112; refine (HSW.out _ (by assumption) _ _ (by omega) (by omega)).mono ?_; rintro e w2 ⟨rfl, hys2, hs2⟩))
            go_ret
            exact HO.out _ (hst.same (‹Step (fun _ => False) wr w1›.mono (fun _ _ h => h.elim))) (hys.same ‹_›) HK.out
        | false =>
          have hkk : KidsOk le (fun k => if k = i then lg ys j1 else lg ys k) i n := kids2 (.inl hj1) (fun _ => by rw [← hj1]; exact le_rf _) (fun _ => by rw [← hj2]; exact hlt2)
          have HKK := Lib.hid hkk
          clear hkk
          cases hlt : lt (lg ys j1) (lg ys i) with
          | true =>
            have HD := Lib.hid (HDN.out j1 (by omega) (by omega) hlt HKK.out)
            have HJ1 := Lib.hid hj1
            have HJ2 := Lib.hid hj2
            have j1b : 2 * i + 1 ≤ j1 ∧ j1 ≤ 2 * i + 1 := by omega
            have j2b : 2 * i + 2 ≤ j2 ∧ j2 ≤ 2 * i + 2 := by omega
            clear hj1 hj2
            go_wp2_with (first | (go_at_call 111; refine (HLE.out _ (by assumption) _ _ (by omega) (by omega)).mono ?_; rintro e w1 ⟨rfl, hs1⟩; have hs1' : Step (fun _ => False) wr w1 := Step.same (by assumption) hs1; clear hs1; have d0 := HC0.out w1 hs1'; have hm1 := meth_less d0; have hm2 := meth_swap d0) | (go_at_call 112; refine (HSW.out _ (by assumption) _ _ (by omega) (by omega)).mono ?_; rintro e w2 ⟨rfl, hys2, hs2⟩))
            have hs3 := hst.same ((‹Step (fun _ => False) wr w1›.mono (fun _ _ h => h.elim)).same (hs2.mono (fun k _ h => (foot_perm hpm k).1 h)))
            go_roundw
            case rel => exact ⟨j1, sw ys i j1, rfl, by omega, by rw [← HL.out]; omega, hys2, (sw_perm (by omega) (by omega)).trans hpm, HD.out.1, HD.out.2, fun e => absurd e (by omega), HRR.out j1 (by omega), hs3⟩
            case measure => have := HL.out; simp [intOf]; omega
          | false =>
            have HK := Lib.hid (kids_stay hlt HKK.out)
            have HJ1 := Lib.hid hj1
            have HJ2 := Lib.hid hj2
            have j1b : 2 * i + 1 ≤ j1 ∧ j1 ≤ 2 * i + 1 := by omega
            have j2b : 2 * i + 2 ≤ j2 ∧ j2 ≤ 2 * i + 2 := by omega
            clear hj1 hj2
            go_wp2_with (first | (go_at_call 111; refine (HLE.out _ (by assumption) _ _ (by omega) (by omega)).mono ?_; rintro e w1 ⟨rfl, hs1⟩; have hs1' : Step (fun _ => False) wr w1 := Step.same (by assumption) hs1; clear hs1; have d0 := HC0.out w1 hs1'; have hm1 := meth_less d0; have hm2 := meth_swap d0) | (go_at_call 112; refine (HSW.out _ (by assumption) _ _ (by omega) (by omega)).mono ?_; rintro e w2 ⟨rfl, hys2, hs2⟩))
            go_ret
            exact HO.out _ (hst.same (‹Step (fun _ => False) wr w1›.mono (fun _ _ h => h.elim))) (hys.same ‹_›) HK.out
      · have q3 : ((j2 : Int) < (n : Int)) = False := eq_false (by omega)
        have hkk : KidsOk le (fun k => if k = i then lg ys j1 else lg ys k) i n := kids2 (.inl hj1) (fun _ => by rw [← hj1]; exact le_rf _) (fun h => absurd h (by omega))
        have HKK := Lib.hid hkk
        clear hkk
        cases hlt : lt (lg ys j1) (lg ys i) with
        | true =>
          have HD := Lib.hid (HDN.out j1 (by omega) (by omega) hlt HKK.out)
          have HJ1 := Lib.hid hj1
          have HJ2 := Lib.hid hj2
          have j1b : 2 * i + 1 ≤ j1 ∧ j1 ≤ 2 * i + 1 := by omega
          have j2b : 2 * i + 2 ≤ j2 ∧ j2 ≤ 2 * i + 2 := by omega
          clear hj1 hj2
          go_wp2_with (first | (go_at_call 111; refine (HLE.out _ (by assumption) _ _ (by omega) (by omega)).mono ?_; rintro e w1 ⟨rfl, hs1⟩; have hs1' : Step (fun _ => False) wr w1 := Step.same (by assumption) hs1; clear hs1; have d0 := HC0.out w1 hs1'; have hm1 := meth_less d0; have hm2 := meth_swap d0) | (go_at_call 112; refine (HSW.out _ (by assumption) _ _ (by omega) (by omega)).mono ?_; rintro e w2 ⟨rfl, hys2, hs2⟩))
          have hs3 := hst.same ((‹Step (fun _ => False) wr w1›.mono (fun _ _ h => h.elim)).same (hs2.mono (fun k _ h => (foot_perm hpm k).1 h)))
          go_roundw
          case rel => exact ⟨j1, sw ys i j1, rfl, by omega, by rw [← HL.out]; omega, hys2, (sw_perm (by omega) (by omega)).trans hpm, HD.out.1, HD.out.2, fun e => absurd e (by omega), HRR.out j1 (by omega), hs3⟩
          case measure => have := HL.out; simp [intOf]; omega
        | false =>
          have HK := Lib.hid (kids_stay hlt HKK.out)
          have HJ1 := Lib.hid hj1
          have HJ2 := Lib.hid hj2
          have j1b : 2 * i + 1 ≤ j1 ∧ j1 ≤ 2 * i + 1 := by omega
          have j2b : 2 * i + 2 ≤ j2 ∧ j2 ≤ 2 * i + 2 := by omega
          clear hj1 hj2
          go_wp2_with (first | (go_at_call 111; refine (HLE.out _ (by assumption) _ _ (by omega) (by omega)).mono ?_; rintro e w1 ⟨rfl, hs1⟩; have hs1' : Step (fun _ => False) wr w1 := Step.same (by assumption) hs1; clear hs1; have d0 := HC0.out w1 hs1'; have hm1 := meth_less d0; have hm2 := meth_swap d0) | (go_at_call 112; refine (HSW.out _ (by assumption) _ _ (by omega) (by omega)).mono ?_; rintro e w2 ⟨rfl, hys2, hs2⟩))
          go_ret
          exact HO.out _ (hst.same (‹Step (fun _ => False) wr w1›.mono (fun _ _ h => h.elim))) (hys.same ‹_›) HK.out
end Go.Proofs.Ytghiklaeenhljaa.AgStr

/- agenda: Fix, Push, Pop, Remove of the library's heap, over the pile. Own work of this seat. -/
namespace Go.Proofs.Ytghiklaeenhljaa.AgStr
open Go.RowKit Go.Proofs.Ytghiklaeenhljaa.Kit Go.Proofs.Ytghiklaeenhljaa.Cmp Go.Proofs.Ytghiklaeenhljaa.HeapP
set_option linter.unusedVariables false
set_option linter.unusedSimpArgs false

set_option maxRecDepth 100000 in
set_option maxHeartbeats 1000000 in
theorem fix_calls {w : World} {a : Nat} {M : Value} {turn : Int} {A : Option Addr} {c : Nat} {xs : List It} (h : HM w a M turn A c xs) {i : Nat} (hi : i < xs.length) (hmax : xs.length ≤ 1000000) (hb : Bad1 le (lg xs) i xs.length) :
    Calls Try.prog 65 #[.iface 120 (.pointer (some ⟨a, 0, none⟩)), .int .i64 (i : Int)] w fun e w' => e = .returned (.tuple #[]) ∧ ∃ xs', HM w' a M turn A c xs' ∧ xs'.Perm xs ∧ HeapG le (lg xs') xs.length ∧ Step (foot A xs) w w' := by
  have c0 := h.cell0
  have hm1 := meth_len c0
  have n1 := fun w => nil_len a w
  have HD := down_calls h (i0 := i) (n := xs.length) (by omega) (Nat.le_refl _) hmax hb
  have HU0 := fun w1 (ys : List It) (hy : HM w1 a M turn A c ys) (hp : ys = xs) (hk : KidsOk le (lg xs) i xs.length) => up_calls (hp ▸ hy) hi (Nat.le_refl _) hmax hb hk
  have HU := Lib.hid HU0
  clear h hb HU0
  go_enter Try.func65, Try.ntmps65
  go_wp2_with (first | (go_at_call 110; refine (len_calls _ _ _ _).mono ?_; rintro e w' ⟨rfl, rfl⟩) | (go_at_call 67; refine HD.mono ?_; rintro e w1 ⟨b, ys, rfl, hys, hpm, hrest, hT, hF, hs1⟩; have HT := Lib.hid hT; have HF := Lib.hid hF; have HR := Lib.hid hrest; clear hT hF hrest) | (go_at_call 72; refine (HU.out _ _ hys (HF.out (by first | assumption | simp_all)).1 (HF.out (by first | assumption | simp_all)).2).mono ?_; rintro e w2 ⟨rfl, zs, hzs, hpm2, hh2, hr2, hs2⟩))
  · go_end0
    exact ⟨rfl, zs, hzs, hpm2, hh2, hs1.same hs2⟩
  · have hb : b = true := by simp_all
    go_end0
    exact ⟨rfl, ys, hys, hpm, HT.out hb, hs1⟩

set_option maxRecDepth 100000 in
set_option maxHeartbeats 1000000 in
theorem hpush_calls {w : World} {a : Nat} {M : Value} {turn : Int} {A : Option Addr} {c : Nat} {xs : List It} (h : HM w a M turn A c xs) (hmax : xs.length ≤ 100000) (hh : HeapG le (lg xs) xs.length) (x : It) {p0 : Nat} (hx : Blk w x.blk 117 (icells x p0)) (hn : ∀ y ∈ xs, y.blk ≠ x.blk) (hxa : x.blk ≠ a) (hxA : blockOf A ≠ some x.blk) :
    Calls Try.prog 66 #[.iface 120 (.pointer (some ⟨a, 0, none⟩)), .iface 118 (ptr x)] w fun e w' => e = .returned (.tuple #[]) ∧ ∃ A' c' xs', HM w' a M turn A' c' xs' ∧ xs'.Perm (xs ++ [x]) ∧ HeapG le (lg xs') xs'.length ∧ Step (fun k => k = a ∨ foot A xs k ∨ k = x.blk) w w' ∧ (blockOf A' = blockOf A ∨ ∃ k, blockOf A' = some k ∧ w.heap.size ≤ k) := by
  have hm1 := meth_push a w
  have n1 := fun w => nil_push a w
  have n2 := fun w => nil_len a w
  have HP := push_calls h hmax x hx hn hxa hxA
  have hlx : (xs ++ [x]).length = xs.length + 1 := by simp
  have hlg : ∀ k, k < xs.length → lg (xs ++ [x]) k = lg xs k := fun k hk => by
    rw [lg_get hk, lg_get (by omega), List.getElem_append_left hk]
  have hbk := push_bad (g' := lg (xs ++ [x])) hh hlg
  rw [← hlx] at hbk
  have HBK := Lib.hid hbk
  have HLX := Lib.hid hlx
  have ecast : ((xs.length + 1 : Nat) : Int) - 1 = ((xs.length : Nat) : Int) := by omega
  have HFT := Lib.hid (fun (A' : Option Addr) (k : Nat) (hk : k < w.heap.size) (hA : blockOf A' = blockOf A ∨ ∃ k, blockOf A' = some k ∧ w.heap.size ≤ k) (hf : foot A' (xs ++ [x]) k) => (show k = a ∨ foot A xs k ∨ k = x.blk by
    rcases hf with e | ⟨y, hy, e⟩
    · rcases hA with e2 | ⟨j, e2, hj⟩
      · exact .inr (.inl (.inl (by rw [← e2]; exact e)))
      · rw [e] at e2
        obtain rfl := Option.some.inj e2
        omega
    · rcases List.mem_append.1 hy with hy | hy
      · exact .inr (.inl (.inr ⟨y, hy, e⟩))
      · obtain rfl : y = x := by simpa using hy
        exact .inr (.inr e.symm)))
  have HF1 := Lib.hid (fun (k : Nat) (hk : k = a ∨ blockOf A = some k ∨ k = x.blk) => (show k = a ∨ foot A xs k ∨ k = x.blk from hk.imp id (fun h => h.imp .inl id)))
  clear h hx hn hh hlg hbk hlx
  unfold ptr at HP ⊢
  go_enter Try.func66, Try.ntmps66
  go_wp2_with (first | (go_at_call 118; refine HP.mono ?_; rintro e w1 ⟨rfl, A1, c1, h1, hs1, hA1⟩; have d0 : w1.cell? ⟨a, 0, none⟩ = some (.slice A1 (xs.length + 1) c1) := (by have := h1.cell0; rwa [HLX.out] at this); have hm2 := meth_len d0) | (go_at_call 110; refine (len_calls _ _ _ _).mono ?_; rintro e w' ⟨rfl, rfl⟩) | (go_at_call 72; refine (up_calls h1 (j := xs.length) (by rw [HLX.out]; omega) (Nat.le_refl _) (by rw [HLX.out]; omega) HBK.out.1 HBK.out.2).mono ?_; rintro e w2 ⟨rfl, zs, hzs, hpm2, hh2, hr2, hs2⟩))
  go_end0
  refine ⟨rfl, A1, c1, zs, hzs, hpm2, by rw [hpm2.length_eq]; exact hh2, (hs1.mono (fun k _ h => HF1.out k h)).trans hs2 (fun k hk hf => HFT.out A1 k hk hA1 hf), hA1⟩
end Go.Proofs.Ytghiklaeenhljaa.AgStr

/- agenda: Pop and Remove of the library's heap, over the pile. Own work of this seat. -/
namespace Go.Proofs.Ytghiklaeenhljaa.AgStr
open Go.RowKit Go.Proofs.Ytghiklaeenhljaa.Kit Go.Proofs.Ytghiklaeenhljaa.Cmp Go.Proofs.Ytghiklaeenhljaa.HeapP
set_option linter.unusedVariables false
set_option linter.unusedSimpArgs false

theorem lg_take {ys : List It} {m k : Nat} (hk : k < m) (hm : m ≤ ys.length) : lg (ys.take m) k = lg ys k := by
  rw [lg_get (by rw [List.length_take]; omega), lg_get (by omega), List.getElem_take]
theorem take_last {ys : List It} {m : Nat} (h : ys.length = m + 1) : ys = ys.take m ++ [lg ys m] := by
  rw [lg_get (by omega), List.take_append_getElem (by omega), List.take_of_length_le (by omega)]
/-- What Pop and Remove end in: the last one goes. -/
theorem last_off {w : World} {a : Nat} {M : Value} {turn : Int} {A : Option Addr} {c : Nat} {xs zs : List It} {m i : Nat} (hl : xs.length = m + 1) (hp : zs.Perm xs) (hz : lg zs m = lg xs i) (hh : HeapG le (lg zs) m) : (lg xs i :: zs.take m).Perm xs ∧ HeapG le (lg (zs.take m)) m := by
  have hzl : zs.length = m + 1 := by rw [hp.length_eq]; exact hl
  refine ⟨?_, heap_ext hh (fun k hk => lg_take hk (by omega))⟩
  rw [← hz]
  have h1 : (lg zs m :: zs.take m).Perm (zs.take m ++ [lg zs m]) := (List.perm_append_singleton _ _).symm
  rw [← take_last hzl] at h1
  exact h1.trans hp

set_option maxRecDepth 100000 in
set_option maxHeartbeats 1000000 in
theorem hpop_calls {w : World} {a : Nat} {M : Value} {turn : Int} {A : Option Addr} {c : Nat} {xs : List It} (h : HM w a M turn A c xs) {m : Nat} (hl : xs.length = m + 1) (hmax : m ≤ 100000) (hh : HeapG le (lg xs) xs.length) :
    Calls Try.prog 51 #[.iface 120 (.pointer (some ⟨a, 0, none⟩))] w fun e w' => e = .returned (.iface 118 (ptr (lg xs 0))) ∧ ∃ ys, HM w' a M turn A c ys ∧ (lg xs 0 :: ys).Perm xs ∧ HeapG le (lg ys) ys.length ∧ (∃ p, Blk w' (lg xs 0).blk 117 (icells (lg xs 0) p)) ∧ Step (fun k => k = a ∨ foot A xs k) w w' := by
  have c0 := h.cell0
  rw [hl] at c0
  have hm1 := meth_len c0
  have hm2 := meth_swap c0
  have n1 := fun w => nil_len a w
  have n2 := fun w => nil_swap a w
  have n3 := fun w => nil_pop a w
  have hm3 := fun w => meth_pop a w
  have ecast : ((m + 1 : Nat) : Int) - 1 = ((m : Nat) : Int) := by omega
  have hlg := lg_sw (i := 0) (j := m) (xs := xs) (by omega) (by omega)
  have hbad : Bad1 le (lg (sw xs 0 m)) 0 m := by
    rw [hlg]
    rw [hl] at hh
    rcases Nat.eq_zero_or_pos m with e | e
    · subst e
      exact ⟨fun k k0 k1 => absurd k1 (by omega), fun k k0 k1 => absurd k1 (by omega)⟩
    · exact remove_bad le_tr e hh
  have hlast : lg (sw xs 0 m) m = lg xs 0 := by rw [hlg, swp_r]
  have HSW := swap_calls h (i := 0) (j := m) (by omega) (by omega)
  have hsl := sw_length xs 0 m
  have hsp := sw_perm (xs := xs) (i := 0) (j := m) (by omega) (by omega)
  rw [hl] at HSW hsl
  have HSL := Lib.hid hsl
  have HB := Lib.hid hbad
  have HD0 := Lib.hid (fun w1 (h1 : HM w1 a M turn A c (sw xs 0 m)) => down_calls h1 (i0 := 0) (n := m) (by omega) (by omega) (by omega) HB.out)
  have HL := Lib.hid hl
  have HLA := Lib.hid hlast
  have HP0 := Lib.hid (fun w1 (ys : List It) (h1 : HM w1 a M turn A c ys) (hp : ys.Perm (sw xs 0 m)) => pop_calls h1 (m := m) (by rw [hp.length_eq, HSL.out]) (by omega))
  clear h hh hlg hbad hlast hl hsl
  go_enter Try.func51, Try.ntmps51
  go_wp2_with (first | (go_at_call 110; refine (len_calls _ _ _ _).mono ?_; rintro e w' ⟨rfl, rfl⟩) | (go_at_call 112; refine HSW.mono ?_; rintro e w1 ⟨rfl, h1, hs1⟩) | (go_at_call 67; refine (HD0.out _ h1).mono ?_; rintro e w2 ⟨b, ys, rfl, hys, hpm, hrest, hT, hF, hs2⟩; have HT := Lib.hid hT; have HF := Lib.hid hF; have HR := Lib.hid hrest; clear hT hF hrest) | (go_at_call 117; refine (HP0.out _ _ hys hpm).mono ?_; rintro e w3 ⟨rfl, h3, hs3⟩))
  have hpx := hpm.trans hsp
  have hlz : lg ys m = lg xs 0 := by rw [HR.out m (Nat.le_refl _), HLA.out]
  have hyl : ys.length = m + 1 := by rw [hpx.length_eq]; exact HL.out
  have hhz : HeapG le (lg ys) m := by
    cases b with
    | true => exact HT.out rfl
    | false =>
      obtain ⟨e1, e2⟩ := HF.out rfl
      rw [e1]
      exact stop HB.out e2 (fun h => absurd h (by omega))
  obtain ⟨q1, q2⟩ := last_off (w := w) (a := a) (M := M) (turn := turn) (A := A) (c := c) HL.out hpx hlz hhz
  rw [hlz]
  go_ret
  refine ⟨rfl, ys.take m, h3, q1, by rw [List.length_take, hyl, Nat.min_eq_left (by omega)]; exact q2, ⟨m, ?_⟩, (((hs1.mono (fun _ _ h => .inr h)).same (hs2.mono (fun k _ h => .inr ((foot_perm hsp k).1 h))))).same (hs3.mono (fun _ _ h => .inl h))⟩
  have hz := hys.itm m (lg ys m) (get_lg (by omega))
  rw [hlz] at hz
  exact hz.keep hs3 (fun e => (hys.na _ (List.mem_of_getElem? (get_lg (xs := ys) (k := m) (by omega)))).1 (by rw [hlz]; exact e))

set_option maxRecDepth 100000 in
set_option maxHeartbeats 1000000 in
theorem hremove_calls {w : World} {a : Nat} {M : Value} {turn : Int} {A : Option Addr} {c : Nat} {xs : List It} (h : HM w a M turn A c xs) {m i : Nat} (hl : xs.length = m + 1) (hi : i ≤ m) (hmax : m ≤ 100000) (hh : HeapG le (lg xs) xs.length) :
    Calls Try.prog 56 #[.iface 120 (.pointer (some ⟨a, 0, none⟩)), .int .i64 (i : Int)] w fun e w' => e = .returned (.iface 118 (ptr (lg xs i))) ∧ ∃ ys, HM w' a M turn A c ys ∧ (lg xs i :: ys).Perm xs ∧ HeapG le (lg ys) ys.length ∧ Step (fun k => k = a ∨ foot A xs k) w w' := by
  have c0 := h.cell0
  rw [hl] at c0
  have hm1 := meth_len c0
  have hm2 := meth_swap c0
  have n1 := fun w => nil_len a w
  have n2 := fun w => nil_swap a w
  have n3 := fun w => nil_pop a w
  have hm3 := fun w => meth_pop a w
  have ecast : ((m + 1 : Nat) : Int) - 1 = ((m : Nat) : Int) := by omega
  have HL := Lib.hid hl
  by_cases him : i = m
  · subst him
    have q0 : ((i : Int) != (i : Int)) = false := by simp
    have HP0 := pop_calls h (m := i) hl (by omega)
    obtain ⟨q1, q2⟩ := last_off (w := w) (a := a) (M := M) (turn := turn) (A := A) (c := c) hl (List.Perm.refl xs) rfl (by rw [hl] at hh; exact shrink hh (by omega))
    have HQ := Lib.hid q2
    clear h hh hl q2
    go_enter Try.func56, Try.ntmps56
    go_wp2_with (first | (go_at_call 110; refine (len_calls _ _ _ _).mono ?_; rintro e w' ⟨rfl, rfl⟩) | (go_at_call 117; refine HP0.mono ?_; rintro e w3 ⟨rfl, h3, hs3⟩))
    go_ret
    exact ⟨rfl, xs.take i, h3, q1, by rw [List.length_take, HL.out, Nat.min_eq_left (by omega)]; exact HQ.out, hs3.mono (fun _ _ h => .inl h)⟩
  · have q0 : ((m : Int) != (i : Int)) = true := by simp; omega
    have q0' : ((m : Int) == (i : Int)) = false := by simp; omega
    have hlg := lg_sw (i := i) (j := m) (xs := xs) (by omega) (by omega)
    have hbad : Bad1 le (lg (sw xs i m)) i m := by
      rw [hlg]
      rw [hl] at hh
      exact remove_bad le_tr (by omega) hh
    have hlast : lg (sw xs i m) m = lg xs i := by rw [hlg, swp_r]
    have HSW := swap_calls h (i := i) (j := m) (by omega) (by omega)
    have hsl := sw_length xs i m
    have hsp := sw_perm (xs := xs) (i := i) (j := m) (by omega) (by omega)
    rw [hl] at HSW hsl
    have HSL := Lib.hid hsl
    have HB := Lib.hid hbad
    have HD0 := Lib.hid (fun w1 (h1 : HM w1 a M turn A c (sw xs i m)) => down_calls h1 (i0 := i) (n := m) (by omega) (by omega) (by omega) HB.out)
    have HLA := Lib.hid hlast
    have HP0 := Lib.hid (fun w1 (ys : List It) (h1 : HM w1 a M turn A c ys) (hp : ys.Perm (sw xs i m)) => pop_calls h1 (m := m) (by rw [hp.length_eq, HSL.out]) (by omega))
    have HU := Lib.hid (fun w1 (ys : List It) (hy : HM w1 a M turn A c ys) (hp : ys = sw xs i m) (hk : KidsOk le (lg (sw xs i m)) i m) => up_calls (hp ▸ hy) (j := i) (n := m) (by omega) (by omega) (by omega) HB.out hk)
    have hil : i < m := by omega
    clear h hh hlg hbad hlast hl hsl
    go_enter Try.func56, Try.ntmps56
    go_wp2_with (first | (go_at_call 110; refine (len_calls _ _ _ _).mono ?_; rintro e w' ⟨rfl, rfl⟩) | (go_at_call 112; refine HSW.mono ?_; rintro e w1 ⟨rfl, h1, hs1⟩) | (go_at_call 67; refine (HD0.out _ h1).mono ?_; rintro e w2 ⟨b, ys, rfl, hys, hpm, hrest, hT, hF, hs2⟩; have HT := Lib.hid hT; have HF := Lib.hid hF; have HR := Lib.hid hrest; clear hT hF hrest) | (go_at_call 72; refine (HU.out _ _ hys (HF.out (by first | assumption | simp_all)).1 (HF.out (by first | assumption | simp_all)).2).mono ?_; rintro e w4 ⟨rfl, zs, hzs, hpm2, hh2, hr2, hs4⟩; have HR2 := Lib.hid hr2; clear hr2) | (go_at_call 117; first | (refine (HP0.out _ _ hzs hpm2).mono ?_; rintro e w3 ⟨rfl, h3, hs3⟩) | (refine (HP0.out _ _ hys hpm).mono ?_; rintro e w3 ⟨rfl, h3, hs3⟩)))
    · have hpx := hpm2.trans hsp
      have hlz : lg zs m = lg xs i := by rw [HR2.out m (Nat.le_refl _), HLA.out]
      have hyl : zs.length = m + 1 := by rw [hpx.length_eq]; exact HL.out
      obtain ⟨q1, q2⟩ := last_off (w := w) (a := a) (M := M) (turn := turn) (A := A) (c := c) HL.out hpx hlz hh2
      rw [hlz]
      go_ret
      exact ⟨rfl, zs.take m, h3, q1, by rw [List.length_take, hyl, Nat.min_eq_left (by omega)]; exact q2, ((((hs1.mono (fun _ _ h => .inr h)).same (hs2.mono (fun k _ h => .inr ((foot_perm hsp k).1 h))))).same (hs4.mono (fun k _ h => .inr ((foot_perm hsp k).1 h)))).same (hs3.mono (fun _ _ h => .inl h))⟩
    · have hb : b = true := by simp_all
      have hhz := HT.out hb
      have hpx := hpm.trans hsp
      have hlz : lg ys m = lg xs i := by rw [HR.out m (Nat.le_refl _), HLA.out]
      have hyl : ys.length = m + 1 := by rw [hpx.length_eq]; exact HL.out
      obtain ⟨q1, q2⟩ := last_off (w := w) (a := a) (M := M) (turn := turn) (A := A) (c := c) HL.out hpx hlz hhz
      rw [hlz]
      go_ret
      exact ⟨rfl, ys.take m, h3, q1, by rw [List.length_take, hyl, Nat.min_eq_left (by omega)]; exact q2, (((hs1.mono (fun _ _ h => .inr h)).same (hs2.mono (fun k _ h => .inr ((foot_perm hsp k).1 h))))).same (hs3.mono (fun _ _ h => .inl h))⟩
end Go.Proofs.Ytghiklaeenhljaa.AgStr

/- agenda: what is to be done, as a sorted list of keys, ticks and turns. Plain Lean; own work of this seat. -/
namespace Go.Proofs.Ytghiklaeenhljaa.AgP
set_option linter.unusedVariables false
structure Ev (κ : Type) where
  key : κ
  tm : Int
  turn : Int
section
variable {κ : Type}
def ltE (a b : Ev κ) : Prop := a.tm < b.tm ∨ (a.tm = b.tm ∧ a.turn < b.turn)
def Sorted (L : List (Ev κ)) : Prop := L.Pairwise ltE
def insL (L : List (Ev κ)) (e : Ev κ) : List (Ev κ) := L.takeWhile (fun s => decide (s.tm ≤ e.tm)) ++ e :: L.dropWhile (fun s => decide (s.tm ≤ e.tm))
theorem ltE_tr {a b c : Ev κ} (h : ltE a b) (k : ltE b c) : ltE a c := by unfold ltE at *; omega
theorem mem_tw {α : Type} (p : α → Bool) : ∀ (l : List α) (x : α), x ∈ l.takeWhile p → p x = true
  | [], x, h => by simp at h
  | y :: l, x, h => by
    rw [List.takeWhile_cons] at h
    split at h
    · rcases List.mem_cons.1 h with rfl | h
      · assumption
      · exact mem_tw p l x h
    · simp at h
theorem dw_head {L : List (Ev κ)} (hs : Sorted L) (n : Int) : ∀ s ∈ L.dropWhile (fun s => decide (s.tm ≤ n)), n < s.tm := by
  induction L with
  | nil => intro s h; simp at h
  | cons y L ih =>
    intro s h
    rw [List.dropWhile_cons] at h
    have hs' := List.pairwise_cons.1 hs
    split at h
    · exact ih hs'.2 s h
    · rename_i hy
      have hy' : ¬ y.tm ≤ n := by simpa using hy
      rcases List.mem_cons.1 h with rfl | h
      · omega
      · have := hs'.1 s h
        unfold ltE at this
        omega
theorem perm_ins (L : List (Ev κ)) (e : Ev κ) : (insL L e).Perm (e :: L) := by
  unfold insL
  refine List.perm_middle.trans ?_
  rw [List.takeWhile_append_dropWhile]
theorem sorted_ins {L : List (Ev κ)} {e : Ev κ} (h : Sorted L) (hn : ∀ s ∈ L, s.turn < e.turn) : Sorted (insL L e) := by
  unfold insL Sorted
  have hsub := h
  have e1 := List.takeWhile_append_dropWhile (p := fun s : Ev κ => decide (s.tm ≤ e.tm)) (l := L)
  unfold Sorted at hsub
  rw [← e1, List.pairwise_append] at hsub
  have ht : ∀ s ∈ L.takeWhile (fun s => decide (s.tm ≤ e.tm)), ltE s e := fun s hs => by
    have h1 : s.tm ≤ e.tm := by simpa using mem_tw _ _ _ hs
    have h2 := hn s (((List.takeWhile_sublist _).mem hs))
    unfold ltE; omega
  have hd : ∀ s ∈ L.dropWhile (fun s => decide (s.tm ≤ e.tm)), ltE e s := fun s hs => by
    have := dw_head h e.tm s hs
    unfold ltE; omega
  rw [List.pairwise_append]
  refine ⟨hsub.1, List.pairwise_cons.2 ⟨hd, hsub.2.1⟩, fun x hx y hy => ?_⟩
  rcases List.mem_cons.1 hy with rfl | hy
  · exact ht x hx
  · exact hsub.2.2 x hx y hy
/-- The head of a sorted list is what is the least. -/
theorem head_least {L : List (Ev κ)} {s : Ev κ} (h : Sorted L) {r : List (Ev κ)} (hp : (s :: r).Perm L) (hm : ∀ x ∈ L, ¬ ltE x s) : ∃ L', L = s :: L' ∧ r.Perm L' := by
  cases L with
  | nil => simp at hp
  | cons y L =>
    have hs' := List.pairwise_cons.1 h
    have hmem : s ∈ y :: L := hp.mem_iff.1 (List.mem_cons_self ..)
    rcases List.mem_cons.1 hmem with rfl | hin
    · exact ⟨L, rfl, (List.perm_cons _).1 hp⟩
    · exact absurd (hs'.1 s hin) (hm y (List.mem_cons_self ..))
end
section
variable {κ : Type} [DecidableEq κ]
def dropL (L : List (Ev κ)) (k : κ) : List (Ev κ) := L.filter (fun s => decide (s.key ≠ k))
def setL (L : List (Ev κ)) (k : κ) (n turn : Int) : List (Ev κ) := insL (dropL L k) ⟨k, n, turn⟩
def atL (L : List (Ev κ)) (k : κ) : Option (Ev κ) := L.find? (fun s => decide (s.key = k))
theorem sorted_drop {L : List (Ev κ)} (h : Sorted L) (k : κ) : Sorted (dropL L k) := h.filter _
theorem mem_drop {L : List (Ev κ)} {k : κ} {s : Ev κ} : s ∈ dropL L k ↔ s ∈ L ∧ s.key ≠ k := by simp [dropL]
theorem perm_set (L : List (Ev κ)) (k : κ) (n turn : Int) : (setL L k n turn).Perm (⟨k, n, turn⟩ :: dropL L k) := perm_ins _ _
theorem sorted_set {L : List (Ev κ)} (h : Sorted L) (k : κ) (n : Int) {turn : Int} (hn : ∀ s ∈ L, s.turn < turn) : Sorted (setL L k n turn) :=
  sorted_ins (sorted_drop h k) (fun s hs => hn s (mem_drop.1 hs).1)
theorem mem_set {L : List (Ev κ)} {k : κ} {n turn : Int} {s : Ev κ} : s ∈ setL L k n turn ↔ s = ⟨k, n, turn⟩ ∨ (s ∈ L ∧ s.key ≠ k) := by
  rw [(perm_set L k n turn).mem_iff, List.mem_cons, mem_drop]
theorem length_set_le (L : List (Ev κ)) (k : κ) (n turn : Int) : (setL L k n turn).length ≤ L.length + 1 := by
  rw [(perm_set L k n turn).length_eq, List.length_cons]
  have := List.length_filter_le (fun s : Ev κ => decide (s.key ≠ k)) L
  unfold dropL
  omega
/-- Taken out by its key. -/
theorem perm_drop {L R : List (Ev κ)} {s : Ev κ} (hk : (L.map (·.key)).Nodup) (hp : (s :: R).Perm L) : R.Perm (dropL L s.key) := by
  have h1 := (hp.map (·.key)).nodup_iff.2 hk
  rw [List.map_cons, List.nodup_cons] at h1
  have h2 : (dropL (s :: R) s.key).Perm (dropL L s.key) := hp.filter _
  have h3 : dropL (s :: R) s.key = R := by
    unfold dropL
    rw [List.filter_cons_of_neg (by simp)]
    rw [List.filter_eq_self]
    intro a ha
    simp only [decide_eq_true_eq]
    intro e
    exact h1.1 (e ▸ List.mem_map_of_mem ha)
  rw [h3] at h2
  exact h2
theorem drop_none {L : List (Ev κ)} {k : κ} (h : ∀ s ∈ L, s.key ≠ k) : dropL L k = L := by
  unfold dropL
  rw [List.filter_eq_self]
  intro a ha
  simp only [decide_eq_true_eq]
  exact h a ha
theorem nodup_set {L : List (Ev κ)} (k : κ) (n turn : Int) (h : (L.map (·.key)).Nodup) : ((setL L k n turn).map (·.key)).Nodup := by
  rw [((perm_set L k n turn).map (·.key)).nodup_iff, List.map_cons, List.nodup_cons]
  refine ⟨fun hm => ?_, h.sublist ((List.filter_sublist).map _)⟩
  obtain ⟨s, hs, e⟩ := List.mem_map.1 hm
  exact (mem_drop.1 hs).2 e
theorem nodup_drop {L : List (Ev κ)} (k : κ) (h : (L.map (·.key)).Nodup) : ((dropL L k).map (·.key)).Nodup := h.sublist ((List.filter_sublist).map _)
end
end Go.Proofs.Ytghiklaeenhljaa.AgP
